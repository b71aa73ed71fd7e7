/- (*Disk).Flush where it flushes; Crash. -/
import Derived.Test.YtdcafgpnomcbhaaGreatDoorDisk4
namespace Go.Proofs.YtdcafgpnomcbhaaGreatDoor
open Go.RowKit
set_option linter.unusedVariables false

theorem dFlush_post (B b k n kc nc g' c' : Nat) (l : Int) (wv : Value) (D : DSt) (w w1 w2 : World) (hB : ∀ x ∈ b :: k :: n :: wv.ownBlock.toList, B ≤ x) (hd : DiskAt w b k n kc nc wv D)
    (hb1 : Blk w1 b 57 [.int .i64 l, .slice (some ⟨k, 0, none⟩) D.kept.length kc, .slice (some ⟨n, 0, none⟩) D.now.length nc, wv]) (hc1 : Chg [b] w w1) (hc2 : Below w1.heap.size w1 w2)
    (hr : Row w2 9 1 (.slice (some ⟨g', 0, none⟩) D.now.length c') D.now.length (D.now.map .string)) (hg : w1.heap.size ≤ g') (hBw : B ≤ w.heap.size) :
    DPost B b (b :: k :: n :: wv.ownBlock.toList) w { D with left := l, kept := D.now, wait := [] } .nilIface (.returned .nilIface)
      ((w2.setCell ⟨b, 1, none⟩ (.slice (some ⟨g', 0, none⟩) D.now.length c')).setCell ⟨b, 3, none⟩ (.slice none 0 0)) := by
  have hs1 := hc1.size
  have hlb := hd.blk.lt
  have hln := hd.now.lt n rfl
  have hnbn := hd.nbn
  have C2 : Chg [b] w w2 := hc1.trans (Chg.of_below hc2 []) (by simp)
  have C3 : Chg [b] w (w2.setCell ⟨b, 1, none⟩ (.slice (some ⟨g', 0, none⟩) D.now.length c')) := C2.trans (Chg.setCell (S := [b]) _ _ _ (by simp)) (by simp)
  have C4 := C3.trans (Chg.setCell (S := [b]) _ ⟨b, 3, none⟩ (.slice none 0 0) (by simp)) (by simp)
  have hb2 := hb1.chg (Chg.of_below hc2 []) (by simp)
  have hb4 := (hb2.set 1 (.slice (some ⟨g', 0, none⟩) D.now.length c')).set 3 (.slice none 0 0)
  refine ⟨rfl, b :: g' :: n :: [], ⟨g', n, c', nc, .slice none 0 0, by simp [Value.ownBlock], ?_, ?_⟩, C4.mono (by simp), ?_⟩
  · intro x hx
    simp at hx
    rcases hx with rfl | rfl | rfl
    · exact hB _ (by simp)
    · omega
    · exact hB _ (by simp)
  · refine ⟨by simpa using hb4, (hr.set_ne _ _ (by intro x hx; cases hx; simp; omega)).set_ne _ _ (by intro x hx; cases hx; simp; omega), hd.now.chg C4 (by intro x hx; cases hx; simp; omega), Row.nil _ _ _, by omega, by omega, by omega, by simp [Value.ownBlock]⟩
  · intro x hx
    simp at hx
    rcases hx with rfl | rfl | rfl
    · simp
    · right; omega
    · simp

set_option maxHeartbeats 1000000 in
theorem dFlush_walk (B b k n kc nc : Nat) (wv : Value) (D : DSt) (w : World) (hd : DiskAt w b k n kc nc wv D) (ok : D.Ok)
    (hB : ∀ x ∈ b :: k :: n :: wv.ownBlock.toList, B ≤ x) (hBw : B ≤ w.heap.size) (hl : D.left ≠ 0) :
    Calls Tryz.prog 34 #[.pointer (some ⟨b, 0, none⟩)] w fun e w' =>
      DPost B b (b :: k :: n :: wv.ownBlock.toList) w { D with left := spendL D.left, kept := D.now, wait := [] } .nilIface e w' := by
  have hblk := hd.blk
  obtain ⟨aw, cw, rfl, -, -⟩ := hd.wait.len
  go_enter Tryz.func34, Tryz.ntmps34
  go_wp2_with (fail)
  refine (spend_some _ _ _ _ hblk hl ok.l1).mono ?_
  rintro e w1 ⟨rfl, hb1, hc1⟩
  have d2 := hb1.cell 2 rfl
  go_wp2_with (fail)
  have hn1 := hd.now.chg hc1 (by intro x hx; cases hx; simp; have := hd.nbn; omega)
  refine (clone_row _ _ _ _ _ hn1 ok.pos (by have := ok.len; omega)).mono ?_
  rintro e w2 ⟨g', c', rfl, hr, hg, hc2⟩
  have hfin := Lib.hid (dFlush_post B b k n kc nc g' c' _ _ D w w1 w2 hB hd hb1 hc1 hc2 hr hg hBw)
  have hb2 := hb1.chg (Chg.of_below hc2 []) (by simp)
  have e1 := hb2.cell 1 rfl
  have e3 := hb2.cell 3 rfl
  have f1 := hb2.froz 1
  have f3 := hb2.froz 3
  have e3' : ∀ v, (w2.setCell ⟨b, 1, none⟩ v).cell? ⟨b, 3, none⟩ = some (.slice aw D.wait.length cw) := fun v => (hb2.set 1 v).cell 3 rfl
  clear d2 hn1 hb1 hc1 hc2 hr hblk hd hl hb2
  go_wp2
  go_ret
  exact hfin.out
theorem dFlush_any (B b : Nat) (E : Nat → Addr) (F : List Nat) (D : DSt) (w : World) (hE : Env B E w) (hd : Disk B w b D F) (ok : D.Ok) :
    Calls Tryz.prog 34 #[.pointer (some ⟨b, 0, none⟩)] w fun e w' => DPost B b F w D.flush.1 (errv E D.flush.2) e w' := by
  have hd' := hd
  obtain ⟨k, n, kc, nc, wv, rfl, hB, hat⟩ := hd'
  unfold DSt.flush
  by_cases h4 : D.left = 0
  · rw [if_pos h4]
    refine (dFlush_dead B b E w hE (by have := hat.blk.cell 0 rfl; rwa [h4] at this)).mono ?_
    rintro e w' ⟨rfl, rfl⟩
    exact DPost.same hd
  rw [if_neg h4]
  exact dFlush_walk B b k n kc nc wv D w hat ok hB hE.le h4
end Go.Proofs.YtdcafgpnomcbhaaGreatDoor
