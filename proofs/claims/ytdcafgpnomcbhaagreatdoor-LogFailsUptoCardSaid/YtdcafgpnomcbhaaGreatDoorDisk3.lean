/- (*Disk).Write where it writes. -/
import Derived.Test.YtdcafgpnomcbhaaGreatDoorDisk2
import Derived.Test.YtdcafgpnomcbhaaGreatDoorApp
namespace Go.Proofs.YtdcafgpnomcbhaaGreatDoor
open Go.RowKit
set_option linter.unusedVariables false

def zeroS (k : Nat) : ByteArray := ⟨(Lib.repeatL [0] k).toArray⟩
theorem zeroS_size (k : Nat) : (zeroS k).size = k := by
  show (Lib.repeatL [0] k).toArray.size = k
  simp [Lib.repeatL_length]
theorem padS_eq (s : ByteArray) : padS s = s ++ zeroS (64 - s.size) := rfl
theorem repeat0 (k : Int) (w : World) (h0 : 0 ≤ k) (h : k ≤ 4000) :
    Calls Tryz.prog 22 #[.string ⟨#[0]⟩, .int .i64 k] w fun e w' => e = .returned (.string (zeroS k.toNat)) ∧ Below w.heap.size w w' := by
  obtain ⟨n, rfl⟩ := Int.eq_ofNat_of_zero_le h0
  exact Tryz.strings_Repeat ⟨#[0]⟩ n w (by omega) (by show (1 : Nat) * n ≤ _; omega)

theorem infoWr : (Tryz.prog.info? 86).map (fun i => (i.zero, i.size, i.bytes)) = some (some (.agg #[.int .i64 0, .string ⟨#[]⟩]), 2, 24) := by kernel_rfl

/-- What the written disk is. -/
theorem dWrite_post (B b k n kc nc : Nat) (wv : Value) (D : DSt) (i : Nat) (S : ByteArray) (w w1 w2 w5 : World) (v5 : Value) (o : Obj) (hB : ∀ x ∈ b :: k :: n :: wv.ownBlock.toList, B ≤ x)
    (hd : DiskAt w b k n kc nc wv D) (h : i < D.now.length)
    (hb1 : Blk w1 b 57 [.int .i64 (spendL D.left), .slice (some ⟨k, 0, none⟩) D.kept.length kc, .slice (some ⟨n, 0, none⟩) D.now.length nc, wv]) (hc1 : Chg [b] w w1) (hc2 : Below w1.heap.size w1 w2)
    (hown : Row w5 86 2 v5 (D.wait.length + 1) (waitCells D.wait ++ [.int .i64 i, .string S])) (hg : ((w2.setCell ⟨n, i, none⟩ (.string S)).alloc o).grownBy w5 wv.ownBlock)
    (hnew : ∀ x, v5.ownBlock = some x → wv.ownBlock = some x ∨ w2.heap.size ≤ x) (hBw : B ≤ w.heap.size) :
    DPost B b (b :: k :: n :: wv.ownBlock.toList) w { D with left := spendL D.left, now := D.now.set i S, wait := D.wait ++ [(i, S)] } .nilIface (.returned .nilIface) (w5.setCell ⟨b, 3, none⟩ v5) := by
  have hs1 := hc1.size
  have hs2 := hc2.size
  have hs3 := hg.size
  simp only [World.size_alloc] at hs3
  have hs3' : w2.heap.size + 1 ≤ w5.heap.size := by simpa [World.setCell] using hs3
  have hlb := hd.blk.lt
  have hln := hd.now.lt n rfl
  have hlk := hd.kept.lt k rfl
  have hlw := hd.wait.lt
  have hbw := hd.nbw
  have hnbn := hd.nbn
  have hnbk := hd.nbk
  have hnkn := hd.nkn
  -- the change, whole
  have C2 : Chg [b] w w2 := hc1.trans (Chg.of_below hc2 []) (by simp)
  have C3 : Chg [b, n] w (w2.setCell ⟨n, i, none⟩ (.string S)) := (C2.mono (T := [b, n]) (by simp)).trans (Chg.setCell (S := [n]) _ _ _ (by simp)) (by simp)
  have C4 : Chg [b, n] w ((w2.setCell ⟨n, i, none⟩ (.string S)).alloc o) := C3.trans (Chg.alloc [] _ o) (by simp)
  have C5 : Chg (b :: n :: wv.ownBlock.toList) w w5 := (C4.mono (T := b :: n :: wv.ownBlock.toList) (by simp)).trans (Chg.of_grown hg) (by intro x hx; left; simp at hx ⊢; exact .inr (.inr hx))
  have C6 : Chg (b :: n :: wv.ownBlock.toList) w (w5.setCell ⟨b, 3, none⟩ v5) := C5.trans (Chg.setCell (S := [b]) _ _ _ (by simp)) (by simp)
  have hv5 : ∀ x, v5.ownBlock = some x → wv.ownBlock = some x ∨ w.heap.size ≤ x := by
    intro x hx
    rcases hnew x hx with h1 | h1
    · exact .inl h1
    · right; omega
  have hv5b : ∀ x, v5.ownBlock = some x → x ≠ b ∧ x ≠ k ∧ x ≠ n := by
    intro x hx
    rcases hv5 x hx with h1 | h1
    · exact hbw x h1
    · omega
  refine ⟨rfl, b :: k :: n :: v5.ownBlock.toList, ⟨k, n, kc, nc, v5, rfl, ?_, ?_⟩, C6.mono (by intro x hx; left; simp at hx ⊢; rcases hx with h1 | h1 | h1 <;> simp [h1]), ?_⟩
  · intro x hx
    simp at hx
    rcases hx with rfl | rfl | rfl | hx
    · exact hB _ (by simp)
    · exact hB _ (by simp)
    · exact hB _ (by simp)
    · rcases hv5 x hx with h1 | h1
      · exact hB _ (by simp [h1])
      · omega
  · have hb2 := hb1.chg (Chg.of_below hc2 []) (by simp)
    have hb3 := (hb2.set_ne ⟨n, i, none⟩ (.string S) hnbn).alloc o
    have hb5 := hb3.chg (Chg.of_grown hg) (by intro hx; have := hbw b (by simpa using hx); omega)
    have hb6 := hb5.set 3 v5
    have hn2 := (hd.now.chg C2 (by intro x hx; cases hx; simp; omega)).set i (.string S) (by omega)
    refine ⟨by simpa using hb6, ?_, ?_, ?_, hnbk, hnbn, hnkn, hv5b⟩
    · refine hd.kept.chg C6 ?_
      intro x hx; cases hx
      intro hm; simp at hm
      rcases hm with h1 | h1 | h1
      · omega
      · omega
      · have := hbw k h1; omega
    · have hn5 := (hn2.chg (Chg.alloc [] _ o) (by simp)).chg (Chg.of_grown hg) (by intro x hx; cases hx; intro hx; have := hbw n (by simpa using hx); omega)
      have hn6 := hn5.chg (Chg.setCell (S := [b]) _ ⟨b, 3, none⟩ v5 (by simp)) (by intro x hx; cases hx; simp; omega)
      simpa [List.map_set] using hn6
    · have hw6 := hown.chg (Chg.setCell (S := [b]) w5 ⟨b, 3, none⟩ v5 (by simp)) (by intro x hx; have := hv5b x hx; simp; omega)
      simpa [waitCells_snoc] using hw6
  · intro x hx
    simp at hx
    rcases hx with rfl | rfl | rfl | hx
    · simp
    · simp
    · simp
    · rcases hv5 x hx with h1 | h1
      · left; simp [h1]
      · exact .inr h1
set_option maxHeartbeats 1000000 in
set_option maxRecDepth 100000 in
theorem dWrite_walk (B b k n kc nc : Nat) (E : Nat → Addr) (wv : Value) (D : DSt) (i : Nat) (s : ByteArray) (w : World) (hd : DiskAt w b k n kc nc wv D) (ok : D.Ok)
    (hB : ∀ x ∈ b :: k :: n :: wv.ownBlock.toList, B ≤ x) (hBw : B ≤ w.heap.size)
    (h : i < D.now.length) (hs : (s.size : Int) ≤ 64) (hl : D.left ≠ 0) :
    Calls Tryz.prog 33 #[.pointer (some ⟨b, 0, none⟩), .int .i64 i, .string s] w fun e w' =>
      DPost B b (b :: k :: n :: wv.ownBlock.toList) w { D with left := spendL D.left, now := D.now.set i (padS s), wait := D.wait ++ [(i, padS s)] } .nilIface e w' := by
  have hblk := hd.blk
  obtain ⟨i0, hi, hz0, hz1, hz2⟩ := info_parts infoWr
  rw [padS_eq]
  have hZ : (zeroS (64 - s.size)).size ≤ 64 := by rw [zeroS_size]; omega
  generalize hz : zeroS (64 - s.size) = Z at hZ ⊢
  have Hz := Lib.hid hz
  clear hz
  go_enter Tryz.func33, Tryz.ntmps33
  have c2 := hblk.cell 2 rfl
  have h' : (i : Int) < D.now.length := by omega
  go_wp2_with (fail)
  refine (spend_some _ _ _ _ hblk hl ok.l1).mono ?_
  rintro e w1 ⟨rfl, hb1, hc1⟩
  go_wp2_with (fail)
  refine (repeat0 _ _ (by omega) (by omega)).mono ?_
  rintro e w2 ⟨rfl, hc2⟩
  have ez : (64 - (s.size : Int)).toNat = 64 - s.size := by omega
  rw [ez, Hz.out]
  clear ez
  have hfin := fun (w5 : World) (v5 : Value) (o : Obj) => dWrite_post B b k n kc nc wv D i (s ++ Z) w w1 w2 w5 v5 o hB hd h hb1 hc1 hc2
  have Hfin := Lib.hid hfin
  clear hfin
  have hb2 := hb1.chg (Chg.of_below hc2 []) (by simp)
  have C2 : Chg [b] w w2 := hc1.trans (Chg.of_below hc2 []) (by simp)
  have hn2 := hd.now.chg C2 (by intro x hx; cases hx; simp; have := hd.nbn; omega)
  have hw2 := hd.wait.chg C2 (by intro x hx; have := hd.nbw x hx; simp; omega)
  have d2 := hb2.cell 2 rfl
  have d3 := hb2.cell 3 rfl
  have dn := hn2.cell i (u := .string D.now[i]) (by simp [h])
  have dnf := hn2.froz i
  have nbw := hd.nbw
  have nbn := hd.nbn
  have d3' : ∀ v, (w2.setCell ⟨n, i, none⟩ v).cell? ⟨b, 3, none⟩ = some wv := fun v => cell_set_ne v d3 nbn
  have hw3 : ∀ v o, Row ((w2.setCell ⟨n, i, none⟩ v).alloc o) 86 2 wv D.wait.length (waitCells D.wait) := fun v o => (hw2.set_ne _ _ (fun x hx => (nbw x hx).2.2)).alloc _
  have hsz : (w2.setCell ⟨n, i, none⟩ (.string (s ++ Z))).heap.size = w2.heap.size := by simp [World.setCell]
  have hwl := ok.wait
  clear c2 hblk hb1 hc1 hc2 hd hn2 hw2 C2 hl
  go_wp2_with (at_builtin; refine wpList_append_row _ rfl _ _ 55 rfl 86 i0 _ 2 24 Tryz.underlying55 hi hz0 hz1 hz2 rfl (by decide) _ _ _ rfl (hw3 _ _) ⟨w2.heap.size, 0, none⟩ 1 1 [.int .i64 i, .string (s ++ Z)] rfl rfl ?c1 ?c2 ?c3 ?c4 ?_)
  case c1 => rw [← hsz]; exact cells_new _ [_, _] _
  case c2 => simp [Value.oneCell']
  case c3 => unfold maxLen; omega
  case c4 => omega
  intro v5 w5 hown hgr hblk5 _
  obtain ⟨a5, c5, rfl, -, -⟩ := hown.len
  have hb5 := ((hb2.set_ne ⟨n, i, none⟩ _ nbn).alloc _).chg (Chg.of_grown hgr) (by intro hx; exact (nbw b (by simpa using hx)).1 rfl)
  have k3 := hb5.cell 3 rfl
  have kf3 := hb5.froz 3
  have hfin := Hfin.out w5 _ _ hown hgr (fun x hx => (hblk5 x hx).imp id (fun h => by omega)) hBw
  have Hf := Lib.hid hfin
  clear hfin Hfin hown hgr hblk5 hb5
  go_wp2
  go_ret
  exact Hf.out
/-- (*Disk).Write, whatever it is given. -/
theorem dWrite_any (B b : Nat) (E : Nat → Addr) (F : List Nat) (D : DSt) (i : Int) (s : ByteArray) (w : World) (hE : Env B E w) (hd : Disk B w b D F) (ok : D.Ok) :
    Calls Tryz.prog 33 #[.pointer (some ⟨b, 0, none⟩), .int .i64 i, .string s] w fun e w' => DPost B b F w (D.write i s).1 (errv E (D.write i s).2) e w' := by
  have hd' := hd
  obtain ⟨k, n, kc, nc, wv, rfl, hB, hat⟩ := hd'
  have c2 := hat.blk.cell 2 rfl
  unfold DSt.write
  by_cases h1 : i < 0
  · rw [if_pos (.inl h1)]
    refine (dWrite_neg B b E [] D i s w hE h1).mono ?_
    rintro e w' ⟨rfl, rfl⟩
    exact DPost.same hd
  by_cases h2 : (D.now.length : Int) ≤ i
  · rw [if_pos (.inr h2)]
    refine (dWrite_far B b E [] D i s w hE _ _ _ c2 h1 h2).mono ?_
    rintro e w' ⟨rfl, rfl⟩
    exact DPost.same hd
  rw [if_neg (by omega)]
  by_cases h3 : 64 < s.size
  · rw [if_pos h3]
    refine (dWrite_long B b E [] D i s w hE _ _ _ c2 h1 (by omega) (by omega)).mono ?_
    rintro e w' ⟨rfl, rfl⟩
    exact DPost.same hd
  rw [if_neg h3]
  by_cases h4 : D.left = 0
  · rw [if_pos h4]
    refine (dWrite_dead B b E [] D i s w hE _ _ _ c2 (by have := hat.blk.cell 0 rfl; rwa [h4] at this) h1 (by omega) (by omega)).mono ?_
    rintro e w' ⟨rfl, rfl⟩
    exact DPost.same hd
  rw [if_neg h4]
  obtain ⟨j, rfl⟩ := Int.eq_ofNat_of_zero_le (by omega : 0 ≤ i)
  simp only [Int.toNat_natCast]
  exact dWrite_walk B b k n kc nc E wv D j s w hat ok hB hE.le (by omega) (by omega) h4
end Go.Proofs.YtdcafgpnomcbhaaGreatDoor
