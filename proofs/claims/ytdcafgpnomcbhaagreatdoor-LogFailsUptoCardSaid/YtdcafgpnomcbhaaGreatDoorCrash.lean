/- (*Disk).Crash. -/
import Derived.Test.YtdcafgpnomcbhaaGreatDoorDisk5
namespace Go.Proofs.YtdcafgpnomcbhaaGreatDoor
open Go.RowKit
set_option linter.unusedVariables false

/-- what is kept of the first j waiting writes -/
def crashTo (ws : List (Nat × ByteArray)) (keep : List Bool) (l : List ByteArray) : Nat → List ByteArray
  | 0 => l
  | j + 1 => if keep.getD j false then (crashTo ws keep l j).set (ws.getD j (0, ⟨#[]⟩)).1 (ws.getD j (0, ⟨#[]⟩)).2 else crashTo ws keep l j
theorem crashTo_len (ws : List (Nat × ByteArray)) (keep : List Bool) (l : List ByteArray) (j : Nat) : (crashTo ws keep l j).length = l.length := by
  induction j with
  | zero => rfl
  | succ j ih => unfold crashTo; split <;> simp [ih]
theorem crashTo_hit {ws : List (Nat × ByteArray)} {keep : List Bool} {l : List ByteArray} {j m : Nat} {t : ByteArray} (h : j < keep.length) (hb : keep[j] = true) (hm : ws.getD j (0, ⟨#[]⟩) = (m, t)) :
    crashTo ws keep l (j + 1) = (crashTo ws keep l j).set m t := by
  rw [crashTo, if_pos (by simp [h, hb]), hm]
theorem waitCells_get (l : List (Nat × ByteArray)) : ∀ j, j < l.length → (waitCells l)[j * 2]? = some (.int .i64 (l.getD j (0, ⟨#[]⟩)).1) ∧ (waitCells l)[j * 2 + 1]? = some (.string (l.getD j (0, ⟨#[]⟩)).2) := by
  induction l with
  | nil => intro j hj; simp at hj
  | cons p l ih =>
    intro j hj
    cases j with
    | zero => simp [waitCells]
    | succ j =>
      have := ih j (by simpa using hj)
      rw [show (j + 1) * 2 = j * 2 + 1 + 1 by omega]
      simpa [waitCells] using this

def DSt.crash (D : DSt) (keep : List Bool) : DSt :=
  { left := -1, kept := crashTo D.wait keep D.kept D.wait.length, now := crashTo D.wait keep D.kept D.wait.length, wait := [] }

theorem crash_post (B b k n kc nc g' c' : Nat) (wv : Value) (D : DSt) (K : List ByteArray) (w wr w2 : World) (hB : ∀ x ∈ b :: k :: n :: wv.ownBlock.toList, B ≤ x) (hd : DiskAt w b k n kc nc wv D) (ok : D.Ok) (hBw : B ≤ w.heap.size)
    (hK : K.length = D.kept.length) (hC : Chg [k] w wr) (hR : Row wr 9 1 (.slice (some ⟨k, 0, none⟩) D.kept.length kc) D.kept.length (K.map .string))
    (hc2 : Below wr.heap.size wr w2) (hr : Row w2 9 1 (.slice (some ⟨g', 0, none⟩) D.kept.length c') D.kept.length (K.map .string)) (hg : wr.heap.size ≤ g') :
    DPost B b (b :: k :: n :: wv.ownBlock.toList) w { left := -1, kept := K, now := K, wait := [] } (.tuple #[]) (.returned (.tuple #[]))
      (((w2.setCell ⟨b, 2, none⟩ (.slice (some ⟨g', 0, none⟩) D.kept.length c')).setCell ⟨b, 3, none⟩ (.slice none 0 0)).setCell ⟨b, 0, none⟩ (.int .i64 (-1))) := by
  have hs1 := hC.size
  have hlb := hd.blk.lt
  have hlk := hd.kept.lt k rfl
  have hbk := hd.nbk
  have C2 : Chg [k] w w2 := hC.trans (Chg.of_below hc2 []) (by simp)
  have C3 : Chg [b] w2 (((w2.setCell ⟨b, 2, none⟩ (.slice (some ⟨g', 0, none⟩) D.kept.length c')).setCell ⟨b, 3, none⟩ (.slice none 0 0)).setCell ⟨b, 0, none⟩ (.int .i64 (-1))) :=
    ((Chg.setCell (S := [b]) _ _ _ (by simp)).trans (Chg.setCell (S := [b]) _ _ _ (by simp)) (by simp)).trans (Chg.setCell (S := [b]) _ _ _ (by simp)) (by simp)
  have hb2 := (hd.blk.chg C2 (by simp; omega))
  have hb4 := ((hb2.set 2 (.slice (some ⟨g', 0, none⟩) D.kept.length c')).set 3 (.slice none 0 0)).set 0 (.int .i64 (-1))
  refine ⟨rfl, b :: k :: g' :: [], ⟨k, g', kc, c', .slice none 0 0, by simp [Value.ownBlock], ?_, ?_⟩, ((C2.mono (T := [k, b]) (by simp)).trans (C3.mono (T := [k, b]) (by simp)) (by simp)).mono (by simp), ?_⟩
  · intro x hx
    simp at hx
    rcases hx with rfl | rfl | rfl
    · exact hB _ (by simp)
    · exact hB _ (by simp)
    · omega
  · refine ⟨by simpa [hK] using hb4, ?_, ?_, Row.nil _ _ _, by omega, by omega, by omega, by simp [Value.ownBlock]⟩
    · have := (hR.chg (Chg.of_below hc2 []) (by simp)).chg C3 (by intro x hx; cases hx; simp; omega)
      simpa [hK] using this
    · have := hr.chg C3 (by intro x hx; cases hx; simp; omega)
      simpa [hK] using this
  · intro x hx
    simp at hx
    rcases hx with rfl | rfl | rfl
    · simp
    · simp
    · right; omega

set_option maxHeartbeats 1000000 in
set_option maxRecDepth 100000 in
theorem crash_walk (B b k n kc nc : Nat) (wv kv : Value) (kl : List Bool) (D : DSt) (w : World) (hd : DiskAt w b k n kc nc wv D) (ok : D.Ok) (hB : ∀ x ∈ b :: k :: n :: wv.ownBlock.toList, B ≤ x) (hBw : B ≤ w.heap.size)
    (hw : ∀ p ∈ D.wait, p.1 < D.kept.length) (hk : Row w 4 1 kv kl.length (kl.map .bool)) (hkF : ∀ x, kv.ownBlock = some x → x ≠ k) :
    Calls Tryz.prog 13 #[.pointer (some ⟨b, 0, none⟩), kv] w fun e w' => DPost B b (b :: k :: n :: wv.ownBlock.toList) w (D.crash kl) (.tuple #[]) e w' := by
  have hblk := hd.blk
  have c3 := hblk.cell 3 rfl
  have hwl := ok.wait
  obtain ⟨aw, cw, rfl, -, -⟩ := hd.wait.len
  obtain ⟨ka, kcap, rfl, hk1, hk2⟩ := hk.len
  unfold maxLen at hk2
  have hpost := Lib.hid (fun wr w2 g' c' => crash_post B b k n kc nc g' c' (.slice aw D.wait.length cw) D (crashTo D.wait kl D.kept D.wait.length) w wr w2 hB hd ok hBw (crashTo_len _ _ _ _))
  clear hB hBw
  unfold DSt.crash
  go_enter Tryz.func13, Tryz.ntmps13
  go_wp2
  go_loopw [11] (fun i wr => ∃ j : Nat, j ≤ D.wait.length ∧ i = .int .i64 j ∧ Chg [k] w wr ∧ Row wr 9 1 (.slice (some ⟨k, 0, none⟩) D.kept.length kc) D.kept.length ((crashTo D.wait kl D.kept j).map .string)) (fun i _ => D.wait.length - (intOf i).toNat)
  case atStart => exact ⟨0, Nat.zero_le _, rfl, Chg.refl _ _, hd.kept⟩
  case round =>
    obtain ⟨j, hj, rfl, hC, hR⟩ := hrel
    by_cases hlt : j < D.wait.length
    · obtain ⟨gw, cw', hv, -, -⟩ := hd.wait.pos (by omega)
      injection hv with hv1 hv2 hv3
      subst hv1
      clear hv2 hv3
      have hgw := hd.nbw gw rfl
      have hwr := hd.wait.chg hC (by intro x hx; cases hx; simp; exact hgw.2.1)
      obtain ⟨m, t, hmt⟩ : ∃ m t, D.wait.getD j (0, ⟨#[]⟩) = (m, t) := ⟨_, _, rfl⟩
      have g0 := hwr.cell (j * 2) (waitCells_get D.wait j hlt).1
      have g1 := hwr.cell (j * 2 + 1) (waitCells_get D.wait j hlt).2
      rw [hmt] at g0 g1
      have hwj : m < D.kept.length := by
        have := hw _ (List.getElem_mem hlt)
        simp [hlt] at hmt
        rwa [hmt] at this
      have Hmt := Lib.hid hmt
      clear hmt
      have e1 : ∀ o, Row (wr.alloc o) 9 1 (.slice (some ⟨k, 0, none⟩) D.kept.length kc) D.kept.length ((crashTo D.wait kl D.kept j).map .string) := fun o => hR.alloc o
      have q1 : ∀ o, Chg [k] w (wr.alloc o) := fun o => hC.trans (Chg.alloc [] _ _) (by simp)
      by_cases hkl : j < kl.length
      · obtain ⟨gk, kcap', hv, -, -⟩ := hk.pos (by omega)
        injection hv with hv1 hv2 hv3
        subst hv1
        clear hv2 hv3
        have hkr := hk.chg hC (by intro x hx; simpa using hkF x hx)
        have q := hkr.cell j (u := .bool kl[j]) (by simp [hkl])
        have lg := hkr.lt gk rfl
        by_cases hb : kl[j] = true
        · rw [hb] at q
          have Hb := Lib.hid hb
          clear hb
          have hbr := hblk.chg hC (by simp; have := hd.nbk; omega)
          have z1 := hbr.cell 1 rfl
          obtain ⟨old, zk⟩ : ∃ old, wr.cell? ⟨k, m, none⟩ = some old := ⟨_, hR.cell m (u := .string ((crashTo D.wait kl D.kept j).getD m ⟨#[]⟩)) (by simp [crashTo_len, hwj])⟩
          have zf := hR.froz m
          have lb := hbr.lt
          have lk := hR.lt k rfl
          have E3 := Lib.hid (fun o => ((hR.set m (.string t) (by omega)).alloc o).drew)
          have E4 := Lib.hid (fun o => ((hC.trans (Chg.setCell (S := [k]) wr ⟨k, m, none⟩ (.string t) (by simp)) (by simp)).trans (Chg.alloc [] _ o) (by simp)).trans (Chg.drew [] _) (by simp))
          clear hk hR hwr hkr hd hblk c3 hbr e1 q1 hC hpost
          go_wp2
          go_region
          go_wp2
          go_roundw
          case rel =>
            refine ⟨j + 1, by omega, by go_num, E4.out _, ?_⟩
            have := E3.out (.cells #[.int .i64 m, .string t] 86)
            rw [crashTo_hit hkl Hb.out Hmt.out, List.map_set]
            exact this
          case measure => simp [intOf]; omega
        · have hb' : kl[j] = false := by simpa using hb
          rw [hb'] at q
          have Hb := Lib.hid hb'
          have E1 := Lib.hid e1
          have Q1 := Lib.hid q1
          clear hb hb' hk hR hwr hkr hd hblk c3 e1 q1 hC hpost
          go_wp2
          go_roundw
          case rel =>
            refine ⟨j + 1, by omega, by go_num, Q1.out _, ?_⟩
            have := E1.out (.cells #[.int .i64 m, .string t] 86)
            simpa [crashTo, hkl, Hb.out] using this
          case measure => simp [intOf]; omega
      · have E1 := Lib.hid e1
        have Q1 := Lib.hid q1
        clear hk hR hwr hd hblk c3 e1 q1 hC hpost
        go_wp2
        go_roundw
        case rel =>
          refine ⟨j + 1, by omega, by go_num, Q1.out _, ?_⟩
          have := E1.out (.cells #[.int .i64 m, .string t] 86)
          simpa [crashTo, hkl] using this
        case measure => simp [intOf]; omega
    · have hj' : j = D.wait.length := by omega
      subst hj'
      have hbr := hblk.chg hC (by simp; have := hd.nbk; omega)
      have z1 := hbr.cell 1 rfl
      clear c3
      go_wp2_with (fail)
      refine (clone_row _ _ _ _ _ hR (by have := ok.pos; have := ok.klen; omega) (by have := ok.len; have := ok.klen; omega)).mono ?_
      rintro e w2 ⟨g', c', rfl, hr, hg, hc2⟩
      have hfin := Lib.hid (hpost.out wr w2 g' c' hC hR hc2 hr hg)
      have hb2 := hbr.chg (Chg.of_below hc2 []) (by simp)
      have e0 := hb2.cell 0 rfl
      have e2 := hb2.cell 2 rfl
      have e3 := hb2.cell 3 rfl
      have f0 := hb2.froz 0
      have f2 := hb2.froz 2
      have f3 := hb2.froz 3
      have e3' : ∀ v, (w2.setCell ⟨b, 2, none⟩ v).cell? ⟨b, 3, none⟩ = some (.slice aw D.wait.length cw) := fun v => (hb2.set 2 v).cell 3 rfl
      have e0' : ∀ v u, ((w2.setCell ⟨b, 2, none⟩ v).setCell ⟨b, 3, none⟩ u).cell? ⟨b, 0, none⟩ = some (.int .i64 D.left) := fun v u => ((hb2.set 2 v).set 3 u).cell 0 rfl
      clear z1 hbr hb2 hr hc2 hC hR hd hblk hpost hk
      go_wp2
      go_end0
      exact hfin.out
end Go.Proofs.YtdcafgpnomcbhaaGreatDoor
