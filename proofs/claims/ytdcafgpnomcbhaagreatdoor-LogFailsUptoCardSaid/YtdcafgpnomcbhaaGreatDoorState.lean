/- A log on a disk, between calls; and what a call of it leaves. -/
import Derived.Test.YtdcafgpnomcbhaaGreatDoorKeeps1
namespace Go.Proofs.YtdcafgpnomcbhaaGreatDoor
open Go.RowKit
set_option linter.unusedVariables false

/-- whole, whatever was done -/
theorem wrF_full {D : DSt} (f : D.Full) (k : Nat) (s : ByteArray) : ∀ n, (wrF D k s n).1.Full
  | 0 => f
  | n + 1 => by
    rw [wrF]
    split
    · exact Full.write (wrF_full f k s n) _ _
    · exact wrF_full f k s n
theorem lwriteF_full {D : DSt} (f : D.Full) (a k size : Nat) (s : ByteArray) : (lwriteF D a k size s).1.Full := by
  have h1 := wrF_full f (2 + k * hN D.now.length + size / 64) s (s.size / 64)
  unfold lwriteF
  generalize wrF D (2 + k * hN D.now.length + size / 64) s (s.size / 64) = R at h1
  obtain ⟨D1, e1⟩ := R
  simp only at h1 ⊢
  split
  · split
    · split
      · exact Full.flush (Full.write (Full.flush h1) _ _)
      · exact Full.write (Full.flush h1) _ _
    · exact Full.flush h1
  · exact h1
theorem actF_full {D : DSt} (f : D.Full) (x : Nat × Nat × Nat) (lost clear : Bool) (s : ByteArray) : (actF D x lost clear s).1.Full := by
  unfold actF
  by_cases h1 : lost = true
  · rw [if_pos h1]; exact f
  rw [if_neg h1]
  by_cases h2 : hN D.now.length * 64 < (if clear = true then 0 else x.2.2) + s.size
  · rw [if_pos h2]; exact f
  rw [if_neg h2]
  by_cases h3 : clear = false ∧ s.size = 0
  · rw [if_pos h3]; exact f
  rw [if_neg h3]
  exact lwriteF_full f _ _ _ _

theorem Texts.chg' {w w' : World} {v : Value} {l : List ByteArray} {S : List Nat} (h : Texts w v l) (hc : Chg S w w') (hn : l ≠ [] → ∀ k, v.ownBlock = some k → k ∉ S) : Texts w' v l := by
  by_cases hl : l = []
  · subst hl
    rcases h with h | ⟨g, c, hv, hg, h1, h2, h3⟩
    · exact .inl h
    · exact .inr ⟨g, c, hv, Nat.lt_of_lt_of_le hg hc.size, h1, h2, by simp⟩
  · exact h.chg hc (hn hl)
/-- texts that a call of the log leaves alone -/
def OwnT (w0 : World) (g : Nat) (F : List Nat) (v : Value) (l : List ByteArray) : Prop := l ≠ [] → ∀ x, v.ownBlock = some x → x ∉ F ∧ x ≠ g ∧ w0.heap.size ≤ x
/-- a log on a disk, between calls -/
structure LogSt0 (B b g : Nat) (w0 : World) (n m : Nat) (wr : World) (D : DSt) (F : List Nat) (a h c : Nat) (ps : List (List ByteArray)) : Prop where
  disk : Disk B wr b D F
  rest : Rest D
  ok : D.Ok
  len : D.now.length = n
  good : Good D.now a h c ps
  aj : a ≤ m + 1
  log : LogBlk wr g b (a, h, c) false
  gF : g ∉ F
  chg : Chg [] w0 wr
  fresh : ∀ x ∈ F, w0.heap.size ≤ x
  gfresh : w0.heap.size ≤ g
/-- .. and what it holds is nv's -/
structure LogSt (B b g : Nat) (w0 : World) (n m : Nat) (nv : Value) (wr : World) (D : DSt) (F : List Nat) (a h c : Nat) (ps : List (List ByteArray)) : Prop extends LogSt0 B b g w0 n m wr D F a h c ps where
  now : Texts wr nv ps.flatten
  nowF : OwnT w0 g F nv ps.flatten
section
variable {B b g : Nat} {w0 : World} {n m : Nat} {nv : Value} {wr : World} {D : DSt} {F : List Nat} {a h c : Nat} {ps : List (List ByteArray)}
theorem LogSt0.mv (L : LogSt0 B b g w0 n m wr D F a h c ps) {w' : World} (hc : Chg [] wr w') : LogSt0 B b g w0 n m w' D F a h c ps :=
  ⟨L.disk.chg hc (by simp), L.rest, L.ok, L.len, L.good, L.aj, Blk.chg L.log hc (by simp), L.gF, L.chg.trans hc (by simp), L.fresh, L.gfresh⟩
theorem LogSt.mv (L : LogSt B b g w0 n m nv wr D F a h c ps) {w' : World} (hc : Chg [] wr w') : LogSt B b g w0 n m nv w' D F a h c ps :=
  ⟨L.toLogSt0.mv hc, L.now.chg hc (by simp), L.nowF⟩
theorem LogSt0.full (L : LogSt0 B b g w0 n m wr D F a h c ps) : D.Full := L.rest.full L.good.full
theorem LogSt0.c400 (L : LogSt0 B b g w0 n m wr D F a h c ps) (hn : n ≤ 4000) : c ≤ 1000000 := by
  have h1 := L.good.fit
  have h2 := hN_le D.now.length (by have := L.good.len; omega)
  have := L.len
  omega
/-- what a call leaves of everything else -/
theorem lw_frame (L : LogSt0 B b g w0 n m wr D F a h c ps) {w3 : World} {F' : List Nat} (hf : ∀ x ∈ F', x ∈ F ∨ wr.heap.size ≤ x) (hc : Chg (g :: F) wr w3) :
    g ∉ F' ∧ Chg [] w0 w3 ∧ (∀ x ∈ F', w0.heap.size ≤ x) ∧ ∀ (v : Value) (l : List ByteArray), Texts wr v l → OwnT w0 g F v l → Texts w3 v l ∧ OwnT w0 g F' v l := by
  refine ⟨fun hm => ?_, L.chg.trans hc ?_, fun x hx => ?_, fun v l hv hvF => ⟨hv.chg' hc (fun hl k hk hm => ?_), fun hl x hx => ⟨fun hm => ?_, (hvF hl x hx).2.1, (hvF hl x hx).2.2⟩⟩⟩
  · rcases hf g hm with h | h
    · exact L.gF h
    · have := Blk.lt L.log; omega
  · intro x hx
    rcases List.mem_cons.1 hx with rfl | hx
    · exact .inr L.gfresh
    · exact .inr (L.fresh x hx)
  · rcases hf x hx with h | h
    · exact L.fresh x h
    · exact Nat.le_trans L.chg.size h
  · rcases List.mem_cons.1 hm with rfl | hm
    · exact (hvF hl _ hk).2.1 rfl
    · exact (hvF hl _ hk).1 hm
  · rcases hf x hm with h | h
    · exact (hvF hl x hx).1 h
    · have := hv.lt x hx; omega
/-- texts that are newer than all of it -/
theorem LogSt0.own (L : LogSt0 B b g w0 n m wr D F a h c ps) {v : Value} {l : List ByteArray} (hv : ∀ x, v.ownBlock = some x → wr.heap.size ≤ x) : OwnT w0 g F v l := by
  intro _ x hx
  have h1 := hv x hx
  refine ⟨fun hm => ?_, fun hm => ?_, Nat.le_trans L.chg.size h1⟩
  · have := L.disk.lt x hm; omega
  · have := Blk.lt L.log; omega
end
/-- the power is gone: whatever is kept, there is a log -/
structure LostSt (B b g : Nat) (w0 : World) (n m : Nat) (wr : World) (D : DSt) (F : List Nat) (x : Nat × Nat × Nat) (l1 l2 : List ByteArray) : Prop where
  disk : Disk B wr b D F
  ok : D.Ok
  full : D.Full
  xa : x.1 ≤ 1000000 ∧ x.2.1 < 2 ∧ x.2.2 ≤ 1000000
  wait : D.wait.length ≤ 100000
  log : LogBlk wr g b x true
  gF : g ∉ F
  chg : Chg [] w0 wr
  fresh : ∀ x ∈ F, w0.heap.size ≤ x
  gfresh : w0.heap.size ≤ g
  crash : ∀ keep, (D.crash keep).now.length = n ∧ ∃ a h c ps, a ≤ m + 1 ∧ Good (D.crash keep).now a h c ps ∧ (ps.flatten = l1 ∨ ps.flatten = l2)
end Go.Proofs.YtdcafgpnomcbhaaGreatDoor
