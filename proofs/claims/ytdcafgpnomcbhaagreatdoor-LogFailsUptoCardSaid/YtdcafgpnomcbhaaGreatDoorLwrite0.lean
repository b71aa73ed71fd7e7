/- (*Log).write: what it does to the disk. -/
import Derived.Test.YtdcafgpnomcbhaaGreatDoorOpen
namespace Go.Proofs.YtdcafgpnomcbhaaGreatDoor
open Go.RowKit
set_option linter.unusedVariables false

def DW (B b : Nat) (F : List Nat) (w : World) (D' : DSt) (w' : World) : Prop := ∃ F', Disk B w' b D' F' ∧ Chg F w w' ∧ ∀ x ∈ F', x ∈ F ∨ w.heap.size ≤ x
theorem DW.refl {B b : Nat} {F : List Nat} {w : World} {D : DSt} (h : Disk B w b D F) : DW B b F w D w := ⟨F, h, Chg.refl _ _, fun x hx => .inl hx⟩
theorem DW.trans {B b : Nat} {F F1 : List Nat} {w w1 w2 : World} {D2 : DSt} (hc : Chg F w w1) (hf : ∀ x ∈ F1, x ∈ F ∨ w.heap.size ≤ x) (k : DW B b F1 w1 D2 w2) : DW B b F w D2 w2 := by
  obtain ⟨F2, h2, c2, f2⟩ := k
  refine ⟨F2, h2, hc.trans c2 hf, fun x hx => ?_⟩
  rcases f2 x hx with h | h
  · exact hf x h
  · have := hc.size; exact .inr (by omega)
theorem DW.chg {B b : Nat} {F : List Nat} {w w1 w2 : World} {D : DSt} (h : DW B b F w D w1) (hc : Chg [] w1 w2) : DW B b F w D w2 := by
  obtain ⟨F1, h1, c1, f1⟩ := h
  exact ⟨F1, h1.chg hc (by simp), c1.trans hc (by simp), f1⟩
theorem DPost.dw {B b : Nat} {F : List Nat} {w : World} {D : DSt} {v : Value} {e : Ending} {w' : World} (h : DPost B b F w D v e w') : e = .returned v ∧ DW B b F w D w' := h
theorem DW.blk {B b g : Nat} {F : List Nat} {w w' : World} {D : DSt} {t : TypeId} {vs : List Value} (h : DW B b F w D w') (hb : Blk w g t vs) (hg : g ∉ F) : Blk w' g t vs := by
  obtain ⟨F1, h1, c1, f1⟩ := h
  exact hb.chg c1 hg
theorem DW.env {B b : Nat} {E : Nat → Addr} {F : List Nat} {w w' : World} {D D0 : DSt} (h : DW B b F w D w') (hd : Disk B w b D0 F) (hE : Env B E w) : Env B E w' := by
  obtain ⟨F1, h1, c1, f1⟩ := h
  obtain ⟨k, n, kc, nc, wv, rfl, hB, hat⟩ := hd
  exact hE.chg c1 hB

/-- after so many chunks -/
def wrF (D : DSt) (f : Nat) (s : ByteArray) : Nat → DSt × Nat
  | 0 => (D, 0)
  | k + 1 => if (wrF D f s k).2 = 0 then (wrF D f s k).1.write ((f + k : Nat) : Int) (s.extract (64 * k) (64 * k + 64)) else wrF D f s k
def lwriteF (D : DSt) (a k size : Nat) (s : ByteArray) : DSt × Nat :=
  let r := wrF D (2 + k * hN D.now.length + size / 64) s (s.size / 64)
  if r.2 = 0 then
    let r := r.1.flush
    if r.2 = 0 then
      let r := r.1.write (((a + 1) % 2 : Nat) : Int) (bs (headL (a + 1) k (size + s.size)))
      if r.2 = 0 then r.1.flush else r
    else r
  else r
theorem write_len (D : DSt) (i : Int) (s : ByteArray) : (D.write i s).1.now.length = D.now.length := by
  unfold DSt.write; split
  · rfl
  · split
    · rfl
    · split
      · rfl
      · simp
theorem spendL_ok {l : Int} (h : -1 ≤ l) (h2 : l ≤ 9223372036854775807) : -1 ≤ spendL l ∧ spendL l ≤ 9223372036854775807 := by unfold spendL; split <;> omega
theorem write_ok {D : DSt} (ok : D.Ok) (i : Int) (s : ByteArray) (h : D.wait.length < 1000000) : (D.write i s).1.Ok := by
  unfold DSt.write
  split
  · exact ok
  · split
    · exact ok
    · split
      · exact ok
      · have := spendL_ok ok.l0 ok.l1
        exact ⟨this.1, this.2, by simp; exact ok.len, by simp; exact ok.klen, by simp; exact ok.pos, by simp; omega⟩
theorem write_wait (D : DSt) (i : Int) (s : ByteArray) : (D.write i s).1.wait.length ≤ D.wait.length + 1 := by
  unfold DSt.write
  split
  · simp
  · split
    · simp
    · split
      · simp
      · simp
theorem flush_ok {D : DSt} (ok : D.Ok) : D.flush.1.Ok := by
  unfold DSt.flush
  split
  · exact ok
  · have := spendL_ok ok.l0 ok.l1
    exact ⟨this.1, this.2, ok.len, rfl, ok.pos, by simp⟩
theorem flush_wait (D : DSt) : D.flush.1.wait.length ≤ D.wait.length := by unfold DSt.flush; split <;> simp
theorem flush_len (D : DSt) : D.flush.1.now.length = D.now.length := by unfold DSt.flush; split <;> rfl
theorem wrF_ok {D : DSt} (ok : D.Ok) (f : Nat) (s : ByteArray) : ∀ k, D.wait.length + k ≤ 1000000 → (wrF D f s k).1.Ok ∧ (wrF D f s k).1.wait.length ≤ D.wait.length + k ∧ (wrF D f s k).1.now.length = D.now.length
  | 0, _ => ⟨ok, Nat.le_refl _, rfl⟩
  | k + 1, h => by
    obtain ⟨h1, h2, h3⟩ := wrF_ok ok f s k (by omega)
    rw [wrF]
    split
    · exact ⟨write_ok h1 _ _ (by omega), Nat.le_trans (write_wait _ _ _) (by omega), by rw [write_len, h3]⟩
    · exact ⟨h1, by omega, h3⟩
end Go.Proofs.YtdcafgpnomcbhaaGreatDoor
