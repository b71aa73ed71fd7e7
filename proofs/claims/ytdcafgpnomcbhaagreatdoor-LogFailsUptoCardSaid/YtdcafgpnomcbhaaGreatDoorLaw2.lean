/- The plain law: what a write of the log leaves, with power or without. -/
import Derived.Test.YtdcafgpnomcbhaaGreatDoorLaw1
namespace Go.Proofs.YtdcafgpnomcbhaaGreatDoor
open Go.RowKit
set_option linter.unusedVariables false

def fillK (K : List ByteArray) (f : Nat) (s : ByteArray) : Nat → List ByteArray
  | 0 => K
  | n + 1 => (fillK K f s n).set (f + n) (s.extract (64 * n) (64 * n + 64))
theorem fillK_like {K : List ByteArray} (hK : ∀ s ∈ K, s.size = 64) (f : Nat) (s : ByteArray) (N : Nat) (hs : s.size = 64 * N) : ∀ n, n ≤ N → Like K f n (fillK K f s n)
  | 0, _ => ⟨rfl, hK, fun _ _ => rfl⟩
  | n + 1, hn => by
    have l := fillK_like hK f s N hs n (by omega)
    have l' : Like K f (n + 1) (fillK K f s n) := ⟨l.len, l.full, fun i hi => l.at' i (by omega)⟩
    exact l'.set (by omega) (by omega) (by rw [ByteArray.size_extract]; omega)
theorem padS_whole {s : ByteArray} (h : s.size = 64) : padS s = s := by
  unfold padS
  rw [h]
  apply ByteArray.ext
  rw [ByteArray.data_append]
  simp [Lib.repeatL]
/-- as it was, but in a region that is being written -/
structure Near (K : List ByteArray) (f n : Nat) (D : DSt) : Prop where
  kept : Like K f n D.kept
  wait : ∀ p ∈ D.wait, f ≤ p.1 ∧ p.1 < f + n ∧ p.2.size = 64
theorem Near.crashTo {K : List ByteArray} {f n : Nat} {D : DSt} (h : Near K f n D) (keep : List Bool) : ∀ j, j ≤ D.wait.length → Like K f n (crashTo D.wait keep D.kept j)
  | 0, _ => h.kept
  | j + 1, hj => by
    have ih := h.crashTo keep j (by omega)
    unfold Go.Proofs.YtdcafgpnomcbhaaGreatDoor.crashTo
    split
    · have hm : D.wait.getD j (0, ⟨#[]⟩) ∈ D.wait := by
        rw [List.getD_eq_getElem?_getD, List.getElem?_eq_getElem (by omega)]
        exact List.getElem_mem _
      have := h.wait _ hm
      exact ih.set this.1 this.2.1 this.2.2
    · exact ih
theorem Near.crash {K : List ByteArray} {f n : Nat} {D : DSt} (h : Near K f n D) (keep : List Bool) : Like K f n (D.crash keep).now := h.crashTo keep _ (Nat.le_refl _)
/-- a disk at rest -/
structure Rest (D : DSt) : Prop where
  kept : D.kept = D.now
  wait : D.wait = []
theorem wrF_all {D : DSt} (r : Rest D) (hK : ∀ s ∈ D.now, s.size = 64) (f : Nat) (s : ByteArray) (N : Nat) (hs : s.size = 64 * N) (hf : f + N ≤ D.now.length) : ∀ n, n ≤ N →
    Near D.now f N (wrF D f s n).1 ∧ (((wrF D f s n).2 = 0 ∧ (wrF D f s n).1.now = fillK D.now f s n) ∨ (wrF D f s n).2 = 15) ∧ (D.left = -1 → (wrF D f s n).2 = 0 ∧ (wrF D f s n).1.left = -1)
  | 0, _ => ⟨⟨by rw [wrF, r.kept]; exact Like.refl f N hK, by rw [wrF, r.wait]; simp⟩, .inl ⟨rfl, rfl⟩, fun h => ⟨rfl, h⟩⟩
  | n + 1, hn => by
    obtain ⟨h1, h2, h3⟩ := wrF_all r hK f s N hs hf n (by omega)
    rw [wrF]
    by_cases h0 : (wrF D f s n).2 = 0
    · rw [if_pos h0]
      have hnow : (wrF D f s n).1.now = fillK D.now f s n := by
        rcases h2 with ⟨-, h2⟩ | h2
        · exact h2
        · rw [h0] at h2; cases h2
      have hlen : (wrF D f s n).1.now.length = D.now.length := by rw [hnow]; exact (fillK_like hK f s N hs n (by omega)).len
      have hx : (s.extract (64 * n) (64 * n + 64)).size = 64 := by rw [ByteArray.size_extract]; omega
      generalize (wrF D f s n).1 = D1 at h1 h3 hnow hlen
      unfold DSt.write
      rw [if_neg (by omega), if_neg (by omega)]
      by_cases hl : D1.left = 0
      · rw [if_pos hl]
        refine ⟨h1, .inr rfl, fun h => ?_⟩
        have := (h3 h).2
        rw [hl] at this
        cases this
      · rw [if_neg hl, padS_whole hx]
        refine ⟨⟨h1.kept, fun p hp => ?_⟩, .inl ⟨rfl, ?_⟩, fun h => ⟨rfl, ?_⟩⟩
        · rcases List.mem_append.1 hp with hp | hp
          · exact h1.wait p hp
          · rw [List.mem_singleton] at hp
            subst hp
            exact ⟨by show f ≤ ((f + n : Nat) : Int).toNat; omega, by show ((f + n : Nat) : Int).toNat < _; omega, hx⟩
        · show D1.now.set ((f + n : Nat) : Int).toNat _ = _
          rw [Int.toNat_natCast, hnow]
          rfl
        · show spendL D1.left = -1
          rw [(h3 h).2]; rfl
    · rw [if_neg h0]
      refine ⟨h1, ?_, fun h => absurd (h3 h).1 h0⟩
      rcases h2 with ⟨h2, -⟩ | h2
      · exact absurd h2 h0
      · exact .inr h2
theorem lwriteF_all {D : DSt} (r : Rest D) (hK : ∀ s ∈ D.now, s.size = 64) (a k size : Nat) (s : ByteArray) (N : Nat) (hs : s.size = 64 * N) (hf : 2 + k * hN D.now.length + size / 64 + N ≤ D.now.length) (h2 : 2 ≤ D.now.length)
    (ha : a + 1 < 10 ^ 9) (hk : k < 2) (hz : size + s.size < 10 ^ 9) :
    (((lwriteF D a k size s).2 = 0 ∧ Rest (lwriteF D a k size s).1 ∧ (lwriteF D a k size s).1.now = (fillK D.now (2 + k * hN D.now.length + size / 64) s N).set ((a + 1) % 2) (headSec (a + 1) k (size + s.size))) ∨
      ((lwriteF D a k size s).2 = 15 ∧ ∀ keep, Like D.now (2 + k * hN D.now.length + size / 64) N ((lwriteF D a k size s).1.crash keep).now ∨
        ((lwriteF D a k size s).1.crash keep).now = (fillK D.now (2 + k * hN D.now.length + size / 64) s N).set ((a + 1) % 2) (headSec (a + 1) k (size + s.size)))) ∧
    (D.left = -1 → (lwriteF D a k size s).2 = 0 ∧ (lwriteF D a k size s).1.left = -1) := by
  have hnN : s.size / 64 = N := by omega
  generalize hff : 2 + k * hN D.now.length + size / 64 = f at hf
  obtain ⟨h1, h2', h3⟩ := wrF_all r hK f s N hs hf N (Nat.le_refl _)
  have hfl := fillK_like hK f s N hs N (Nat.le_refl _)
  unfold lwriteF
  rw [hff, hnN]
  generalize wrF D f s N = R at h1 h2' h3
  obtain ⟨D1, e1⟩ := R
  simp only at h1 h2' h3 ⊢
  rcases h2' with ⟨rfl, hnow⟩ | rfl
  · rw [if_pos rfl]
    by_cases hl : D1.left = 0
    · have : D1.flush = (D1, 15) := by unfold DSt.flush; rw [if_pos hl]
      rw [this]
      simp only
      rw [if_neg (by decide)]
      refine ⟨.inr ⟨rfl, fun keep => .inl (h1.crash keep)⟩, fun h => ?_⟩
      have := (h3 h).2; rw [hl] at this; cases this
    · have : D1.flush = ({ D1 with left := spendL D1.left, kept := D1.now, wait := [] }, 0) := by unfold DSt.flush; rw [if_neg hl]
      rw [this]
      simp only
      rw [if_true]
      have hlen : D1.now.length = D.now.length := by rw [hnow]; exact hfl.len
      have hhs : (bs (headL (a + 1) k (size + s.size))).size ≤ 64 := by rw [bs_size, headL_len _ _ _ (by omega) (by omega) (by omega)]; decide
      have hsec : padS (bs (headL (a + 1) k (size + s.size))) = headSec (a + 1) k (size + s.size) := rfl
      have hs64 := headSec_size (a + 1) k (size + s.size) (by omega) hk (by omega)
      have hleft1 : D.left = -1 → spendL D1.left = -1 := fun h => by rw [(h3 h).2]; rfl
      generalize spendL D1.left = l1 at hleft1
      by_cases hl1 : l1 = 0
      · have : ({ D1 with left := l1, kept := D1.now, wait := [] } : DSt).write (((a + 1) % 2 : Nat) : Int) (bs (headL (a + 1) k (size + s.size))) = ({ D1 with left := l1, kept := D1.now, wait := [] }, 15) := by
          unfold DSt.write
          rw [if_neg (by simp only; omega), if_neg (by omega), if_pos hl1]
        rw [this]
        simp only
        rw [if_neg (by decide)]
        refine ⟨.inr ⟨rfl, fun keep => .inl ?_⟩, fun h => by have := hleft1 h; omega⟩
        have hn : Near D.now f N { D1 with left := l1, kept := D1.now, wait := [] } := ⟨by simp only; rw [hnow]; exact hfl, by simp⟩
        exact hn.crash keep
      · have : ({ D1 with left := l1, kept := D1.now, wait := [] } : DSt).write (((a + 1) % 2 : Nat) : Int) (bs (headL (a + 1) k (size + s.size))) = ({ left := spendL l1, kept := D1.now, now := D1.now.set ((a + 1) % 2) (headSec (a + 1) k (size + s.size)), wait := [((a + 1) % 2, headSec (a + 1) k (size + s.size))] }, 0) := by
          unfold DSt.write
          rw [if_neg (by simp only; omega), if_neg (by omega), if_neg hl1, hsec, Int.toNat_natCast]
          rfl
        rw [this]
        simp only
        rw [if_true]
        have hleft2 : D.left = -1 → spendL l1 = -1 := fun h => by rw [hleft1 h]; rfl
        generalize spendL l1 = l2 at hleft2
        rw [hnow]
        by_cases hl2 : l2 = 0
        · unfold DSt.flush
          rw [if_pos hl2]
          refine ⟨.inr ⟨rfl, fun keep => ?_⟩, fun h => by have := hleft2 h; omega⟩
          unfold DSt.crash
          simp only [List.length_singleton, crashTo, List.getD_cons_zero]
          split
          · exact .inr rfl
          · exact .inl hfl
        · unfold DSt.flush
          rw [if_neg hl2]
          refine ⟨.inl ⟨rfl, ⟨rfl, rfl⟩, rfl⟩, fun h => ⟨rfl, ?_⟩⟩
          simp only
          rw [hleft2 h]; rfl
  · rw [if_neg (by decide)]
    refine ⟨.inr ⟨rfl, fun keep => .inl (h1.crash keep)⟩, fun h => ?_⟩
    have := (h3 h).1; cases this
end Go.Proofs.YtdcafgpnomcbhaaGreatDoor
