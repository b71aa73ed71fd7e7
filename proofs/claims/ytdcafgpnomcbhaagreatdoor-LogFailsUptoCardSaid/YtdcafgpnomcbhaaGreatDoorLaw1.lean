/- The plain law: what stands on a disk with a log. -/
import Derived.Test.YtdcafgpnomcbhaaGreatDoorRound2
namespace Go.Proofs.YtdcafgpnomcbhaaGreatDoor
open Go.RowKit
set_option linter.unusedVariables false

def headSec (a h c : Nat) : ByteArray := padS (bs (headL a h c))
def dataK (K : List ByteArray) (b n : Nat) : List UInt8 := ((K.drop (2 + b * hN K.length)).take n).flatMap fun s => s.data.toList
theorem dataF_K (D : DSt) (b n : Nat) : dataF D b n = dataK D.now b n := rfl
structure Good (K : List ByteArray) (a h c : Nat) (ps : List (List ByteArray)) : Prop where
  len : 8 ≤ K.length
  full : ∀ s ∈ K, s.size = 64
  h2 : h < 2
  ha : a < 10 ^ 9
  head : K[a % 2]? = some (headSec a h c)
  other : ∀ s, K[(a + 1) % 2]? = some s → ∀ y, headF s.data.toList = some y → y.1 < a
  fit : c ≤ hN K.length * 64
  cm : c % 64 = 0
  c9 : c < 10 ^ 9
  data : dataK K h (c / 64) = packsL ps
  small : ∀ p ∈ ps, ∀ r ∈ p, r.size < 10 ^ 10

theorem headF_sec (a h c : Nat) (ha : a < 10 ^ 10) (hb : h < 2) (hc : c < 10 ^ 10) : headF (headSec a h c).data.toList = some (a, h, c) := headF_headL a h c ha hb hc
theorem Good.best {D : DSt} {a h c : Nat} {ps : List (List ByteArray)} (g : Good D.now a h c ps) : bestF D (min 2 D.now.length) = some (a, h, c) := by
  have hl := g.len
  obtain ⟨s0, s1, r, hr⟩ : ∃ s0 s1 r, D.now = s0 :: s1 :: r := by
    cases hn : D.now with
    | nil => rw [hn] at hl; simp at hl
    | cons s0 r =>
      cases r with
      | nil => rw [hn] at hl; simp at hl
      | cons s1 r => exact ⟨s0, s1, r, rfl⟩
  have hH := g.fit
  unfold bestF
  generalize hN D.now.length = H at hH ⊢
  rw [show min 2 D.now.length = 2 by omega]
  have hh := g.head
  have ho := g.other
  have hsec := headF_sec a h c (by have := g.ha; omega) g.h2 (by have := g.c9; omega)
  rw [hr] at hh ho ⊢
  simp only [List.take_succ_cons, List.take_zero, List.foldl_cons, List.foldl_nil]
  have hcm := g.cm
  rcases Nat.mod_two_eq_zero_or_one a with h0 | h1
  · rw [h0] at hh
    rw [show (a + 1) % 2 = 1 by omega] at ho
    have e0 : s0 = headSec a h c := by simpa using hh
    have ho1 := ho s1 (by simp)
    have b0 : better H none s0.data.toList = some (a, h, c) := by
      unfold better; rw [e0, hsec]; simp [hcm, hH]
    rw [b0]
    unfold better
    cases hf : headF s1.data.toList with
    | none => rfl
    | some y =>
      have := ho1 y hf
      simp only
      rw [if_neg]
      simp; omega
  · rw [h1] at hh
    rw [show (a + 1) % 2 = 0 by omega] at ho
    have e1 : s1 = headSec a h c := by simpa using hh
    have ho0 := ho s0 (by simp)
    have hall : (better H none s0.data.toList).all (fun y => decide (y.1 < a)) = true := by
      unfold better
      cases hf : headF s0.data.toList with
      | none => rfl
      | some y =>
        have := ho0 y hf
        simp only
        split
        · simp [this]
        · rfl
    generalize better H none s0.data.toList = x at hall
    unfold better
    rw [e1, hsec]
    simp only
    rw [if_pos ⟨hcm, hH, hall⟩]
theorem Good.opens {D : DSt} {a h c : Nat} {ps : List (List ByteArray)} (g : Good D.now a h c ps) : openF D = some ((a, h, c), ps.flatten.map fun r => r.data.toList) := by
  unfold openF
  rw [g.best]
  simp only
  rw [dataF_K, g.data, parse_packs ps g.small]
  rfl
/-- the same but in a region -/
structure Like (K : List ByteArray) (f n : Nat) (K' : List ByteArray) : Prop where
  len : K'.length = K.length
  full : ∀ s ∈ K', s.size = 64
  at' : ∀ i, ¬ (f ≤ i ∧ i < f + n) → K'[i]? = K[i]?
theorem dataK_same {K K' : List ByteArray} (hl : K'.length = K.length) (b n : Nat) (h : ∀ i, 2 + b * hN K.length ≤ i → i < 2 + b * hN K.length + n → K'[i]? = K[i]?) : dataK K' b n = dataK K b n := by
  unfold dataK
  rw [hl]
  congr 1
  apply List.ext_getElem?
  intro i
  rw [List.getElem?_take, List.getElem?_take]
  split
  · rw [List.getElem?_drop, List.getElem?_drop, h _ (by omega) (by omega)]
  · rfl
theorem Good.like {K K' : List ByteArray} {a h c f n : Nat} {ps : List (List ByteArray)} (g : Good K a h c ps) (l : Like K f n K') (hf : 2 ≤ f)
    (hd : ∀ i, 2 + h * hN K.length ≤ i → i < 2 + h * hN K.length + c / 64 → ¬ (f ≤ i ∧ i < f + n)) : Good K' a h c ps := by
  refine ⟨by rw [l.len]; exact g.len, l.full, g.h2, g.ha, ?_, ?_, by rw [l.len]; exact g.fit, g.cm, g.c9, ?_, g.small⟩
  · rw [l.at' _ (by omega)]; exact g.head
  · intro s hs
    rw [l.at' _ (by omega)] at hs
    exact g.other s hs
  · rw [dataK_same l.len h (c / 64) (fun i h1 h2 => l.at' i (hd i h1 h2))]
    exact g.data
theorem Like.refl {K : List ByteArray} (f n : Nat) (h : ∀ s ∈ K, s.size = 64) : Like K f n K := ⟨rfl, h, fun _ _ => rfl⟩
theorem mem_set {l : List ByteArray} {i : Nat} {v x : ByteArray} (h : x ∈ l.set i v) : x ∈ l ∨ x = v := by
  rcases List.mem_or_eq_of_mem_set h with h | h
  · exact .inl h
  · exact .inr h
theorem Like.set {K K' : List ByteArray} {f n i : Nat} {v : ByteArray} (l : Like K f n K') (h1 : f ≤ i) (h2 : i < f + n) (hv : v.size = 64) : Like K f n (K'.set i v) := by
  refine ⟨by rw [List.length_set]; exact l.len, fun s hs => ?_, fun j hj => ?_⟩
  · rcases mem_set hs with h | h
    · exact l.full s h
    · rw [h]; exact hv
  · rw [List.getElem?_set_ne (by omega)]; exact l.at' j hj
theorem headSec_size (a h c : Nat) (ha : a < 10 ^ 10) (hb : h < 2) (hc : c < 10 ^ 10) : (headSec a h c).size = 64 := by
  have h1 := padS_list (bs (headL a h c))
  have h2 := list_len (headSec a h c)
  unfold headSec at h2 ⊢
  rw [h1, List.length_append, bs_list, headL_len a h c ha (by omega) hc, bs_size, headL_len a h c ha (by omega) hc, Lib.repeatL_length] at h2
  simpa using h2.symm
theorem Good.next {K K1 : List ByteArray} {a h c f n k z : Nat} {ps qs : List (List ByteArray)} (g : Good K a h c ps) (l : Like K f n K1) (hf : 2 ≤ f) (ha : a + 1 < 10 ^ 9) (hk : k < 2) (hz : z ≤ hN K.length * 64) (hzm : z % 64 = 0) (hz9 : z < 10 ^ 9)
    (hd : dataK K1 k (z / 64) = packsL qs) (hs : ∀ p ∈ qs, ∀ r ∈ p, r.size < 10 ^ 10) : Good (K1.set ((a + 1) % 2) (headSec (a + 1) k z)) (a + 1) k z qs := by
  have h8 := g.len
  have hlen := l.len
  refine ⟨by rw [List.length_set, hlen]; exact h8, ?_, hk, ha, ?_, ?_, by rw [List.length_set, hlen]; exact hz, hzm, hz9, ?_, hs⟩
  · intro s hs
    rcases mem_set hs with h | h
    · exact l.full s h
    · rw [h]; exact headSec_size _ _ _ (by omega) hk (by omega)
  · rw [List.getElem?_set_self (by omega)]
  · intro s hs y hy
    rw [List.getElem?_set_ne (by omega), l.at' _ (by omega), show (a + 1 + 1) % 2 = a % 2 by omega, g.head] at hs
    cases hs
    rw [headF_sec a h c (by have := g.ha; omega) g.h2 (by have := g.c9; omega)] at hy
    cases hy
    simp
  · rw [dataK_same (K := K1) (by rw [List.length_set]) k (z / 64) (fun i h1 h2 => List.getElem?_set_ne (by omega))]
    exact hd
end Go.Proofs.YtdcafgpnomcbhaaGreatDoor
