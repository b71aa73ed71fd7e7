/- The plain law: calls of a log. -/
import Derived.Test.YtdcafgpnomcbhaaGreatDoorLaw2
namespace Go.Proofs.YtdcafgpnomcbhaaGreatDoor
open Go.RowKit
set_option linter.unusedVariables false

theorem dataK_succ (K : List ByteArray) (b n : Nat) (h : 2 + b * hN K.length + n < K.length) : dataK K b (n + 1) = dataK K b n ++ K[2 + b * hN K.length + n].data.toList :=
  dataF_succ ⟨0, [], K, []⟩ b n h
theorem dataK_len {K : List ByteArray} {b : Nat} (fu : ∀ s ∈ K, s.size = 64) (n : Nat) (h : 2 + b * hN K.length + n ≤ K.length ∨ n = 0) : (dataK K b n).length = 64 * n :=
  dataF_len (D := ⟨0, [], K, []⟩) fu n h
theorem fill_data {K : List ByteArray} (hK : ∀ s ∈ K, s.size = 64) (k q N : Nat) (s : ByteArray) (hs : s.size = 64 * N) (hf : 2 + k * hN K.length + q + N ≤ K.length) : ∀ n, n ≤ N →
    dataK (fillK K (2 + k * hN K.length + q) s n) k (q + n) = dataK K k q ++ s.data.toList.take (64 * n)
  | 0, _ => by simp [fillK]
  | n + 1, hn => by
    have ih := fill_data hK k q N s hs hf n (by omega)
    have l := fillK_like hK (2 + k * hN K.length + q) s N hs n (by omega)
    have hl := l.len
    have h2 : (fillK K (2 + k * hN K.length + q) s (n + 1)).length = K.length := by rw [fillK, List.length_set, hl]
    rw [show q + (n + 1) = (q + n) + 1 by omega, dataK_succ _ _ _ (by rw [h2]; omega)]
    have e1 : dataK (fillK K (2 + k * hN K.length + q) s (n + 1)) k (q + n) = dataK (fillK K (2 + k * hN K.length + q) s n) k (q + n) := by
      refine dataK_same (by rw [h2, hl]) k (q + n) (fun i h1 h3 => ?_)
      rw [fillK, List.getElem?_set_ne (by rw [hl] at h3; omega)]
    have e2 : (fillK K (2 + k * hN K.length + q) s (n + 1))[2 + k * hN (fillK K (2 + k * hN K.length + q) s (n + 1)).length + (q + n)]'(by rw [h2]; omega) = s.extract (64 * n) (64 * n + 64) := by
      have : (fillK K (2 + k * hN K.length + q) s (n + 1))[2 + k * hN (fillK K (2 + k * hN K.length + q) s (n + 1)).length + (q + n)]? = some (s.extract (64 * n) (64 * n + 64)) := by
        rw [h2, show 2 + k * hN K.length + (q + n) = 2 + k * hN K.length + q + n by omega, fillK, List.getElem?_set_self (by rw [hl]; omega)]
      rw [List.getElem?_eq_getElem (by rw [h2]; omega)] at this
      exact Option.some.inj this
    rw [e1, ih, e2, extract_list, List.append_assoc]
    congr 1
    rw [show 64 * n + 64 - 64 * n = 64 by omega, show 64 * (n + 1) = 64 * n + 64 by omega, List.take_add]
theorem hN_le (m : Nat) (h : 2 ≤ m) : 2 * hN m + 2 ≤ m := by unfold hN; omega
theorem Good.size {K : List ByteArray} {a h c : Nat} {ps : List (List ByteArray)} (g : Good K a h c ps) : (packsL ps).length = c := by
  have h1 := hN_le K.length (by have := g.len; omega)
  have h2 := g.fit
  have h3 := g.cm
  have hh : h * hN K.length ≤ hN K.length := by
    rcases (by have := g.h2; omega : h = 0 ∨ h = 1) with rfl | rfl <;> omega
  rw [← g.data, dataK_len g.full _ (by omega)]
  omega
def nextF (clear : Bool) (l rs : List ByteArray) : List ByteArray := (if clear = true then [] else l) ++ rs
def packN (clear : Bool) (ps : List (List ByteArray)) : List (List ByteArray) := if clear = true then [] else ps
theorem Rest.crash {D : DSt} (r : Rest D) (keep : List Bool) : (D.crash keep).now = D.now := by
  unfold DSt.crash
  rw [r.wait, r.kept]
  rfl

structure Acted (D : DSt) (x : Nat × Nat × Nat) (ps : List (List ByteArray)) (clear : Bool) (rs : List ByteArray) (R : DSt × (Nat × Nat × Nat) × Bool × Nat) : Prop where
  cases' : (R = (D, x, false, 9) ∧ hN D.now.length * 64 < (packsL (packN clear ps)).length + (packL rs).length) ∨
    (R.2.2.2 = 0 ∧ R.2.2.1 = false ∧ Rest R.1 ∧ R.1.now.length = D.now.length ∧ R.2.1.1 ≤ x.1 + 1 ∧ ∃ ps', Good R.1.now R.2.1.1 R.2.1.2.1 R.2.1.2.2 ps' ∧ ps'.flatten = nextF clear ps.flatten rs ∧ (ps' = packN clear ps ++ [rs] ∨ (ps' = ps ∧ clear = false ∧ rs = []))) ∨
    (R.2.2.2 = 15 ∧ R.2.2.1 = true ∧ ∀ keep, (R.1.crash keep).now.length = D.now.length ∧ ∃ a h c ps', a ≤ x.1 + 1 ∧ Good (R.1.crash keep).now a h c ps' ∧ (ps'.flatten = ps.flatten ∨ ps'.flatten = nextF clear ps.flatten rs))
  power : D.left = -1 → R.2.2.2 ≠ 15 ∧ R.1.left = -1

theorem actF_all {D : DSt} {a h c : Nat} {ps : List (List ByteArray)} (r : Rest D) (g : Good D.now a h c ps) (clear : Bool) (rs : List ByteArray) (hrs : ∀ r ∈ rs, r.size < 10 ^ 10) (ha : a + 1 < 10 ^ 9) (hp : (packL rs).length ≤ 1000000) (hlen : D.now.length ≤ 4000) :
    Acted D (a, h, c) ps clear rs (actF D (a, h, c) false clear (bs (packL rs))) := by
  have hsz := bs_size (packL rs)
  have hpm := packL_mod rs
  have hcs := g.size
  have hH := hN_le D.now.length (by have := g.len; omega)
  have hc9 := g.c9
  have hcm := g.cm
  have hfit := g.fit
  have hz : (packsL (packN clear ps)).length = if clear = true then 0 else c := by
    cases clear
    · simpa [packN] using hcs
    · simp [packN, packsL]
  unfold actF
  rw [if_neg (by simp), hsz]
  simp only
  rw [← hz]
  by_cases hbig : hN D.now.length * 64 < (packsL (packN clear ps)).length + (packL rs).length
  · rw [if_pos hbig]
    exact ⟨.inl ⟨rfl, hbig⟩, fun hl => ⟨by simp, hl⟩⟩
  rw [if_neg hbig]
  by_cases he : clear = false ∧ (packL rs).length = 0
  · rw [if_pos he]
    have hr := packL_nil_iff rs hrs he.2
    obtain ⟨rfl, -⟩ := he
    subst hr
    exact ⟨.inr (.inl ⟨rfl, rfl, r, rfl, by simp, ps, g, by simp [nextF], .inr ⟨rfl, rfl, rfl⟩⟩), fun hl => ⟨by simp, hl⟩⟩
  rw [if_neg he]
  generalize hk' : (if clear = true then 1 - h else h) = k
  have hkk : k < 2 := by have := g.h2; rw [← hk']; split <;> omega
  generalize hzz : (packsL (packN clear ps)).length = z at hbig hz
  have hzm : z % 64 = 0 := by rw [← hzz]; exact packsL_mod _
  obtain ⟨N, hN'⟩ : ∃ N, (packL rs).length = 64 * N := ⟨(packL rs).length / 64, by omega⟩
  have hsN : (bs (packL rs)).size = 64 * N := by rw [hsz, hN']
  have hkH : k * hN D.now.length ≤ hN D.now.length := by rcases (by omega : k = 0 ∨ k = 1) with rfl | rfl <;> omega
  have hrange : 2 + k * hN D.now.length + z / 64 + N ≤ D.now.length := by omega
  have hzs : z + (bs (packL rs)).size < 10 ^ 9 := by rw [hsz]; omega
  obtain ⟨hw, hpow⟩ := lwriteF_all r g.full a k z (bs (packL rs)) N hsN hrange (by omega) ha hkk hzs
  have hfl := fillK_like g.full (2 + k * hN D.now.length + z / 64) (bs (packL rs)) N hsN N (Nat.le_refl _)
  have hdat : dataK (fillK D.now (2 + k * hN D.now.length + z / 64) (bs (packL rs)) N) k ((z + (bs (packL rs)).size) / 64) = packsL (packN clear ps ++ [rs]) := by
    have := fill_data g.full k (z / 64) N (bs (packL rs)) hsN hrange N (Nat.le_refl _)
    rw [show (z + (bs (packL rs)).size) / 64 = z / 64 + N by omega, this, packsL_snoc]
    congr 1
    · cases clear
      · simp only [packN] at hzz ⊢
        have hkh : k = h := by rw [← hk']; rfl
        subst hkh
        have : z = c := by rw [← hzz]; exact hcs
        subst this
        exact g.data
      · have hz0 : z = 0 := by rw [← hzz]; rfl
        subst hz0
        simp [packN, packsL, dataK]
    · rw [bs_list, List.take_of_length_le (by omega)]
  have hsm : ∀ p ∈ packN clear ps ++ [rs], ∀ r ∈ p, r.size < 10 ^ 10 := by
    intro p hp
    rcases List.mem_append.1 hp with hp | hp
    · cases clear
      · exact g.small p hp
      · cases hp
    · rw [List.mem_singleton] at hp
      subst hp
      exact hrs
  have hgn := g.next hfl (by omega) ha hkk (z := z + (bs (packL rs)).size) (by rw [hsz]; omega) (by omega) hzs hdat hsm
  have hflat : (packN clear ps ++ [rs]).flatten = nextF clear ps.flatten rs := by
    cases clear <;> simp [packN, nextF]
  have hdis : ∀ i, 2 + h * hN D.now.length ≤ i → i < 2 + h * hN D.now.length + c / 64 → ¬ (2 + k * hN D.now.length + z / 64 ≤ i ∧ i < 2 + k * hN D.now.length + z / 64 + N) := by
    intro i h1 h2
    cases clear
    · have hkh : k = h := by rw [← hk']; rfl
      have : z = c := by rw [hz]; rfl
      subst hkh
      subst this
      omega
    · have hkh : k = 1 - h := by rw [← hk']; rfl
      have := g.h2
      rcases (by omega : h = 0 ∨ h = 1) with rfl | rfl
      · subst hkh; omega
      · subst hkh; omega
  have hput : putF D a k z (bs (packL rs)) (a, h, c) = if (lwriteF D a k z (bs (packL rs))).2 = 0 then ((a + 1, k, z + (bs (packL rs)).size), false) else ((a, h, c), true) := rfl
  refine ⟨?_, fun hl => ⟨by simp only; rw [(hpow hl).1]; decide, (hpow hl).2⟩⟩
  rcases hw with ⟨h0, hr, hnow⟩ | ⟨h15, hcr⟩
  · refine .inr (.inl ?_)
    rw [hput, if_pos h0]
    simp only
    refine ⟨h0, trivial, hr, ?_, Nat.le_refl _, packN clear ps ++ [rs], ?_, hflat, .inl rfl⟩
    · rw [hnow, List.length_set]; exact hfl.len
    · rw [hnow]; exact hgn
  · refine .inr (.inr ?_)
    rw [hput, if_neg (by rw [h15]; decide)]
    simp only
    refine ⟨h15, trivial, fun keep => ?_⟩
    rcases hcr keep with hl | hl
    · exact ⟨hl.len, a, h, c, ps, by omega, g.like hl (by omega) hdis, .inl rfl⟩
    · rw [hl]
      exact ⟨by rw [List.length_set]; exact hfl.len, a + 1, k, _, _, Nat.le_refl _, hgn, .inr hflat⟩
/-- a formatted disk -/
theorem format_good {D : DSt} (hK : ∀ s ∈ D.now, s.size = 64) (h8 : 8 ≤ D.now.length) :
    (lwriteF (fmt0 D) 0 0 0 emptyS).2 = 0 ∧ Rest (lwriteF (fmt0 D) 0 0 0 emptyS).1 ∧ (lwriteF (fmt0 D) 0 0 0 emptyS).1.left = -1 ∧ (lwriteF (fmt0 D) 0 0 0 emptyS).1.now.length = D.now.length ∧ Good (lwriteF (fmt0 D) 0 0 0 emptyS).1.now 1 0 0 [] := by
  have hl := fmt0_len D
  have hps : (padS emptyS).size = 64 := by
    have h1 := padS_empty
    have h2 := list_len (padS emptyS)
    rw [h1, Lib.repeatL_length] at h2
    simpa using h2.symm
  have hfull : ∀ s ∈ (fmt0 D).now, s.size = 64 := by
    intro s hs
    rcases mem_set hs with h | h
    · rcases mem_set h with h | h
      · exact hK s h
      · rw [h]; exact hps
    · rw [h]; exact hps
  obtain ⟨hw, hp⟩ := lwriteF_all (D := fmt0 D) ⟨rfl, rfl⟩ hfull 0 0 0 emptyS 0 rfl (by rw [hl]; omega) (by rw [hl]; omega) (by decide) (by decide) (by decide)
  obtain ⟨h0, hleft⟩ := hp rfl
  rcases hw with ⟨-, hr, hnow⟩ | ⟨h15, -⟩
  · refine ⟨h0, hr, hleft, ?_, ?_⟩
    · rw [hnow, List.length_set, fillK, hl]
    · rw [hnow]
      rw [fillK]
      have hll : ((fmt0 D).now.set ((0 + 1) % 2) (headSec (0 + 1) 0 (0 + emptyS.size))).length = D.now.length := by rw [List.length_set, hl]
      refine ⟨by rw [hll]; exact h8, ?_, by decide, by decide, ?_, ?_, by simp, rfl, by decide, ?_, by simp⟩
      · intro s hs
        rcases mem_set hs with h | h
        · exact hfull s h
        · rw [h]; exact headSec_size _ _ _ (by decide) (by decide) (by decide)
      · rw [show (0 + 1) % 2 = 1 % 2 by rfl, List.getElem?_set_self (by rw [hl]; omega)]; rfl
      · intro s hs y hy
        rw [List.getElem?_set_ne (by decide)] at hs
        have : (fmt0 D).now[0]? = some (padS emptyS) := by
          unfold fmt0
          simp only
          rw [List.getElem?_set_ne (by decide), List.getElem?_set_self (by omega)]
        rw [show (1 + 1) % 2 = 0 by rfl, this] at hs
        cases hs
        rw [padS_empty, headF_zero] at hy
        cases hy
      · simp [dataK, packsL]
  · rw [h0] at h15; cases h15
end Go.Proofs.YtdcafgpnomcbhaaGreatDoor
