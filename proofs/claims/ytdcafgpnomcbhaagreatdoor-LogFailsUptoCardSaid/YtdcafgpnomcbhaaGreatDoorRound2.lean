/- The plain law: packs read back. -/
import Derived.Test.YtdcafgpnomcbhaaGreatDoorRound
namespace Go.Proofs.YtdcafgpnomcbhaaGreatDoor
open Go.RowKit
set_option linter.unusedVariables false

theorem parse_rec (r : ByteArray) (t : List UInt8) (h : r.size < 10 ^ 10) : parse (recL r ++ t) = (parse t).map (r.data.toList :: ·) := by
  have hl := numL_len r.size h
  have hr : r.data.toList.length = r.size := list_len r
  obtain ⟨c, q, hq, hc⟩ := numL_ne r.size h
  unfold recL
  rw [List.append_assoc]
  have hlen : (numL r.size ++ (r.data.toList ++ t)).length = 10 + r.size + t.length := by simp [hl, hr]; omega
  have htake : (numL r.size ++ (r.data.toList ++ t)).take 10 = numL r.size := by rw [← hl, List.take_left]
  have hd10 : (numL r.size ++ (r.data.toList ++ t)).drop 10 = r.data.toList ++ t := by
    have := List.drop_left (l₁ := numL r.size) (l₂ := r.data.toList ++ t)
    rwa [hl] at this
  rw [parse_one _ (by rw [hq]; simpa using hc) (by rw [hlen]; omega) r.size (by rw [htake, natOf_numL _ h]) (by rw [hlen]; omega)]
  have e1 : List.take r.size (List.drop 10 (numL r.size ++ (r.data.toList ++ t))) = r.data.toList := by
    rw [hd10, ← hr, List.take_left]
  have e2 : List.drop (10 + r.size) (numL r.size ++ (r.data.toList ++ t)) = t := by
    rw [← List.drop_drop, hd10, ← hr, List.drop_left]
  rw [e1, e2]
theorem parse_body : ∀ (rs : List ByteArray) (t : List UInt8), (∀ r ∈ rs, r.size < 10 ^ 10) → parse (bodyL rs ++ t) = (parse t).map (rs.map (fun r => r.data.toList) ++ ·)
  | [], t, _ => by simp [bodyL]
  | r :: rs, t, h => by
    have : bodyL (r :: rs) ++ t = recL r ++ (bodyL rs ++ t) := by simp [bodyL]
    rw [this, parse_rec r _ (h r (by simp)), parse_body rs t (fun x hx => h x (by simp [hx]))]
    cases parse t <;> simp
theorem parse_pad (k : Nat) (t : List UInt8) (hk : k < 64) (ht : t.length % 64 = 0) : parse (Lib.repeatL [0] k ++ t) = parse t := by
  by_cases h0 : k = 0
  · subst h0; rfl
  · have hl : (Lib.repeatL [0] k).length = k := by rw [Lib.repeatL_length]; simp
    obtain ⟨j, rfl⟩ : ∃ j, k = j + 1 := ⟨k - 1, by omega⟩
    rw [parse_skip _ (by simp [Lib.repeatL])]
    have hs : skipN (Lib.repeatL [0] (j + 1) ++ t).length = j + 1 := by
      rw [List.length_append, hl]; unfold skipN; split <;> omega
    rw [hs]
    have := List.drop_left (l₁ := Lib.repeatL [0] (j + 1)) (l₂ := t)
    rw [hl] at this
    rw [this]
theorem parse_pack (rs : List ByteArray) (t : List UInt8) (h : ∀ r ∈ rs, r.size < 10 ^ 10) (ht : t.length % 64 = 0) : parse (packL rs ++ t) = (parse t).map (rs.map (fun r => r.data.toList) ++ ·) := by
  unfold packL
  rw [List.append_assoc, parse_body rs _ h, parse_pad _ t (by omega) ht]
def packsL (ps : List (List ByteArray)) : List UInt8 := ps.flatMap packL
theorem packsL_mod : ∀ ps : List (List ByteArray), (packsL ps).length % 64 = 0
  | [] => rfl
  | p :: ps => by
    have h1 := packL_mod p
    have h2 := packsL_mod ps
    have : packsL (p :: ps) = packL p ++ packsL ps := by simp [packsL]
    rw [this, List.length_append]; omega
theorem parse_packs : ∀ ps : List (List ByteArray), (∀ p ∈ ps, ∀ r ∈ p, r.size < 10 ^ 10) → parse (packsL ps) = some (ps.flatten.map fun r => r.data.toList)
  | [], _ => rfl
  | p :: ps, h => by
    have : packsL (p :: ps) = packL p ++ packsL ps := by simp [packsL]
    rw [this, parse_pack p _ (h p (by simp)) (packsL_mod ps), parse_packs ps (fun q hq => h q (by simp [hq]))]
    simp
theorem packsL_snoc (ps : List (List ByteArray)) (p : List ByteArray) : packsL (ps ++ [p]) = packsL ps ++ packL p := by simp [packsL]
theorem packL_nil_iff (rs : List ByteArray) (h : ∀ r ∈ rs, r.size < 10 ^ 10) : (packL rs).length = 0 → rs = [] := by
  intro h0
  cases rs with
  | nil => rfl
  | cons r rs =>
    exfalso
    have := numL_len r.size (h r (by simp))
    unfold packL at h0
    rw [List.length_append] at h0
    simp [bodyL, recL, this] at h0
end Go.Proofs.YtdcafgpnomcbhaaGreatDoor
