/- Where there must be room, there is. -/
import Derived.Test.YtdcafgpnomcbhaaGreatDoorWordy
namespace Go.Proofs.YtdcafgpnomcbhaaGreatDoor
open Go.RowKit
set_option linter.unusedVariables false

theorem body_fit : ∀ (rs : List ByteArray), (∀ r ∈ rs, r.size < 10 ^ 10) → (bodyL rs).length ≤ fitN rs
  | [], _ => by simp [bodyL]
  | r :: rs, h => by
    have ih := body_fit rs (fun x hx => h x (by simp [hx]))
    have hl := numL_len r.size (h r (by simp))
    have hr : r.data.toList.length = r.size := list_len r
    have e : bodyL (r :: rs) = recL r ++ bodyL rs := by simp [bodyL]
    rw [e, List.length_append]
    unfold recL
    rw [List.length_append, hl, hr, fitN]
    omega
theorem pack_fit (rs : List ByteArray) (h : ∀ r ∈ rs, r.size < 10 ^ 10) : (packL rs).length ≤ fitN rs + 63 := by
  have := packL_le rs
  have := body_fit rs h
  omega
theorem packs_fit : ∀ (ps : List (List ByteArray)), (∀ p ∈ ps, ∀ r ∈ p, r.size < 10 ^ 10) → (packsL ps).length ≤ fitN ps.flatten + 63 * ps.length
  | [], _ => by simp [packsL]
  | p :: ps, h => by
    have ih := packs_fit ps (fun q hq => h q (by simp [hq]))
    have hp := pack_fit p (h p (by simp))
    have e : packsL (p :: ps) = packL p ++ packsL ps := by simp [packsL]
    rw [e, List.length_append, List.flatten_cons, fitN_append, List.length_cons]
    omega
theorem full_unfit (clear : Bool) (ps : List (List ByteArray)) (rs : List ByteArray) (n many : Nat) (hs : ∀ p ∈ ps, ∀ r ∈ p, r.size < 10 ^ 10) (hr : ∀ r ∈ rs, r.size < 10 ^ 10) (h8 : 8 ≤ n)
    (hm : (packN clear ps).length ≤ many) (hfull : hN n * 64 < (packsL (packN clear ps)).length + (packL rs).length) : ¬ 3 * (64 + 64 * many + fitN (nextF clear ps.flatten rs)) ≤ n * 64 := by
  have h1 := packs_fit (packN clear ps) (by
    intro p hp
    cases clear
    · exact hs p hp
    · cases hp)
  have h2 := pack_fit rs hr
  have h3 : fitN (nextF clear ps.flatten rs) = fitN (packN clear ps).flatten + fitN rs := by
    unfold nextF
    rw [fitN_append]
    cases clear <;> simp [packN]
  have h4 := packsL_mod (packN clear ps)
  have h5 := packL_mod rs
  have h6 : n ≤ 2 * hN n + 3 := by unfold hN; omega
  rw [h3]
  omega
end Go.Proofs.YtdcafgpnomcbhaaGreatDoor
