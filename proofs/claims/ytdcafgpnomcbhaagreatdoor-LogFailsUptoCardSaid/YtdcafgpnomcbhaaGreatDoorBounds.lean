/- What the bound on words gives. -/
import Derived.Test.YtdcafgpnomcbhaaGreatDoorRoom
namespace Go.Proofs.YtdcafgpnomcbhaaGreatDoor
open Go.RowKit
set_option linter.unusedVariables false

theorem wordT_mem {l : List ByteArray} {s : ByteArray} (h : s ∈ l) : 1 + s.size / 10 ≤ wordT l := by
  induction l with
  | nil => cases h
  | cons x l ih =>
    rcases List.mem_cons.1 h with rfl | h
    · rw [wordT]; omega
    · have := ih h; rw [wordT]; omega
theorem wordT_len (l : List ByteArray) : l.length ≤ wordT l := by
  induction l with
  | nil => simp
  | cons x l ih => simp [wordT]; omega
theorem wordN_mem {l : List RecT} {a : RecT} (h : a ∈ l) : 5 + wordT a.l ≤ wordN l := by
  induction l with
  | nil => cases h
  | cons x l ih =>
    rcases List.mem_cons.1 h with rfl | h
    · rw [wordN]; omega
    · have := ih h; rw [wordN]; omega
theorem wordN_len (l : List RecT) : l.length * 5 ≤ wordN l := by
  induction l with
  | nil => simp
  | cons x l ih => simp [wordN]; omega
theorem body_word : ∀ (l : List ByteArray), (∀ r ∈ l, r.size < 10 ^ 10) → (bodyL l).length ≤ 20 * wordT l
  | [], _ => by simp [bodyL]
  | r :: l, h => by
    have ih := body_word l (fun x hx => h x (by simp [hx]))
    have hl := numL_len r.size (h r (by simp))
    have hr : r.data.toList.length = r.size := list_len r
    have e : bodyL (r :: l) = recL r ++ bodyL l := by simp [bodyL]
    rw [e, List.length_append]
    unfold recL
    rw [List.length_append, hl, hr, wordT]
    omega
theorem word_small {l : List ByteArray} (h : wordT l ≤ 500) : ∀ r ∈ l, r.size < 10 ^ 10 := by
  intro r hr
  have := wordT_mem hr
  omega
theorem fit_word (l : List ByteArray) : fitN l ≤ 26 * wordT l := by
  induction l with
  | nil => simp [fitN]
  | cons x l ih => simp [fitN, wordT]; omega
end Go.Proofs.YtdcafgpnomcbhaaGreatDoor
