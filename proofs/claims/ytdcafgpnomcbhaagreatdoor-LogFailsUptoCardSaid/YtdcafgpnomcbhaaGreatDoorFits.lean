/- fits. -/
import Derived.Test.YtdcafgpnomcbhaaGreatDoorBulky
namespace Go.Proofs.YtdcafgpnomcbhaaGreatDoor
open Go.RowKit
set_option linter.unusedVariables false

def fitN : List ByteArray → Nat
  | [] => 0
  | a :: l => (16 + a.size) + fitN l
theorem fitN_append (l m : List ByteArray) : fitN (l ++ m) = fitN l + fitN m := by
  induction l with
  | nil => simp [fitN]
  | cons a l ih => simp [fitN, ih]; omega
theorem fitN_take (l : List ByteArray) (j : Nat) (h : j < l.length) : fitN (l.take (j + 1)) = fitN (l.take j) + (16 + l[j].size) := by
  rw [List.take_succ_eq_append_getElem h, fitN_append]; simp [fitN]
theorem fitN_take_le (l : List ByteArray) (j : Nat) : fitN (l.take j) ≤ fitN l := by
  conv => rhs; rw [← List.take_append_drop j l, fitN_append]
  omega
set_option maxHeartbeats 1000000 in
set_option maxRecDepth 100000 in
theorem fits_any (v : Value) (l : List ByteArray) (adds sec : Nat) (w : World) (hv : Texts w v l) (hn : l.length ≤ 1000000) (hb : fitN l ≤ 1000000000) (ha : adds ≤ 1000000) (hs : sec ≤ 1000000) :
    Calls Tryz.prog 17 #[v, .int .i64 adds, .int .i64 sec] w fun e w' => e = .returned (.bool (decide (3 * (64 + 64 * adds + fitN l) ≤ sec * 64))) ∧ Chg [] w w' := by
  have HV := Lib.hid hv
  obtain ⟨va, vc, rfl, hv1, hv2⟩ := hv.len
  obtain ⟨n, hnn⟩ : ∃ n, l.length = n := ⟨_, rfl⟩
  have Hn := Lib.hid hnn
  have HB := Lib.hid hb
  rw [hnn] at HV hv1 hn ⊢
  clear hv hnn hb
  go_enter Tryz.func17, Tryz.ntmps17
  go_wp2
  go_loopw [7, 8] (fun s i wr => ∃ j : Nat, j ≤ n ∧ s = .int .i64 ((64 + 64 * adds + fitN (l.take j) : Nat) : Int) ∧ i = .int .i64 j ∧ Chg [] w wr) (fun _ i _ => n - (intOf i).toNat)
  case atStart => exact ⟨0, Nat.zero_le _, by simp [fitN], rfl, Chg.refl _ _⟩
  case round =>
    obtain ⟨j, hj, rfl, rfl, hc⟩ := hrel
    by_cases hlt : j < n
    · have hjl : (j : Int) < n := by omega
      have hjl2 : j < l.length := by rw [Hn.out]; exact hlt
      obtain ⟨g, rfl, k1⟩ := HV.out.at' j hjl2
      have k1' := hc.cell k1 (by simp)
      have ht := fitN_take l j hjl2
      have hle := Nat.le_trans (fitN_take_le l (j + 1)) HB.out
      have Ht := Lib.hid ht
      rw [ht] at hle
      have Hc := Lib.hid hc
      generalize l[j] = t at k1' Ht hle
      generalize fitN (l.take j) = bn at Ht hle ⊢
      clear k1 hc ht
      go_wp2
      refine ⟨⟨j + 1, hlt, ?_, by simp, Hc.out⟩, by simp [intOf]; omega⟩
      rw [Ht.out]
      congr 1
      push_cast
      omega
    · have hjn : j = n := by omega
      subst hjn
      have htl : l.take j = l := List.take_of_length_le (by rw [Hn.out]; exact Nat.le_refl _)
      rw [htl]
      have Hc := Lib.hid hc
      have hbl := HB.out
      clear hc htl
      by_cases h2 : 3 * (64 + 64 * adds + fitN l) ≤ sec * 64
      · have h2i : (3 : Int) * ((64 + 64 * adds + fitN l : Nat) : Int) ≤ (sec : Int) * 64 := by omega
        have H2 := Lib.hid h2
        clear h2
        go_wp2
        go_ret
        exact ⟨by rw [decide_eq_true H2.out]; first | rfl | (simp; omega), Hc.out⟩
      · have h2i : (sec : Int) * 64 < (3 : Int) * ((64 + 64 * adds + fitN l : Nat) : Int) := by omega
        have H2 := Lib.hid h2
        clear h2
        go_wp2
        go_ret
        exact ⟨by rw [decide_eq_false H2.out]; first | rfl | (simp; omega), Hc.out⟩
end Go.Proofs.YtdcafgpnomcbhaaGreatDoor
