/- LogNone at every input within the bound. -/
import Derived.Test.YtdcafgpnomcbhaaGreatDoorNone2
namespace Go.Proofs.YtdcafgpnomcbhaaGreatDoor
open Go.RowKit
set_option linter.unusedVariables false

set_option maxHeartbeats 1000000 in
set_option maxRecDepth 100000 in
theorem none_bulky (B : Nat) (E : Nat → Addr) (v : Value) (l : List ActT) (n : Int) (o : Bool) (w : World) (hE : Env B E w) (hv : ActsG w v l) (hn : l.length ≤ 10000000) (hb : bulkN l ≤ 1000000000) (hb2 : 200 < bulkN l) (hs : ∀ a ∈ l, a.s.size ≤ 10000000 ∧ a.keep.length ≤ 10000000) :
    Calls Tryz.prog 3 #[v, .int .i64 n, .bool o] w fun e w' => e = .returned (.bool true) ∧ Chg [] w w' := by
  have HL := Lib.hid (logged_any B E w hE)
  have HV := Lib.hid hv
  have HBk := Lib.hid (fun w hv => bulky_any v l w hv hn hb hs)
  rw [decide_eq_true hb2] at HBk
  clear hE hv hn hb hs hb2
  go_enter Tryz.func3, Tryz.ntmps3
  go_wp2_with (fail)
  refine HL.out.mono ?_
  rintro e w1 ⟨rfl, hc1⟩
  have HV1 := Lib.hid (HV.out.chg hc1)
  have HC1 := Lib.hid hc1
  clear hc1
  go_wp2_with (fail)
  refine (HBk.out _ HV1.out).mono ?_
  rintro e w2 ⟨rfl, hc2⟩
  have HC2 := Lib.hid (HC1.out.trans hc2 (by simp))
  clear hc2
  go_wp2
  go_ret
  exact ⟨rfl, HC2.out⟩
set_option maxHeartbeats 1000000 in
set_option maxRecDepth 100000 in
theorem none_out (B : Nat) (E : Nat → Addr) (v : Value) (l : List ActT) (n : Int) (o : Bool) (w : World) (hE : Env B E w) (hv : ActsG w v l) (hn : l.length ≤ 10000000) (hb : bulkN l ≤ 200) (hs : ∀ a ∈ l, a.s.size ≤ 10000000 ∧ a.keep.length ≤ 10000000) (hout : n < 1 ∨ 60 < n) :
    Calls Tryz.prog 3 #[v, .int .i64 n, .bool o] w fun e w' => e = .returned (.bool true) ∧ Chg [] w w' := by
  have HL := Lib.hid (logged_any B E w hE)
  have HV := Lib.hid hv
  have HBk := Lib.hid (fun w hv => bulky_any v l w hv hn (by omega) hs)
  rw [decide_eq_false (by omega : ¬ 200 < bulkN l)] at HBk
  clear hE hv hn hb hs
  rcases hout with h | h
  · go_enter Tryz.func3, Tryz.ntmps3
    go_wp2_with (fail)
    refine HL.out.mono ?_
    rintro e w1 ⟨rfl, hc1⟩
    have HV1 := Lib.hid (HV.out.chg hc1)
    have HC1 := Lib.hid hc1
    clear hc1
    go_wp2_with (fail)
    refine (HBk.out _ HV1.out).mono ?_
    rintro e w2 ⟨rfl, hc2⟩
    have HC2 := Lib.hid (HC1.out.trans hc2 (by simp))
    clear hc2
    go_wp2
    go_ret
    exact ⟨rfl, HC2.out⟩
  · have h1 : (1 : Int) ≤ n := by omega
    go_enter Tryz.func3, Tryz.ntmps3
    go_wp2_with (fail)
    refine HL.out.mono ?_
    rintro e w1 ⟨rfl, hc1⟩
    have HV1 := Lib.hid (HV.out.chg hc1)
    have HC1 := Lib.hid hc1
    clear hc1
    go_wp2_with (fail)
    refine (HBk.out _ HV1.out).mono ?_
    rintro e w2 ⟨rfl, hc2⟩
    have HC2 := Lib.hid (HC1.out.trans hc2 (by simp))
    clear hc2
    go_wp2
    go_ret
    exact ⟨rfl, HC2.out⟩
theorem none_any (B : Nat) (E : Nat → Addr) (v : Value) (l : List ActT) (n : Int) (o : Bool) (w : World) (hE : Env B E w) (hv : ActsG w v l) (hn : l.length ≤ 10000000) (hb : bulkN l ≤ 1000000000) (hs : ∀ a ∈ l, a.s.size ≤ 10000000 ∧ a.keep.length ≤ 10000000 ∧ a.n ≤ 9223372036854775807) :
    Calls Tryz.prog 3 #[v, .int .i64 n, .bool o] w fun e w' => e = .returned (.bool true) ∧ Chg [] w w' := by
  have hs2 : ∀ a ∈ l, a.s.size ≤ 10000000 ∧ a.keep.length ≤ 10000000 := fun a ha => ⟨(hs a ha).1, (hs a ha).2.1⟩
  by_cases h2 : 200 < bulkN l
  · exact none_bulky B E v l n o w hE hv hn hb h2 hs2
  by_cases h1 : n < 1 ∨ 60 < n
  · exact none_out B E v l n o w hE hv hn (by omega) hs2 h1
  obtain ⟨m, rfl⟩ : ∃ m : Nat, n = m := ⟨n.toNat, by omega⟩
  cases o with
  | false => exact none_new B E v l m w hE hv hn (by omega) hs2 (by omega) (by omega)
  | true => exact none_over B E v l m w hE hv hn (by omega) hs (by omega) (by omega)
end Go.Proofs.YtdcafgpnomcbhaaGreatDoor
