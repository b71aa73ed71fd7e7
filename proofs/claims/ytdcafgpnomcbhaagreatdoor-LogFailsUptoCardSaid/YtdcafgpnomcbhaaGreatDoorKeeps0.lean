/- LogKeeps where nothing is tried. -/
import Derived.Test.YtdcafgpnomcbhaaGreatDoorBounds
namespace Go.Proofs.YtdcafgpnomcbhaaGreatDoor
open Go.RowKit
set_option linter.unusedVariables false

set_option maxHeartbeats 1000000 in
set_option maxRecDepth 100000 in
theorem keeps_wordy (B : Nat) (E : Nat → Addr) (v : Value) (l : List RecT) (n : Int) (w : World) (hE : Env B E w) (hv : RecsG w v l) (hn : l.length ≤ 10000000) (hb : wordN l ≤ 1000000000) (hb2 : 500 < wordN l) (hs : ∀ a ∈ l, a.l.length ≤ 10000000 ∧ ∀ s ∈ a.l, s.size ≤ 10000000) :
    Calls Tryz.prog 4 #[.int .i64 n, v] w fun e w' => e = .returned (.bool true) ∧ Chg [] w w' := by
  have HL := Lib.hid (logged_any B E w hE)
  have HV := Lib.hid hv
  have HBk := Lib.hid (fun w hv => wordy_any v l w hv hn hb hs)
  rw [decide_eq_true hb2] at HBk
  clear hE hv hn hb hs hb2
  go_enter Tryz.func4, Tryz.ntmps4
  go_wp2_with (fail)
  refine HL.out.mono ?_
  rintro e w1 ⟨rfl, hc1⟩
  have HV1 := Lib.hid (HV.out.chg hc1)
  have HC1 := Lib.hid hc1
  clear hc1
  go_wp2_with (fail)
  refine (HBk.out _ HV1.out).mono ?_
  rintro e w2 ⟨rfl, hc2⟩
  have HC2 := Lib.hid (HC1.out.trans hc2 (by simp))
  clear hc2
  go_wp2
  go_ret
  exact ⟨rfl, HC2.out⟩
set_option maxHeartbeats 1000000 in
set_option maxRecDepth 100000 in
theorem keeps_out (B : Nat) (E : Nat → Addr) (v : Value) (l : List RecT) (n : Int) (w : World) (hE : Env B E w) (hv : RecsG w v l) (hn : l.length ≤ 10000000) (hb : wordN l ≤ 500) (hs : ∀ a ∈ l, a.l.length ≤ 10000000 ∧ ∀ s ∈ a.l, s.size ≤ 10000000) (hout : n < 1 ∨ 400 < n) :
    Calls Tryz.prog 4 #[.int .i64 n, v] w fun e w' => e = .returned (.bool true) ∧ Chg [] w w' := by
  have HL := Lib.hid (logged_any B E w hE)
  have HV := Lib.hid hv
  have HBk := Lib.hid (fun w hv => wordy_any v l w hv hn (by omega) hs)
  rw [decide_eq_false (by omega : ¬ 500 < wordN l)] at HBk
  clear hE hv hn hb hs
  rcases hout with h | h
  · go_enter Tryz.func4, Tryz.ntmps4
    go_wp2_with (fail)
    refine HL.out.mono ?_
    rintro e w1 ⟨rfl, hc1⟩
    have HV1 := Lib.hid (HV.out.chg hc1)
    have HC1 := Lib.hid hc1
    clear hc1
    go_wp2_with (fail)
    refine (HBk.out _ HV1.out).mono ?_
    rintro e w2 ⟨rfl, hc2⟩
    have HC2 := Lib.hid (HC1.out.trans hc2 (by simp))
    clear hc2
    go_wp2
    go_ret
    exact ⟨rfl, HC2.out⟩
  · have h1 : (1 : Int) ≤ n := by omega
    go_enter Tryz.func4, Tryz.ntmps4
    go_wp2_with (fail)
    refine HL.out.mono ?_
    rintro e w1 ⟨rfl, hc1⟩
    have HV1 := Lib.hid (HV.out.chg hc1)
    have HC1 := Lib.hid hc1
    clear hc1
    go_wp2_with (fail)
    refine (HBk.out _ HV1.out).mono ?_
    rintro e w2 ⟨rfl, hc2⟩
    have HC2 := Lib.hid (HC1.out.trans hc2 (by simp))
    clear hc2
    go_wp2
    go_ret
    exact ⟨rfl, HC2.out⟩
end Go.Proofs.YtdcafgpnomcbhaaGreatDoor
