/- LogKeeps: a small disk. -/
import Derived.Test.YtdcafgpnomcbhaaGreatDoorKeeps0
namespace Go.Proofs.YtdcafgpnomcbhaaGreatDoor
open Go.RowKit
set_option linter.unusedVariables false

set_option maxHeartbeats 1000000 in
set_option maxRecDepth 100000 in
theorem keeps_small (B : Nat) (E : Nat → Addr) (v : Value) (l : List RecT) (n : Nat) (w : World) (hE : Env B E w) (hv : RecsG w v l) (hn : l.length ≤ 10000000) (hb : wordN l ≤ 500) (hs : ∀ a ∈ l, a.l.length ≤ 10000000 ∧ ∀ s ∈ a.l, s.size ≤ 10000000) (h1 : 1 ≤ n) (h2 : n < 8) :
    Calls Tryz.prog 4 #[.int .i64 n, v] w fun e w' => e = .returned (.bool true) ∧ Chg [] w w' := by
  have HE := Lib.hid hE
  have HL := Lib.hid (logged_any B E w hE)
  have HV := Lib.hid hv
  have HBk := Lib.hid (fun w hv => wordy_any v l w hv hn (by omega) hs)
  rw [decide_eq_false (by omega : ¬ 500 < wordN l)] at HBk
  have hni : (n : Int) < 8 := by omega
  have hni1 : (1 : Int) ≤ n := by omega
  clear hE hv hn hb hs
  go_enter Tryz.func4, Tryz.ntmps4
  go_wp2_with (fail)
  refine HL.out.mono ?_
  rintro e w1 ⟨rfl, hc1⟩
  have HV1 := Lib.hid (HV.out.chg hc1)
  have HC1 := Lib.hid hc1
  clear hc1
  go_wp2_with (fail)
  refine (HBk.out _ HV1.out).mono ?_
  rintro e w2 ⟨rfl, hc2⟩
  have hc2' := HC1.out.trans hc2 (by simp)
  have HC2 := Lib.hid hc2'
  have HE2 := Lib.hid (HE.out.chg hc2' (by simp))
  have HN := Lib.hid (dNew_in B n w2 h1 (by omega) HE2.out.le)
  clear hc2 hc2' HL HBk HV1 HC1
  go_wp2_with (fail)
  refine HN.out.mono ?_
  rintro e w3 ⟨v3, rfl, b, F, rfl, hd3, hc3, hf3⟩
  have hc3' := HC2.out.trans hc3 (by simp)
  have HE3 := Lib.hid (HE.out.chg hc3' (by simp))
  have HF := Lib.hid (lFormat_any B b E F (DSt.new n) w3 HE3.out hd3 (new_ok n h1 (by omega)) (by simp [DSt.new]) rfl (fun h => by rw [new_len] at h; omega))
  have HC3 := Lib.hid (And.intro hc3' (fun x hx => Nat.le_trans HC2.out.size (hf3 x hx)))
  clear hd3 hc3 hf3 hc3' HN
  go_wp2_with (fail)
  refine HF.out.mono ?_
  intro e w4 hp
  unfold FmtPost at hp
  rw [if_pos (by rw [new_len]; exact h2)] at hp
  obtain ⟨rfl, F4, hd4, hc4, hf4⟩ := hp
  have hc4' : Chg [] w w4 := HC3.out.1.trans (hc4.mono (T := F) (fun x hx => .inl hx)) (fun x hx => .inr (HC3.out.2 x hx))
  have HCo := Lib.hid (coded_any B E 9 9 w4 (HE.out.chg hc4' (by simp)) (by decide))
  have HC4 := Lib.hid hc4'
  rw [show (errv E 9) = .iface 171 (.pointer (some (E 9))) from rfl] at HCo ⊢
  clear hd4 hc4 hf4 hc4' HF
  go_wp2_with (fail)
  refine HCo.out.mono ?_
  rintro e w5 ⟨rfl, hb5⟩
  have HC5 := Lib.hid (HC4.out.trans (Chg.of_below hb5 []) (by simp))
  clear hb5
  go_wp2
  go_ret
  exact ⟨rfl, HC5.out⟩
end Go.Proofs.YtdcafgpnomcbhaaGreatDoor
