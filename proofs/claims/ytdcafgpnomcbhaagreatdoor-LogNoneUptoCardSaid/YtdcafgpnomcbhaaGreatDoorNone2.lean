/- LogNone: anything is written over a log. -/
import Derived.Test.YtdcafgpnomcbhaaGreatDoorNone
namespace Go.Proofs.YtdcafgpnomcbhaaGreatDoor
open Go.RowKit
set_option linter.unusedVariables false

set_option maxHeartbeats 2000000 in
set_option maxRecDepth 100000 in
/-- anything is written over a log -/
theorem none_over (B : Nat) (E : Nat → Addr) (v : Value) (l : List ActT) (n : Nat) (w : World) (hE : Env B E w) (hv : ActsG w v l) (hn : l.length ≤ 10000000) (hb : bulkN l ≤ 200) (hs : ∀ a ∈ l, a.s.size ≤ 10000000 ∧ a.keep.length ≤ 10000000 ∧ a.n ≤ 9223372036854775807) (h1 : 1 ≤ n) (h2 : n ≤ 60) :
    Calls Tryz.prog 3 #[v, .int .i64 n, .bool true] w fun e w' => e = .returned (.bool true) ∧ Chg [] w w' := by
  have HE := Lib.hid hE
  have HL := Lib.hid (logged_any B E w hE)
  have HV := Lib.hid hv
  have HBk := Lib.hid (fun w hv => bulky_any v l w hv hn (by omega) (fun a ha => ⟨(hs a ha).1, (hs a ha).2.1⟩))
  rw [decide_eq_false (by omega : ¬ 200 < bulkN l)] at HBk
  have hni : (n : Int) ≤ 60 := by omega
  have hni1 : (1 : Int) ≤ n := by omega
  obtain ⟨len, hlen⟩ : ∃ k, l.length = k := ⟨_, rfl⟩
  have hll : len ≤ 200 := by
    rw [← hlen]
    refine Nat.le_trans ?_ hb
    clear hv HV HL HBk hn hs hlen
    induction l with
    | nil => simp
    | cons a l ih => simp only [bulkN, bulkA, List.length_cons] at hb ⊢; have := ih (by omega); omega
  have HLen := Lib.hid hlen
  have HS := Lib.hid hs
  have hv0 := hv
  obtain ⟨va, vc, rfl, -, -⟩ := hv.len
  rw [hlen] at HV HBk ⊢
  obtain ⟨D1, full1, ok1, wait1, hFm⟩ := format_any B E n h1 (by omega)
  have HFm := Lib.hid hFm
  have H1 := Lib.hid (And.intro full1 (And.intro ok1 wait1))
  clear hE hv hv0 hn hb hs hlen hFm full1 ok1 wait1
  go_enter Tryz.func3, Tryz.ntmps3
  go_wp2_with (fail)
  refine HL.out.mono ?_
  rintro e w1 ⟨rfl, hc1⟩
  have HV1 := Lib.hid (HV.out.chg hc1)
  have HC1 := Lib.hid hc1
  clear hc1
  go_wp2_with (fail)
  refine (HBk.out _ HV1.out).mono ?_
  rintro e w2 ⟨rfl, hc2⟩
  have hc2' := HC1.out.trans hc2 (by simp)
  have HC2 := Lib.hid hc2'
  have HE2 := Lib.hid (HE.out.chg hc2' (by simp))
  have HN := Lib.hid (dNew_in B n w2 h1 (by omega) HE2.out.le)
  clear hc2 hc2' HL HBk HV1 HC1
  go_wp2_with (fail)
  refine HN.out.mono ?_
  rintro e w3 ⟨v3, rfl, b, F, rfl, hd3, hc3, hf3⟩
  have hc3' := HC2.out.trans hc3 (by simp)
  have HE3 := Lib.hid (HE.out.chg hc3' (by simp))
  have hF := HFm.out b F w3 HE3.out hd3
  have HF := Lib.hid hF
  have hfw : ∀ x ∈ F, w.heap.size ≤ x := fun x hx => Nat.le_trans HC2.out.size (hf3 x hx)
  have HC3 := Lib.hid (And.intro hc3' hfw)
  clear hd3 hc3 hf3 hc3' HN hF hfw HFm
  go_wp2_with (fail)
  refine HF.out.mono ?_
  rintro e w4 ⟨x4, y4, rfl, F4, hd4, hc4, hf4⟩
  have hc4' : Chg [] w w4 := HC3.out.1.trans (hc4.mono (T := F) (fun x hx => .inl hx)) (fun x hx => .inr (HC3.out.2 x hx))
  have hf4' : ∀ x ∈ F4, w.heap.size ≤ x := fun x hx => (hf4 x hx).elim (HC3.out.2 x) (fun h => Nat.le_trans HC3.out.1.size h)
  have H4 := Lib.hid (And.intro hd4 (And.intro hc4' hf4'))
  clear hd4 hc4 hf4 hc4' hf4' HF
  go_wp2
  go_loopw [13] (fun i wr => ∃ (j : Nat) (D : DSt) (F : List Nat), j ≤ len ∧ i = .int .i64 j ∧ D.Full ∧ D.Ok ∧ D.wait.length ≤ j ∧ Disk B wr b D F ∧ Chg [] w wr ∧ ∀ x ∈ F, w.heap.size ≤ x) (fun i _ => len - (intOf i).toNat)
  case atStart => exact ⟨0, D1, F4, Nat.zero_le _, rfl, H1.out.1, H1.out.2.1, by rw [H1.out.2.2]; simp, H4.out.1, H4.out.2.1, H4.out.2.2⟩
  case round =>
    obtain ⟨j, D, FD, hj, rfl, hfull, hok, hwt, hd, hc, hF⟩ := hrel
    have HX := Lib.hid (And.intro hfull (And.intro hok (And.intro hd (And.intro hc hF))))
    have HEr := Lib.hid (HE.out.chg hc (by simp))
    by_cases hlt : j < len
    · have hjl : (j : Int) < len := by omega
      have hj2 : j < l.length := by rw [HLen.out]; exact hlt
      obtain ⟨ad, rfl, k0, k1, k2, kv, k3, hk⟩ := HV.out.at' j hj2
      have m0 := hc.cell k0 (by simp)
      have m1 := hc.cell k1 (by simp)
      have m2 := hc.cell k2 (by simp)
      have m3 := hc.cell k3 (by simp)
      have hsm := HS.out l[j] (List.getElem_mem _)
      have HA := Lib.hid (doAct_any B b E FD D l[j] kv wr HEr.out hd hok hfull (hk.chg hc) hsm.2.1)
      have hao := Lib.hid (doAct_ok hok l[j] (by omega) hsm.2.2)
      have haf := Lib.hid (doAct_full hfull l[j])
      generalize D.doAct l[j] = R at HA hao haf
      generalize l[j] = act at m0 m1 m2 HA
      clear hfull hok hd hF k0 k1 k2 k3 hk hc hsm
      go_wp2_with (fail)
      refine HA.out.mono ?_
      rintro e w6 ⟨rfl, F6, hd6, hc6, hf6⟩
      have hc6' : Chg [] w w6 := HX.out.2.2.2.1.trans (hc6.mono (T := FD) (fun x hx => .inl hx)) (fun x hx => .inr (HX.out.2.2.2.2 x hx))
      have hf6' : ∀ x ∈ F6, w.heap.size ≤ x := fun x hx => (hf6 x hx).elim (HX.out.2.2.2.2 x) (fun h => Nat.le_trans HX.out.2.2.2.1.size h)
      have H6 := Lib.hid (And.intro hd6 (And.intro hc6' hf6'))
      clear hd6 hc6 hf6 hc6' hf6' m0 m1 m2 m3
      go_wp2
      go_roundw
      case rel => exact ⟨j + 1, R.1, F6, hlt, by go_num, haf.out, hao.out.1, Nat.le_trans hao.out.2 (by omega), H6.out.1, H6.out.2.1, H6.out.2.2⟩
      case measure => simp [intOf]; omega
    · have hjn : j = len := by omega
      subst hjn
      have HCr := Lib.hid (crash_any B b FD (.slice none 0 0) [] D wr hd hok HEr.out.le hfull (Row.nil _ _ _) (by intro x hx; cases hx))
      clear hfull hok hd hc hF
      go_wp2_with (fail)
      refine HCr.out.mono ?_
      rintro e w6 hp
      obtain ⟨rfl, F6, hd6, hc6, hf6⟩ := hp.dw
      have hc6' : Chg [] w w6 := HX.out.2.2.2.1.trans (hc6.mono (T := FD) (fun x hx => .inl hx)) (fun x hx => .inr (HX.out.2.2.2.2 x hx))
      have HO := Lib.hid (open_any B b E F6 (D.crash []) w6 (HE.out.chg hc6' (by simp)) hd6 (crash_ok HX.out.2.1 _) (Full.crash HX.out.1 _))
      have HC6 := Lib.hid hc6'
      clear hp hd6 hc6 hf6 hc6' HCr
      go_wp2_with (fail)
      refine HO.out.mono ?_
      rintro e w7 ⟨hb7, hp⟩
      have hc7 := HC6.out.trans (Chg.of_below hb7 []) (by simp)
      have HC7 := Lib.hid hc7
      cases ho : openF (D.crash []) with
      | none =>
        rw [ho] at hp
        have hp' : e = .returned (.tuple #[.pointer none, .slice none 0 0, errv E 1]) := hp
        subst hp'
        have HCo := Lib.hid (coded_any B E 1 1 w7 (HE.out.chg hc7 (by simp)) (by decide))
        rw [show (errv E 1) = .iface 171 (.pointer (some (E 1))) from rfl] at HCo ⊢
        clear hb7 hp hc7 HO ho
        go_wp2_with (fail)
        refine HCo.out.mono ?_
        rintro e w8 ⟨rfl, hb8⟩
        have HC8 := Lib.hid (HC7.out.trans (Chg.of_below hb8 []) (by simp))
        clear hb8
        go_wp2
        go_ret
        exact ⟨rfl, HC8.out⟩
      | some y =>
        obtain ⟨x7, l7⟩ := y
        rw [ho] at hp
        obtain ⟨g7, v7, rfl, -⟩ := hp
        clear hb7 hc7 HO ho
        go_wp2
        go_ret
        exact ⟨rfl, HC7.out⟩
end Go.Proofs.YtdcafgpnomcbhaaGreatDoor
