/- LogKeeps: the records of a disk with a log, between the rounds; the law's walk. -/
import Derived.Test.YtdcafgpnomcbhaaGreatDoorActed
namespace Go.Proofs.YtdcafgpnomcbhaaGreatDoor
open Go.RowKit
set_option linter.unusedVariables false

theorem word_next (clear : Bool) (l rs : List ByteArray) : wordT (nextF clear l rs) ≤ wordT l + wordT rs := by
  unfold nextF
  rw [wordT_append]
  cases clear
  · simp
  · simp [wordT]
/-- what a round needs and leaves -/
structure KeepSt (B b g : Nat) (w0 : World) (n j : Nat) (nv : Value) (adds : Nat) (wr : World) (D : DSt) (F : List Nat) (a h c : Nat) (ps : List (List ByteArray)) : Prop where
  st : LogSt B b g w0 n j nv wr D F a h c ps
  left : D.left = -1
  packs : ps.length ≤ adds + 1
  addsj : adds ≤ j
def KeepRel (B b g : Nat) (w0 : World) (n len : Nat) (l : List RecT) (nv av iv : Value) (wr : World) : Prop :=
  ∃ (x : Value) (j adds : Nat) (D : DSt) (F : List Nat) (a h c : Nat) (ps : List (List ByteArray)), x = nv ∧ j ≤ len ∧ av = .int .i64 adds ∧ iv = .int .i64 j ∧ wordT ps.flatten ≤ wordN (l.take j) ∧ KeepSt B b g w0 n j x adds wr D F a h c ps

set_option maxHeartbeats 4000000 in
set_option maxRecDepth 100000 in
theorem keeps_run (B : Nat) (E : Nat → Addr) (v : Value) (l : List RecT) (n : Nat) (w : World) (hE : Env B E w) (hv : RecsG w v l) (hb : wordN l ≤ 500) (h1 : 8 ≤ n) (h2 : n ≤ 400) :
    Calls Tryz.prog 4 #[.int .i64 n, v] w fun e w' => e = .returned (.bool true) ∧ Chg [] w w' := by
  have hs : ∀ a ∈ l, a.l.length ≤ 10000000 ∧ ∀ s ∈ a.l, s.size ≤ 10000000 := by
    intro a ha
    have h1 := wordN_mem ha
    refine ⟨by have := wordT_len a.l; omega, fun s hs => ?_⟩
    have := wordT_mem hs
    omega
  have hn : l.length ≤ 100 := by have := wordN_len l; omega
  have HE := Lib.hid hE
  have HL := Lib.hid (logged_any B E w hE)
  have HBk := Lib.hid (fun w hv => wordy_any v l w hv (by omega) (by omega) hs)
  rw [decide_eq_false (by omega : ¬ 500 < wordN l)] at HBk
  have hni : (n : Int) ≤ 400 := by omega
  have hni1 : (8 : Int) ≤ n := by omega
  obtain ⟨len, hlen⟩ : ∃ k, l.length = k := ⟨_, rfl⟩
  have HLen := Lib.hid hlen
  have HW := Lib.hid hb
  have HV := Lib.hid hv
  obtain ⟨va, vc, rfl, -, -⟩ := hv.len
  rw [hlen] at HV HBk hn ⊢
  obtain ⟨D1, rest1, left1, len1, good1, ok1, hFm⟩ := format_new B E n h1 (by omega)
  have HFm := Lib.hid hFm
  have H1 := Lib.hid (And.intro rest1 (And.intro left1 (And.intro len1 (And.intro good1 ok1))))
  clear hE hv hb hs hlen hFm rest1 left1 len1 good1 ok1
  go_enter Tryz.func4, Tryz.ntmps4
  go_wp2_with (fail)
  refine HL.out.mono ?_
  rintro e w1 ⟨rfl, hc1⟩
  have HV1 := Lib.hid (HV.out.chg hc1)
  have HC1 := Lib.hid hc1
  clear hc1
  go_wp2_with (fail)
  refine (HBk.out _ HV1.out).mono ?_
  rintro e w2 ⟨rfl, hc2⟩
  have hc2' := HC1.out.trans hc2 (by simp)
  have HC2 := Lib.hid hc2'
  have HE2 := Lib.hid (HE.out.chg hc2' (by simp))
  have HN := Lib.hid (dNew_in B n w2 (by omega) (by omega) HE2.out.le)
  clear hc2 hc2' HL HBk HV1 HC1
  go_wp2_with (fail)
  refine HN.out.mono ?_
  rintro e w3 ⟨v3, rfl, b, F, rfl, hd3, hc3, hf3⟩
  have hc3' := HC2.out.trans hc3 (by simp)
  have HF := Lib.hid (HFm.out b F w3 (HE.out.chg hc3' (by simp)) hd3)
  have HC3 := Lib.hid (And.intro hc3' (fun x hx => Nat.le_trans HC2.out.size (hf3 x hx)))
  clear hd3 hc3 hf3 hc3' HN HFm
  go_wp2_with (fail)
  refine HF.out.mono ?_
  rintro e w4 ⟨g, rfl, hg, hlb, F4, hd4, hc4, hf4, hgF⟩
  have hc4' : Chg [] w w4 := HC3.out.1.trans (hc4.mono (T := F) (fun x hx => .inl hx)) (fun x hx => .inr (HC3.out.2 x hx))
  have hf4' : ∀ x ∈ F4, w.heap.size ≤ x := fun x hx => (hf4 x hx).elim (HC3.out.2 x) (fun h => Nat.le_trans HC3.out.1.size h)
  have K0 : Hid (KeepSt B b g w n 0 (.slice none 0 0) 0 w4 D1 F4 1 0 0 []) := Lib.hid ⟨⟨hd4, H1.out.1, H1.out.2.2.2.2, H1.out.2.2.1, H1.out.2.2.2.1, by omega, .inl ⟨rfl, rfl⟩, (by intro hl; exact absurd rfl hl), hlb, hgF, hc4', hf4', Nat.le_trans HC3.out.1.size hg⟩, H1.out.2.1, by simp, by omega⟩
  clear hd4 hc4 hf4 hc4' hf4' hlb hgF HF hg HC3 HC2 HE2
  go_wp2
  go_loopw [9, 10, 11] (KeepRel B b g w n len l) (fun _ _ i _ => len - (intOf i).toNat)
  case atStart => exact ⟨_, 0, 0, D1, F4, 1, 0, 0, [], rfl, Nat.zero_le _, rfl, rfl, by simp [wordT], K0.out⟩
  case round =>
    obtain ⟨nv, j, adds, D, FD, a, h, c, ps, rfl, hj, rfl, rfl, hwt, K⟩ := hrel
    clear K0 H1
    have HK := Lib.hid K
    have hEr := HE.out.chg K.st.chg (by simp)
    have HEr := Lib.hid hEr
    have hadd := K.addsj
    by_cases hlt : j < len
    · have hjl : (j : Int) < len := by omega
      have hj2 : j < l.length := by rw [HLen.out]; exact hlt
      obtain ⟨ad, rfl, k0, kv, k1, hk⟩ := HV.out.at' j hj2
      have m0 := K.st.chg.cell k0 (by simp)
      have m1 := K.st.chg.cell k1 (by simp)
      have hwm := wordN_mem (List.getElem_mem hj2)
      have hwn := wordN_take l j hj2
      have hwl := Nat.le_trans (wordN_take_le l (j + 1)) HW.out
      have htx := hk.chg K.st.chg
      have hwb := HW.out
      generalize l[j].l = rs at k1 hk hwm hwn htx
      generalize l[j].clear = clear at k0 m0
      have hfl1 := wordT_len ps.flatten
      have hfl2 := wordT_len rs
      have HTx := Lib.hid hk
      have HNx := Lib.hid (next_any nv kv clear ps.flatten rs wr K.st.now htx (by omega))
      have hwx := word_next clear ps.flatten rs
      have HWd := Lib.hid (show wordT (nextF clear ps.flatten rs) ≤ wordN (l.take (j + 1)) ∧ wordT (nextF clear ps.flatten rs) ≤ 500 ∧ wordT rs ≤ 500 ∧ wordT ps.flatten ≤ 500 by omega)
      have HRs := Lib.hid (word_small (l := rs) (by omega))
      have HM := Lib.hid (And.intro k0 k1)
      have haddi : (adds : Int) ≤ 100 := by omega
      have HPre := Lib.hid hwt
      clear hwn hwl htx hwb hfl1 hfl2 hk K hEr hwx hwm hwt k0 k1
      cases clear with
      | false =>
        go_wp2_with (fail)
        refine HNx.out.mono ?_
        rintro e w5 ⟨tv, rfl, hown⟩
        have hb5 : Chg [] wr w5 := Chg.of_below hown.2.1 []
        have L5 := Lib.hid (HK.out.st.mv hb5)
        have hE5 := HEr.out.chg hb5 (by simp)
        have hTv : Hid (Texts w5 tv (nextF false ps.flatten rs)) := Lib.hid hown.texts
        have hTo : Hid (OwnT w g FD tv (nextF false ps.flatten rs)) := Lib.hid (fun hl x hx => by
          have h1 := hown.2.2 x hx
          refine ⟨fun hm => ?_, fun hm => ?_, Nat.le_trans HK.out.st.chg.size h1⟩
          · have := HK.out.st.disk.lt x hm; omega
          · have := Blk.lt HK.out.st.log; omega)
        have m0' := hb5.cell m0 (by simp)
        have m1' := hb5.cell m1 (by simp)
        have HAc := Lib.hid (acted_any L5.out hE5 false kv rs (HTx.out.chg L5.out.chg) HWd.out.2.2.1 (by omega) (by omega))
        clear hown hb5 hE5 HNx m0 m1
        go_wp2_with (fail)
        refine HAc.out.mono ?_
        rintro e w6 (hfu | hdo | hlo)
        · obtain ⟨rfl, hfit, F6, hL6, hst⟩ := hfu
          have hE6 := HE.out.chg hL6.chg (by simp)
          have HCo := Lib.hid (coded_any B E 9 9 w6 hE6 (by decide))
          rw [show (errv E 9) = .iface 171 (.pointer (some (E 9))) from rfl] at HCo
          have L6 := Lib.hid hL6
          have T6 := Lib.hid (hst tv _ hTv.out hTo.out)
          have HFit := Lib.hid hfit
          clear hL6 hst hE6 hfit HAc L5 m0' m1'
          go_wp2_with (fail)
          refine HCo.out.mono ?_
          rintro e w7 ⟨rfl, hb7⟩
          have hc7 : Chg [] w6 w7 := Chg.of_below hb7 []
          have L7 := Lib.hid (L6.out.mv hc7)
          have HFt := Lib.hid (fits_any tv (nextF false ps.flatten rs) (adds + 1) n w7 (T6.out.1.chg hc7 (by simp)) (by have := wordT_len (nextF false ps.flatten rs); have := HWd.out; omega) (by have := fit_word (nextF false ps.flatten rs); have := HWd.out; omega) (by omega) (by omega))
          rw [decide_eq_false (full_unfit false ps rs n (adds + 1) HK.out.st.good.small HRs.out h1 (by have := HK.out.packs; simp [packN]; try omega) HFit.out)] at HFt
          push_cast at HFt
          clear hb7 hc7 HCo L6
          go_wp2_with (fail)
          refine HFt.out.mono ?_
          rintro e w8 ⟨rfl, hc8⟩
          have L8 := Lib.hid (L7.out.mv hc8)
          have HO := Lib.hid (open_good B b E F6 D a h c ps w8 (HE.out.chg L8.out.chg (by simp)) L8.out.disk L8.out.ok L8.out.rest L8.out.good)
          clear hc8 HFt L7
          go_wp2_with (fail)
          refine HO.out.mono ?_
          rintro e w9 ⟨hb9, g9, v9, rfl, hg9, hlb9, ht9, hv9⟩
          have hc9 : Chg [] w8 w9 := Chg.of_below hb9 []
          have L9 := Lib.hid (L8.out.mv hc9)
          have HSm := Lib.hid (same_any v9 nv ps.flatten ps.flatten w9 ht9 L9.out.now (by have := wordT_len ps.flatten; have := HWd.out; omega) (by have := wordT_len ps.flatten; have := HWd.out; omega))
          rw [decide_eq_true rfl] at HSm
          clear hb9 hg9 hlb9 ht9 hv9 hc9 HO L8
          go_wp2_with (fail)
          refine HSm.out.mono ?_
          rintro e w10 ⟨rfl, hc10⟩
          have L10 := Lib.hid (L9.out.mv hc10)
          have KN : Hid (KeepRel B b g w n len l nv (.int .i64 adds) (.int .i64 ((j : Int) + 1)) w10) := Lib.hid ⟨_, j + 1, adds, D, F6, a, h, c, ps, rfl, hlt, rfl, by go_num, by have := wordN_take l j (by rw [HLen.out]; exact hlt); have := HPre.out; omega, L10.out, HK.out.left, HK.out.packs, by omega⟩
          clear hc10 HSm L9
          go_wp2
          go_roundw
          case rel => exact KN.out
          case measure => simp [intOf]; omega
        · obtain ⟨rfl, D6, a6, h6, c6, ps6, hleft, hfl6, hpk, hnx⟩ := hdo
          obtain ⟨F6, hL6⟩ := hnx tv (by rw [hfl6]; exact hTv.out) (by rw [hfl6]; exact hTo.out)
          have L6 := Lib.hid hL6
          have HO := Lib.hid (open_good B b E F6 D6 a6 h6 c6 ps6 w6 (HE.out.chg hL6.chg (by simp)) hL6.disk hL6.ok hL6.rest hL6.good)
          have HD := Lib.hid (And.intro hleft (And.intro hfl6 hpk))
          clear hL6 hnx hleft hfl6 hpk HAc L5 m0' m1'
          go_wp2_with (fail)
          refine HO.out.mono ?_
          rintro e w9 ⟨hb9, g9, v9, rfl, hg9, hlb9, ht9, hv9⟩
          have hc9 : Chg [] w6 w9 := Chg.of_below hb9 []
          have L9 := Lib.hid (L6.out.mv hc9)
          have HSm := Lib.hid (same_any v9 tv ps6.flatten ps6.flatten w9 ht9 L9.out.now (by rw [HD.out.2.1]; have := wordT_len (nextF false ps.flatten rs); have := HWd.out; omega) (by rw [HD.out.2.1]; have := wordT_len (nextF false ps.flatten rs); have := HWd.out; omega))
          rw [decide_eq_true rfl] at HSm
          clear hb9 hg9 hlb9 ht9 hv9 hc9 HO L6
          go_wp2_with (fail)
          refine HSm.out.mono ?_
          rintro e w10 ⟨rfl, hc10⟩
          have L10 := Lib.hid (L9.out.mv hc10)
          have KN : Hid (KeepRel B b g w n len l tv (.int .i64 ((adds : Int) + 1)) (.int .i64 ((j : Int) + 1)) w10) := Lib.hid ⟨_, j + 1, adds + 1, D6, F6, a6, h6, c6, ps6, rfl, hlt, by go_num, by go_num, by rw [HD.out.2.1]; exact HWd.out.1, L10.out, HD.out.1 HK.out.left, by have h1 := HD.out.2.2; have := HK.out.packs; simp [packN] at h1; omega, by omega⟩
          clear hc10 HSm L9
          go_wp2
          go_roundw
          case rel => exact KN.out
          case measure => simp [intOf]; omega
        · exact absurd HK.out.left hlo.2.1
      | true =>
        go_wp2_with (fail)
        refine HNx.out.mono ?_
        rintro e w5 ⟨tv, rfl, hown⟩
        have hb5 : Chg [] wr w5 := Chg.of_below hown.2.1 []
        have L5 := Lib.hid (HK.out.st.mv hb5)
        have hE5 := HEr.out.chg hb5 (by simp)
        have hTv : Hid (Texts w5 tv (nextF true ps.flatten rs)) := Lib.hid hown.texts
        have hTo : Hid (OwnT w g FD tv (nextF true ps.flatten rs)) := Lib.hid (fun hl x hx => by
          have h1 := hown.2.2 x hx
          refine ⟨fun hm => ?_, fun hm => ?_, Nat.le_trans HK.out.st.chg.size h1⟩
          · have := HK.out.st.disk.lt x hm; omega
          · have := Blk.lt HK.out.st.log; omega)
        have m0' := hb5.cell m0 (by simp)
        have m1' := hb5.cell m1 (by simp)
        have HAc := Lib.hid (acted_any L5.out hE5 true kv rs (HTx.out.chg L5.out.chg) HWd.out.2.2.1 (by omega) (by omega))
        clear hown hb5 hE5 HNx m0 m1
        go_wp2_with (fail)
        refine HAc.out.mono ?_
        rintro e w6 (hfu | hdo | hlo)
        · obtain ⟨rfl, hfit, F6, hL6, hst⟩ := hfu
          have hE6 := HE.out.chg hL6.chg (by simp)
          have HCo := Lib.hid (coded_any B E 9 9 w6 hE6 (by decide))
          rw [show (errv E 9) = .iface 171 (.pointer (some (E 9))) from rfl] at HCo
          have L6 := Lib.hid hL6
          have T6 := Lib.hid (hst tv _ hTv.out hTo.out)
          have HFit := Lib.hid hfit
          clear hL6 hst hE6 hfit HAc L5 m0' m1'
          go_wp2_with (fail)
          refine HCo.out.mono ?_
          rintro e w7 ⟨rfl, hb7⟩
          have hc7 : Chg [] w6 w7 := Chg.of_below hb7 []
          have L7 := Lib.hid (L6.out.mv hc7)
          have HFt := Lib.hid (fits_any tv (nextF true ps.flatten rs) (0) n w7 (T6.out.1.chg hc7 (by simp)) (by have := wordT_len (nextF true ps.flatten rs); have := HWd.out; omega) (by have := fit_word (nextF true ps.flatten rs); have := HWd.out; omega) (by omega) (by omega))
          rw [decide_eq_false (full_unfit true ps rs n (0) HK.out.st.good.small HRs.out h1 (by have := HK.out.packs; simp [packN]; try omega) HFit.out)] at HFt
          push_cast at HFt
          clear hb7 hc7 HCo L6
          go_wp2_with (fail)
          refine HFt.out.mono ?_
          rintro e w8 ⟨rfl, hc8⟩
          have L8 := Lib.hid (L7.out.mv hc8)
          have HO := Lib.hid (open_good B b E F6 D a h c ps w8 (HE.out.chg L8.out.chg (by simp)) L8.out.disk L8.out.ok L8.out.rest L8.out.good)
          clear hc8 HFt L7
          go_wp2_with (fail)
          refine HO.out.mono ?_
          rintro e w9 ⟨hb9, g9, v9, rfl, hg9, hlb9, ht9, hv9⟩
          have hc9 : Chg [] w8 w9 := Chg.of_below hb9 []
          have L9 := Lib.hid (L8.out.mv hc9)
          have HSm := Lib.hid (same_any v9 nv ps.flatten ps.flatten w9 ht9 L9.out.now (by have := wordT_len ps.flatten; have := HWd.out; omega) (by have := wordT_len ps.flatten; have := HWd.out; omega))
          rw [decide_eq_true rfl] at HSm
          clear hb9 hg9 hlb9 ht9 hv9 hc9 HO L8
          go_wp2_with (fail)
          refine HSm.out.mono ?_
          rintro e w10 ⟨rfl, hc10⟩
          have L10 := Lib.hid (L9.out.mv hc10)
          have KN : Hid (KeepRel B b g w n len l nv (.int .i64 adds) (.int .i64 ((j : Int) + 1)) w10) := Lib.hid ⟨_, j + 1, adds, D, F6, a, h, c, ps, rfl, hlt, rfl, by go_num, by have := wordN_take l j (by rw [HLen.out]; exact hlt); have := HPre.out; omega, L10.out, HK.out.left, HK.out.packs, by omega⟩
          clear hc10 HSm L9
          go_wp2
          go_roundw
          case rel => exact KN.out
          case measure => simp [intOf]; omega
        · obtain ⟨rfl, D6, a6, h6, c6, ps6, hleft, hfl6, hpk, hnx⟩ := hdo
          obtain ⟨F6, hL6⟩ := hnx tv (by rw [hfl6]; exact hTv.out) (by rw [hfl6]; exact hTo.out)
          have L6 := Lib.hid hL6
          have HO := Lib.hid (open_good B b E F6 D6 a6 h6 c6 ps6 w6 (HE.out.chg hL6.chg (by simp)) hL6.disk hL6.ok hL6.rest hL6.good)
          have HD := Lib.hid (And.intro hleft (And.intro hfl6 hpk))
          clear hL6 hnx hleft hfl6 hpk HAc L5 m0' m1'
          go_wp2_with (fail)
          refine HO.out.mono ?_
          rintro e w9 ⟨hb9, g9, v9, rfl, hg9, hlb9, ht9, hv9⟩
          have hc9 : Chg [] w6 w9 := Chg.of_below hb9 []
          have L9 := Lib.hid (L6.out.mv hc9)
          have HSm := Lib.hid (same_any v9 tv ps6.flatten ps6.flatten w9 ht9 L9.out.now (by rw [HD.out.2.1]; have := wordT_len (nextF true ps.flatten rs); have := HWd.out; omega) (by rw [HD.out.2.1]; have := wordT_len (nextF true ps.flatten rs); have := HWd.out; omega))
          rw [decide_eq_true rfl] at HSm
          clear hb9 hg9 hlb9 ht9 hv9 hc9 HO L6
          go_wp2_with (fail)
          refine HSm.out.mono ?_
          rintro e w10 ⟨rfl, hc10⟩
          have L10 := Lib.hid (L9.out.mv hc10)
          have KN : Hid (KeepRel B b g w n len l tv (.int .i64 0) (.int .i64 ((j : Int) + 1)) w10) := Lib.hid ⟨_, j + 1, 0, D6, F6, a6, h6, c6, ps6, rfl, hlt, by go_num, by go_num, by rw [HD.out.2.1]; exact HWd.out.1, L10.out, HD.out.1 HK.out.left, by have h1 := HD.out.2.2; have := HK.out.packs; simp [packN] at h1; omega, by omega⟩
          clear hc10 HSm L9
          go_wp2
          go_roundw
          case rel => exact KN.out
          case measure => simp [intOf]; omega
        · exact absurd HK.out.left hlo.2.1
    · have hjn : j = len := by omega
      subst hjn
      have HCr := Lib.hid (crash_any B b FD (.slice none 0 0) [] D wr K.st.disk K.st.ok HEr.out.le K.st.full (Row.nil _ _ _) (by intro x hx; cases hx))
      have HWd := Lib.hid (show wordT ps.flatten ≤ 500 by have := wordN_take_le l j; have := HW.out; omega)
      clear K hEr hwt
      go_wp2_with (fail)
      refine HCr.out.mono ?_
      rintro e w6 hp
      obtain ⟨rfl, F6, hd6, hc6, hf6⟩ := hp.dw
      have hfr := lw_frame (lost := false) (D' := D) (x' := (0, 0, 0)) HK.out.st hf6 (hc6.mono (T := g :: FD) (fun x hx => .inl (List.mem_cons_of_mem _ hx)))
      have HF6 := Lib.hid hfr
      have HT6 := Lib.hid (hfr.2.2.2 nv _ HK.out.st.now HK.out.st.nowF).1
      have hgd : Good (D.crash []).now a h c ps := by rw [HK.out.st.rest.crash []]; exact HK.out.st.good
      have HO := Lib.hid (open_good B b E F6 (D.crash []) a h c ps w6 (HE.out.chg hfr.2.1 (by simp)) hd6 (crash_ok HK.out.st.ok _) (crash_rest D []) hgd)
      clear hp hd6 hc6 hf6 hfr HCr hgd
      go_wp2_with (fail)
      refine HO.out.mono ?_
      rintro e w9 ⟨hb9, g9, v9, rfl, hg9, hlb9, ht9, hv9⟩
      have hc9 : Chg [] w6 w9 := Chg.of_below hb9 []
      have HSm := Lib.hid (same_any v9 nv ps.flatten ps.flatten w9 ht9 (HT6.out.chg hc9 (by simp)) (by have := wordT_len ps.flatten; have := HWd.out; omega) (by have := wordT_len ps.flatten; have := HWd.out; omega))
      rw [decide_eq_true rfl] at HSm
      have HC9 := Lib.hid (HF6.out.2.1.trans hc9 (by simp))
      clear hb9 hg9 hlb9 ht9 hv9 hc9 HO
      go_wp2_with (fail)
      refine HSm.out.mono ?_
      rintro e w10 ⟨rfl, hc10⟩
      have HC10 := Lib.hid (HC9.out.trans hc10 (by simp))
      clear hc10
      go_wp2
      go_ret
      exact ⟨rfl, HC10.out⟩
end Go.Proofs.YtdcafgpnomcbhaaGreatDoor
