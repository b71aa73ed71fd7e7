/- LogFails: the power goes, and it goes on from there: the law's walk. -/
import Derived.Test.YtdcafgpnomcbhaaGreatDoorFails0
namespace Go.Proofs.YtdcafgpnomcbhaaGreatDoor
open Go.RowKit
set_option linter.unusedVariables false

set_option maxHeartbeats 8000000 in
set_option maxRecDepth 100000 in
theorem fails_run (B : Nat) (E : Nat → Addr) (v v2 kv : Value) (l more : List RecT) (kl : List Bool) (after : Nat) (w : World) (hE : Env B E w) (hv : RecsG w v l) (hb : wordN l ≤ 500) (hv2 : RecsG w v2 more) (hb2 : wordN more ≤ 500)
    (hk : BoolsG w kv kl) (hkl : kl.length ≤ 500) (ha : after ≤ 9223372036854775807) :
    Calls Tryz.prog 5 #[v, .int .i64 after, kv, v2] w fun e w' => e = .returned (.bool true) ∧ Chg [] w w' := by
  have hs : ∀ a ∈ l, a.l.length ≤ 10000000 ∧ ∀ s ∈ a.l, s.size ≤ 10000000 := by
    intro a ha
    have h1 := wordN_mem ha
    refine ⟨by have := wordT_len a.l; omega, fun s hs => ?_⟩
    have := wordT_mem hs
    omega
  have hs2 : ∀ a ∈ more, a.l.length ≤ 10000000 ∧ ∀ s ∈ a.l, s.size ≤ 10000000 := by
    intro a ha
    have h1 := wordN_mem ha
    refine ⟨by have := wordT_len a.l; omega, fun s hs => ?_⟩
    have := wordT_mem hs
    omega
  have hn : l.length ≤ 100 := by have := wordN_len l; omega
  have hn2 : more.length ≤ 100 := by have := wordN_len more; omega
  have HE := Lib.hid hE
  have HL := Lib.hid (logged_any B E w hE)
  have HBk := Lib.hid (fun w hv => wordy_any v l w hv (by omega) (by omega) hs)
  have HBm := Lib.hid (fun w hv => wordy_any v2 more w hv (by omega) (by omega) hs2)
  rw [decide_eq_false (by omega : ¬ 500 < wordN l)] at HBk
  rw [decide_eq_false (by omega : ¬ 500 < wordN more)] at HBm
  obtain ⟨len, hlen⟩ : ∃ k, l.length = k := ⟨_, rfl⟩
  obtain ⟨len2, hlen2⟩ : ∃ k, more.length = k := ⟨_, rfl⟩
  have HLen := Lib.hid hlen
  have HLen2 := Lib.hid hlen2
  have HW := Lib.hid hb
  have HW2 := Lib.hid hb2
  have HV := Lib.hid hv
  have HV2 := Lib.hid hv2
  have HK := Lib.hid hk
  have HKl := Lib.hid hkl
  have HAft := Lib.hid ha
  obtain ⟨va, vc, rfl, -, -⟩ := hv.len
  obtain ⟨va2, vc2, rfl, -, -⟩ := hv2.len
  obtain ⟨ka, kc, rfl, -, -⟩ := hk.len
  obtain ⟨kn, hkn⟩ : ∃ k, kl.length = k := ⟨_, rfl⟩
  rw [hlen] at HV HBk hn ⊢
  rw [hlen2] at HV2 HBm hn2 ⊢
  rw [hkn] at HK hkl ⊢
  have hkni : (kn : Int) ≤ 500 := by omega
  have hai : (0 : Int) ≤ after := by omega
  obtain ⟨D1, rest1, left1, len1, good1, ok1, hFm⟩ := format_new B E 400 (by omega) (by omega)
  have HFm := Lib.hid hFm
  have H1 := Lib.hid (And.intro rest1 (And.intro left1 (And.intro len1 (And.intro good1 ok1))))
  clear hE hv hb hs hlen hFm rest1 left1 len1 good1 ok1 hv2 hb2 hs2 hlen2 hk hkl hkn ha
  go_enter Tryz.func5, Tryz.ntmps5
  go_wp2_with (fail)
  refine HL.out.mono ?_
  rintro e w1 ⟨rfl, hc1⟩
  have HC1 := Lib.hid hc1
  clear hc1
  go_wp2_with (fail)
  refine (HBk.out _ (HV.out.chg HC1.out)).mono ?_
  rintro e w2 ⟨rfl, hc2⟩
  have HC2 := Lib.hid (HC1.out.trans hc2 (by simp))
  clear hc2
  go_wp2_with (fail)
  refine (HBm.out _ (HV2.out.chg HC2.out)).mono ?_
  rintro e w3 ⟨rfl, hc3⟩
  have HC3 := Lib.hid (HC2.out.trans hc3 (by simp))
  have HN := Lib.hid (dNew_in B 400 w3 (by omega) (by omega) (HE.out.chg HC3.out (by simp)).le)
  clear hc3 HC1 HC2 HL HBk HBm
  go_wp2_with (fail)
  refine HN.out.mono ?_
  rintro e w4 ⟨v4, rfl, b, F, rfl, hd4, hc4, hf4⟩
  have hc4' := HC3.out.trans hc4 (by simp)
  have HF := Lib.hid (HFm.out b F w4 (HE.out.chg hc4' (by simp)) hd4)
  have HC4 := Lib.hid (And.intro hc4' (fun x hx => Nat.le_trans HC3.out.size (hf4 x hx)))
  clear hd4 hc4 hf4 hc4' HN HFm
  go_wp2_with (fail)
  refine HF.out.mono ?_
  rintro e w5 ⟨g, rfl, hg, hlb, F5, hd5, hc5, hf5, hgF⟩
  have hc5' : Chg [] w w5 := HC4.out.1.trans (hc5.mono (T := F) (fun x hx => .inl hx)) (fun x hx => .inr (HC4.out.2 x hx))
  have hf5' : ∀ x ∈ F5, w.heap.size ≤ x := fun x hx => (hf5 x hx).elim (HC4.out.2 x) (fun h => Nat.le_trans HC4.out.1.size h)
  have HFl := Lib.hid (pFail_any B b E F5 D1 after w5 (HE.out.chg hc5' (by simp)) hd5)
  have H5 := Lib.hid (And.intro hc5' (And.intro hf5' (And.intro hlb (And.intro hgF (Nat.le_trans HC4.out.1.size hg)))))
  rw [show D1.fail after = ({ D1 with left := after }, 0) from by unfold DSt.fail; rw [if_neg (by omega)]] at HFl
  clear hd5 hc5 hf5 hc5' hf5' hlb hgF HF hg
  go_wp2_with (fail)
  refine HFl.out.mono ?_
  rintro e w6 hp
  obtain ⟨rfl, F6, hd6, hc6, hf6⟩ := hp.dw
  have hgF5 : g ∉ F5 := H5.out.2.2.2.1
  have hlb5 : LogBlk w5 g b (1, 0, 0) false := H5.out.2.2.1
  have K0 : Hid (LogSt B b g w 400 0 (.slice none 0 0) w6 { D1 with left := after } F6 1 0 0 []) := Lib.hid ⟨⟨hd6, ⟨H1.out.1.kept, H1.out.1.wait⟩, ⟨by show (-1 : Int) ≤ after; omega, by show (after : Int) ≤ _; have := HAft.out; omega, H1.out.2.2.2.2.len, H1.out.2.2.2.2.klen, H1.out.2.2.2.2.pos, H1.out.2.2.2.2.wait⟩, H1.out.2.2.1, H1.out.2.2.2.1, by omega, Blk.chg hlb5 hc6 hgF5,
    (fun hm => (hf6 g hm).elim hgF5 (fun h => by have := Blk.lt hlb5; omega)), H5.out.1.trans (hc6.mono (T := F5) (fun x hx => .inl hx)) (fun x hx => .inr (H5.out.2.1 x hx)), (fun x hx => (hf6 x hx).elim (H5.out.2.1 x) (fun h => Nat.le_trans H5.out.1.size h)), H5.out.2.2.2.2⟩, .inl ⟨rfl, rfl⟩, (by intro hl; exact absurd rfl hl)⟩
  clear hp hd6 hc6 hf6 hgF5 hlb5 HFl H5 HC4 HC3
  rw [show errv E (({ D1 with left := (after : Int) } : DSt), 0).2 = .nilIface from rfl]
  go_wp2
  go_loopw [13, 14, 15, 16] (FailRel B b g w len l) (fun _ _ _ i _ => len - (intOf i).toNat)
  case atStart => exact ⟨_, _, 0, rfl, rfl, Nat.zero_le _, rfl, .inl ⟨rfl, rfl, _, F6, 1, 0, 0, [], by simp [wordT], K0.out⟩⟩
  case round =>
    obtain ⟨nv, mv, j, rfl, rfl, hj, rfl, hst⟩ := hrel
    clear K0 H1
    by_cases hlt : j < len
    · have hjl : (j : Int) < len := by omega
      have hj2 : j < l.length := by rw [HLen.out]; exact hlt
      obtain ⟨ad, rfl, k0, kv', k1, hk⟩ := HV.out.at' j hj2
      have hwm := wordN_mem (List.getElem_mem hj2)
      have hwn := wordN_take l j hj2
      have hwl := Nat.le_trans (wordN_take_le l (j + 1)) HW.out
      generalize l[j].l = rs at k1 hk hwm hwn
      generalize l[j].clear = clear at k0
      have HTx := Lib.hid hk
      have HM := Lib.hid (And.intro k0 k1)
      have hfl2 := wordT_len rs
      have HWd := Lib.hid (show wordT rs ≤ 500 ∧ wordN (l.take (j + 1)) = wordN (l.take j) + (5 + wordT rs) ∧ wordN (l.take (j + 1)) ≤ 500 ∧ rs.length ≤ 500 by omega)
      clear hk k0 k1 hwm hwn hwl hfl2
      rcases hst with hal | hde
      · obtain ⟨rfl, rfl, D, FD, a, h, c, ps, hwt, hL⟩ := hal
        have L := Lib.hid hL
        have m0 := hL.chg.cell HM.out.1 (by simp)
        have m1 := hL.chg.cell HM.out.2 (by simp)
        have hwx := word_next clear ps.flatten rs
        have hwd := HWd.out
        have HWx := Lib.hid (show wordT (nextF clear ps.flatten rs) ≤ wordN (l.take (j + 1)) ∧ wordT ps.flatten ≤ 500 ∧ wordT ps.flatten ≤ wordN (l.take (j + 1)) by omega)
        have HAc := Lib.hid (acted_any hL.toLogSt0 (HE.out.chg hL.chg (by simp)) clear kv' rs (HTx.out.chg hL.chg) HWd.out.1 (by omega) (by omega))
        clear hL hwx hwd hwt
        go_wp2_with (fail)
        refine HAc.out.mono ?_
        rintro e w7 (hfu | hdo | hlo)
        · obtain ⟨rfl, hfit, F7, hL7, hsy⟩ := hfu
          have L7 : Hid (LogSt B b g w 400 (j + 1) nv w7 D F7 a h c ps) := Lib.hid ⟨hL7, (hsy nv _ L.out.now L.out.nowF).1, (hsy nv _ L.out.now L.out.nowF).2⟩
          have HCo := Lib.hid (coded_any B E 9 9 w7 (HE.out.chg hL7.chg (by simp)) (by decide))
          rw [show (errv E 9) = .iface 171 (.pointer (some (E 9))) from rfl] at HCo
          clear hL7 hsy hfit HAc m0 m1 L
          go_wp2_with (fail)
          refine HCo.out.mono ?_
          rintro e w8 ⟨rfl, hb8⟩
          have L8 := Lib.hid (L7.out.mv (Chg.of_below hb8 []))
          have KN : Hid (FailRel B b g w len l nv (.slice none 0 0) (.bool false) (.int .i64 ((j : Int) + 1)) w8) := Lib.hid ⟨_, _, j + 1, rfl, rfl, hlt, by go_num, .inl ⟨rfl, rfl, D, F7, a, h, c, ps, HWx.out.2.2, L8.out⟩⟩
          clear hb8 HCo L7
          go_wp2
          go_roundw
          case rel => exact KN.out
          case measure => simp [intOf]; omega
        · obtain ⟨rfl, D7, F7, a7, h7, c7, ps7, -, hfl7, -, hL7, hsy⟩ := hdo
          have T7 := Lib.hid (And.intro hL7 (hsy nv _ L.out.now L.out.nowF))
          have HF7 := Lib.hid hfl7
          have HCo := Lib.hid (coded_any B E 0 9 w7 (HE.out.chg hL7.chg (by simp)) (by decide))
          rw [show (errv E 0) = .nilIface from rfl] at HCo
          have m0' := hL7.chg.cell HM.out.1 (by simp)
          have m1' := hL7.chg.cell HM.out.2 (by simp)
          clear hL7 hsy hfl7 HAc m0 m1 L
          go_wp2_with (fail)
          refine HCo.out.mono ?_
          rintro e w8 ⟨rfl, hb8⟩
          have hc8 : Chg [] w7 w8 := Chg.of_below hb8 []
          have T8 := Lib.hid (And.intro (T7.out.1.mv hc8) (T7.out.2.1.chg hc8 (by simp)))
          have m0 := hc8.cell m0' (by simp)
          have m1 := hc8.cell m1' (by simp)
          have HNx := Lib.hid (next_any nv kv' clear ps.flatten rs w8 T8.out.2 (HTx.out.chg T8.out.1.chg) (by have := wordT_len ps.flatten; have := HWx.out; have := HWd.out; omega))
          clear hb8 hc8 HCo T7 m0' m1'
          go_wp2_with (fail)
          refine HNx.out.mono ?_
          rintro e w9 ⟨tv, rfl, hown⟩
          have L9 : Hid (LogSt B b g w 400 (j + 1) tv w9 D7 F7 a7 h7 c7 ps7) := Lib.hid ⟨T8.out.1.mv (Chg.of_below hown.2.1 []), by rw [HF7.out]; exact hown.texts, T8.out.1.own hown.2.2⟩
          have HCo := Lib.hid (coded_any B E 0 15 w9 (HE.out.chg L9.out.chg (by simp)) (by decide))
          rw [show (errv E 0) = .nilIface from rfl] at HCo
          clear hown HNx T8 m0 m1
          go_wp2_with (fail)
          refine HCo.out.mono ?_
          rintro e w10 ⟨rfl, hb10⟩
          have L10 := Lib.hid (L9.out.mv (Chg.of_below hb10 []))
          have KN : Hid (FailRel B b g w len l tv (.slice none 0 0) (.bool false) (.int .i64 ((j : Int) + 1)) w10) := Lib.hid ⟨_, _, j + 1, rfl, rfl, hlt, by go_num, .inl ⟨rfl, rfl, D7, F7, a7, h7, c7, ps7, by rw [HF7.out]; exact HWx.out.1, L10.out⟩⟩
          clear hb10 HCo L9
          go_wp2
          go_roundw
          case rel => exact KN.out
          case measure => simp [intOf]; omega
        · obtain ⟨rfl, -, D7, F7, z7, hL7, hsy⟩ := hlo
          have T7 := Lib.hid (And.intro (hL7.up (m' := 200) (by omega)) (hsy nv _ L.out.now L.out.nowF))
          have HCo := Lib.hid (coded_any B E 15 9 w7 (HE.out.chg hL7.chg (by simp)) (by decide))
          rw [show (errv E 15) = .iface 171 (.pointer (some (E 15))) from rfl] at HCo
          have m0' := hL7.chg.cell HM.out.1 (by simp)
          have m1' := hL7.chg.cell HM.out.2 (by simp)
          clear hL7 hsy HAc m0 m1 L
          go_wp2_with (fail)
          refine HCo.out.mono ?_
          rintro e w8 ⟨rfl, hb8⟩
          have hc8 : Chg [] w7 w8 := Chg.of_below hb8 []
          have T8 := Lib.hid (And.intro (T7.out.1.mv hc8) (And.intro (T7.out.2.1.chg hc8 (by simp)) T7.out.2.2))
          have m0 := hc8.cell m0' (by simp)
          have m1 := hc8.cell m1' (by simp)
          have HNx := Lib.hid (next_any nv kv' clear ps.flatten rs w8 T8.out.2.1 (HTx.out.chg T8.out.1.chg) (by have := wordT_len ps.flatten; have := HWx.out; have := HWd.out; omega))
          clear hb8 hc8 HCo T7 m0' m1'
          go_wp2_with (fail)
          refine HNx.out.mono ?_
          rintro e w9 ⟨tv, rfl, hown⟩
          have hc9 : Chg [] w8 w9 := Chg.of_below hown.2.1 []
          have ho9 : OwnT w g F7 tv (nextF clear ps.flatten rs) := by
            intro _ x hx
            have h1 := hown.2.2 x hx
            refine ⟨fun hm => ?_, fun hm => ?_, Nat.le_trans T8.out.1.chg.size h1⟩
            · have := T8.out.1.disk.lt x hm; omega
            · have := Blk.lt T8.out.1.log; omega
          have T9 := Lib.hid (And.intro (T8.out.1.mv hc9) (And.intro (T8.out.2.1.chg hc9 (by simp)) (And.intro T8.out.2.2 (And.intro hown.texts ho9))))
          have HCo := Lib.hid (coded_any B E 15 15 w9 (HE.out.chg T9.out.1.chg (by simp)) (by decide))
          rw [show (errv E 15) = .iface 171 (.pointer (some (E 15))) from rfl] at HCo
          clear hown HNx T8 m0 m1 hc9 ho9
          go_wp2_with (fail)
          refine HCo.out.mono ?_
          rintro e w10 ⟨rfl, hb10⟩
          have hc10 : Chg [] w9 w10 := Chg.of_below hb10 []
          have KN : Hid (FailRel B b g w len l nv tv (.bool true) (.int .i64 ((j : Int) + 1)) w10) := Lib.hid ⟨_, _, j + 1, rfl, rfl, hlt, by go_num, .inr ⟨rfl, D7, F7, z7, _, _, HWx.out.2.1, by have := HWx.out.1; have := HWd.out; omega, T9.out.1.mv hc10, T9.out.2.1.chg hc10 (by simp), T9.out.2.2.1, T9.out.2.2.2.1.chg hc10 (by simp), T9.out.2.2.2.2⟩⟩
          clear hb10 hc10 HCo T9
          go_wp2
          go_roundw
          case rel => exact KN.out
          case measure => simp [intOf]; omega
      · obtain ⟨rfl, D, FD, z, l1, l2, s1, s2, hL, ht1, ho1, ht2, ho2⟩ := hde
        have m0 := hL.chg.cell HM.out.1 (by simp)
        have m1 := hL.chg.cell HM.out.2 (by simp)
        have T := Lib.hid (And.intro s1 (And.intro s2 (And.intro (And.intro ht1 ho1) (And.intro ht2 ho2))))
        have HAc := Lib.hid (lost_any hL (HE.out.chg hL.chg (by simp)) clear kv' rs (HTx.out.chg hL.chg) HWd.out.1)
        clear s1 s2 hL ht1 ho1 ht2 ho2
        go_wp2_with (fail)
        refine HAc.out.mono ?_
        rintro e w7 ⟨rfl, F7, hL7, hsy⟩
        have T7 := Lib.hid (And.intro hL7 (And.intro (hsy nv _ T.out.2.2.1.1 T.out.2.2.1.2) (hsy mv _ T.out.2.2.2.1 T.out.2.2.2.2)))
        have HCo := Lib.hid (coded_any B E 15 15 w7 (HE.out.chg hL7.chg (by simp)) (by decide))
        rw [show (errv E 15) = .iface 171 (.pointer (some (E 15))) from rfl] at HCo
        clear hL7 hsy HAc m0 m1
        go_wp2_with (fail)
        refine HCo.out.mono ?_
        rintro e w8 ⟨rfl, hb8⟩
        have hc8 : Chg [] w7 w8 := Chg.of_below hb8 []
        have KN : Hid (FailRel B b g w len l nv mv (.bool true) (.int .i64 ((j : Int) + 1)) w8) := Lib.hid ⟨_, _, j + 1, rfl, rfl, hlt, by go_num, .inr ⟨rfl, D, F7, z, l1, l2, T.out.1, T.out.2.1, T7.out.1.mv hc8, T7.out.2.1.1.chg hc8 (by simp), T7.out.2.1.2, T7.out.2.2.1.chg hc8 (by simp), T7.out.2.2.2⟩⟩
        clear hb8 hc8 HCo T7
        go_wp2
        go_roundw
        case rel => exact KN.out
        case measure => simp [intOf]; omega
    · obtain ⟨bl, rfl, D, FD, l1, l2, hS⟩ := fail_end (by omega) HW.out hst
      have hjn : j = len := by omega
      subst hjn
      have S := Lib.hid hS
      have hkk := HK.out.chg hS.chg
      have hkl := HKl.out
      clear hS hst hlt hj
      go_wp2_with (at_builtin; refine wpList_append_bools rfl _ _ rfl rfl rfl _ kl rfl hkk (by omega) ?_)
      intro kv8 w8 hr8 hc8 hb8
      have hd8 := S.out.disk.chg hc8 (by simp)
      have HCr := Lib.hid (crash_any B b FD kv8 kl D w8 hd8 S.out.ok (HE.out.chg (S.out.chg.trans hc8 (by simp)) (by simp)).le S.out.full hr8 (fun x hx hm => by have := S.out.disk.lt x hm; have := hb8 x hx; omega))
      have HC8 := Lib.hid (S.out.chg.trans hc8 (by simp))
      have HT8 := Lib.hid (And.intro (S.out.t1.chg hc8 (by simp)) (fun hb => (S.out.t2 hb).1.chg hc8 (by simp)))
      clear hr8 hc8 hb8 hd8 hkk hkl
      go_wp2_with (fail)
      refine HCr.out.mono ?_
      rintro e w9 hp
      obtain ⟨rfl, F9, hd9, hc9, hf9⟩ := hp.dw
      have hc9' : Chg [] w w9 := HC8.out.trans (hc9.mono (T := FD) (fun x hx => .inl hx)) (fun x hx => .inr (S.out.fresh x hx))
      have hf9' : ∀ x ∈ F9, w.heap.size ≤ x := fun x hx => (hf9 x hx).elim (S.out.fresh x) (fun h => Nat.le_trans HC8.out.size h)
      obtain ⟨hlen9, a, h, c, ps, ha9, hgood, hps⟩ := S.out.crash kl
      have HT9 := Lib.hid (And.intro (HT8.out.1.chg' hc9 (fun hn k hk => (S.out.o1 hn k hk).1)) (fun hb => (HT8.out.2 hb).chg' hc9 (fun hn k hk => ((S.out.t2 hb).2 hn k hk).1)))
      have HO := Lib.hid (open_good B b E F9 (D.crash kl) a h c ps w9 (HE.out.chg hc9' (by simp)) hd9 (crash_ok S.out.ok _) (crash_rest D kl) hgood)
      have H9 := Lib.hid (And.intro hd9 (And.intro hc9' (And.intro hf9' (And.intro hlen9 (And.intro ha9 hgood)))))
      have HPs := Lib.hid hps
      clear hp hd9 hc9 hf9 hc9' hf9' hlen9 ha9 hgood hps HCr HT8
      go_wp2_with (fail)
      refine HO.out.mono ?_
      rintro e w10 ⟨hb10, g', v10, rfl, hg10, hlb10, ht10, hv10⟩
      have hc10 : Chg [] w9 w10 := Chg.of_below hb10 []
      have L10 : Hid (LogSt B b g' w 400 200 v10 w10 (D.crash kl) F9 a h c ps) := Lib.hid (open_more H9.out.1 (crash_rest D kl) (crash_ok S.out.ok _) H9.out.2.2.2.1 H9.out.2.2.2.2.2 H9.out.2.2.2.2.1 hb10 hg10 hlb10 ht10 hv10 H9.out.2.1 H9.out.2.2.1)
      have HT10 := Lib.hid (And.intro (HT9.out.1.chg hc10 (by simp)) (fun hb => (HT9.out.2 hb).chg hc10 (by simp)))
      have hleft : (D.crash kl).left = -1 := rfl
      have hps500 : wordT ps.flatten ≤ 500 := by
        rcases HPs.out with h1 | ⟨-, h1⟩
        · rw [h1]; exact S.out.s1
        · rw [h1]; exact S.out.s2
      have HLf := Lib.hid (And.intro hleft hps500)
      have HS1 := Lib.hid S.out.s1
      have HS2 := Lib.hid S.out.s2
      generalize D.crash kl = Dc at L10 HLf
      clear hb10 hg10 hlb10 ht10 hv10 hc10 HO H9 HT9 hleft hps500
      by_cases hsame : ps.flatten = l1
      · have HSm := Lib.hid (same_any v10 nv ps.flatten l1 w10 L10.out.now HT10.out.1 (by have := wordT_len ps.flatten; have := HLf.out.2; omega) (by have := wordT_len l1; have := HS1.out; omega))
        rw [decide_eq_true hsame] at HSm
        clear hsame S
        go_wp2_with (fail)
        refine HSm.out.mono ?_
        rintro e w12 ⟨rfl, hc12⟩
        have L12 := Lib.hid (L10.out.mv hc12)
        clear hc12 HSm
        go_wp2
        go_loopw [13, 22] (MoreRel B b g' w len2 more) (fun _ i _ => len2 - (intOf i).toNat)
        case atStart => exact ⟨_, 0, Dc, F9, a, h, c, ps, rfl, Nat.zero_le _, rfl, HLf.out.1, by have := HLf.out.2; omega, L12.out⟩
        case round =>
          obtain ⟨xv, i, D, FD, a, h, c, ps, rfl, hi, rfl, hleft, hwt, hL⟩ := hrel
          clear L10 L12 HT10 HLf HS1 HS2 HPs
          by_cases hlt : i < len2
          · have hil : (i : Int) < len2 := by omega
            have hi2 : i < more.length := by rw [HLen2.out]; exact hlt
            obtain ⟨ad, rfl, k0, kv', k1, hk⟩ := HV2.out.at' i hi2
            have m0 := hL.chg.cell k0 (by simp)
            have m1 := hL.chg.cell k1 (by simp)
            have hwm := wordN_mem (List.getElem_mem hi2)
            have hwn := wordN_take more i hi2
            have hwl := Nat.le_trans (wordN_take_le more (i + 1)) HW2.out
            generalize more[i].l = rs at k1 hk hwm hwn m1
            generalize more[i].clear = clear at k0 m0
            have HTx := Lib.hid hk
            have HM := Lib.hid (And.intro k0 k1)
            have hfl2 := wordT_len rs
            have hwx := word_next clear ps.flatten rs
            have HWx := Lib.hid (show wordT rs ≤ 500 ∧ rs.length ≤ 500 ∧ wordT ps.flatten ≤ 1000 ∧ wordT ps.flatten ≤ 500 + wordN (more.take (i + 1)) ∧ wordT (nextF clear ps.flatten rs) ≤ 500 + wordN (more.take (i + 1)) by omega)
            have HLft := Lib.hid hleft
            have L := Lib.hid hL
            have HAc := Lib.hid (acted_any hL.toLogSt0 (HE.out.chg hL.chg (by simp)) clear kv' rs (HTx.out.chg hL.chg) HWx.out.1 (by omega) (by omega))
            clear hk k0 k1 hwm hwn hwl hfl2 hwx hwt hL hleft
            go_wp2_with (fail)
            refine HAc.out.mono ?_
            rintro e w7 (hfu | hdo | hlo)
            · obtain ⟨rfl, hfit, F7, hL7, hsy⟩ := hfu
              have L7 : Hid (LogSt B b g' w 400 (200 + (i + 1)) xv w7 D F7 a h c ps) := Lib.hid ⟨hL7, (hsy xv _ L.out.now L.out.nowF).1, (hsy xv _ L.out.now L.out.nowF).2⟩
              have HCo := Lib.hid (coded_any B E 9 9 w7 (HE.out.chg hL7.chg (by simp)) (by decide))
              rw [show (errv E 9) = .iface 171 (.pointer (some (E 9))) from rfl] at HCo
              clear hL7 hsy hfit HAc m0 m1 L
              go_wp2_with (fail)
              refine HCo.out.mono ?_
              rintro e w8 ⟨rfl, hb8⟩
              have L8 := Lib.hid (L7.out.mv (Chg.of_below hb8 []))
              have KN : Hid (MoreRel B b g' w len2 more xv (.int .i64 ((i : Int) + 1)) w8) := Lib.hid ⟨_, i + 1, D, F7, a, h, c, ps, rfl, hlt, by go_num, HLft.out, HWx.out.2.2.2.1, L8.out⟩
              clear hb8 HCo L7
              go_wp2
              go_roundw
              case rel => exact KN.out
              case measure => simp [intOf]; omega
            · obtain ⟨rfl, D7, F7, a7, h7, c7, ps7, hl7, hfl7, -, hL7, hsy⟩ := hdo
              have T7 := Lib.hid (And.intro hL7 (hsy xv _ L.out.now L.out.nowF))
              have HF7 := Lib.hid (And.intro hfl7 (hl7 HLft.out))
              have HCo := Lib.hid (coded_any B E 0 9 w7 (HE.out.chg hL7.chg (by simp)) (by decide))
              rw [show (errv E 0) = .nilIface from rfl] at HCo
              have m0' := hL7.chg.cell HM.out.1 (by simp)
              have m1' := hL7.chg.cell HM.out.2 (by simp)
              clear hL7 hsy hfl7 hl7 HAc m0 m1 L
              go_wp2_with (fail)
              refine HCo.out.mono ?_
              rintro e w8 ⟨rfl, hb8⟩
              have hc8 : Chg [] w7 w8 := Chg.of_below hb8 []
              have T8 := Lib.hid (And.intro (T7.out.1.mv hc8) (T7.out.2.1.chg hc8 (by simp)))
              have m0 := hc8.cell m0' (by simp)
              have m1 := hc8.cell m1' (by simp)
              have HNx := Lib.hid (next_any xv kv' clear ps.flatten rs w8 T8.out.2 (HTx.out.chg T8.out.1.chg) (by have := wordT_len ps.flatten; have := HWx.out; omega))
              clear hb8 hc8 HCo T7 m0' m1'
              go_wp2_with (fail)
              refine HNx.out.mono ?_
              rintro e w9 ⟨tv, rfl, hown⟩
              have L9 : Hid (LogSt B b g' w 400 (200 + (i + 1)) tv w9 D7 F7 a7 h7 c7 ps7) := Lib.hid ⟨T8.out.1.mv (Chg.of_below hown.2.1 []), by rw [HF7.out.1]; exact hown.texts, T8.out.1.own hown.2.2⟩
              have KN : Hid (MoreRel B b g' w len2 more tv (.int .i64 ((i : Int) + 1)) w9) := Lib.hid ⟨_, i + 1, D7, F7, a7, h7, c7, ps7, rfl, hlt, by go_num, HF7.out.2, by rw [HF7.out.1]; exact HWx.out.2.2.2.2, L9.out⟩
              clear hown HNx T8 m0 m1
              go_wp2
              go_roundw
              case rel => exact KN.out
              case measure => simp [intOf]; omega
            · exact absurd HLft.out hlo.2.1
          · have hjn : i = len2 := by omega
            subst hjn
            have L := Lib.hid hL
            have HCr := Lib.hid (crash_any B b FD (.slice none 0 0) [] D _ hL.disk hL.ok (HE.out.chg hL.chg (by simp)).le hL.full (Row.nil _ _ _) (by intro x hx; cases hx))
            have HWd := Lib.hid (show wordT ps.flatten ≤ 1000 by have := wordN_take_le more i; have := HW2.out; omega)
            clear hL hwt hleft
            go_wp2_with (fail)
            refine HCr.out.mono ?_
            rintro e w6 hp
            obtain ⟨rfl, F6, hd6, hc6, hf6⟩ := hp.dw
            have hfr := lw_frame L.out.toLogSt0 hf6 (hc6.mono (T := g' :: FD) (fun x hx => .inl (List.mem_cons_of_mem _ hx)))
            have HF6 := Lib.hid hfr
            have HT6 := Lib.hid (hfr.2.2.2 xv _ L.out.now L.out.nowF).1
            have hgd : Good (D.crash []).now a h c ps := by rw [L.out.rest.crash []]; exact L.out.good
            have HO := Lib.hid (open_good B b E F6 (D.crash []) a h c ps w6 (HE.out.chg hfr.2.1 (by simp)) hd6 (crash_ok L.out.ok _) (crash_rest D []) hgd)
            clear hp hd6 hc6 hf6 hfr HCr hgd
            go_wp2_with (fail)
            refine HO.out.mono ?_
            rintro e w9 ⟨hb9, g9, v9, rfl, hg9, hlb9, ht9, hv9⟩
            have hc9 : Chg [] w6 w9 := Chg.of_below hb9 []
            have HSm := Lib.hid (same_any v9 xv ps.flatten ps.flatten w9 ht9 (HT6.out.chg hc9 (by simp)) (by have := wordT_len ps.flatten; have := HWd.out; omega) (by have := wordT_len ps.flatten; have := HWd.out; omega))
            rw [decide_eq_true rfl] at HSm
            have HC9 := Lib.hid (HF6.out.2.1.trans hc9 (by simp))
            clear hb9 hg9 hlb9 ht9 hv9 hc9 HO
            go_wp2_with (fail)
            refine HSm.out.mono ?_
            rintro e w10 ⟨rfl, hc10⟩
            have HC10 := Lib.hid (HC9.out.trans hc10 (by simp))
            clear hc10
            go_wp2
            go_ret
            exact ⟨rfl, HC10.out⟩
      · obtain ⟨rfl, hsame2⟩ : bl = true ∧ ps.flatten = l2 := HPs.out.resolve_left hsame
        have HSm := Lib.hid (same_any v10 nv ps.flatten l1 w10 L10.out.now HT10.out.1 (by have := wordT_len ps.flatten; have := HLf.out.2; omega) (by have := wordT_len l1; have := HS1.out; omega))
        rw [decide_eq_false hsame] at HSm
        have HSe := Lib.hid hsame2
        have HT2 := Lib.hid (HT10.out.2 rfl)
        clear hsame hsame2 S
        go_wp2_with (fail)
        refine HSm.out.mono ?_
        rintro e w11 ⟨rfl, hc11⟩
        have L11 := Lib.hid (L10.out.mv hc11)
        have HSm2 := Lib.hid (same_any v10 mv ps.flatten l2 w11 L11.out.now (HT2.out.chg hc11 (by simp)) (by have := wordT_len ps.flatten; have := HLf.out.2; omega) (by have := wordT_len l2; have := HS2.out; omega))
        rw [decide_eq_true HSe.out] at HSm2
        clear hc11 HSm
        go_wp2_with (fail)
        refine HSm2.out.mono ?_
        rintro e w12 ⟨rfl, hc12⟩
        have L12 := Lib.hid (L11.out.mv hc12)
        clear hc12 HSm2 L11
        go_wp2
        go_loopw [13, 22] (MoreRel B b g' w len2 more) (fun _ i _ => len2 - (intOf i).toNat)
        case atStart => exact ⟨_, 0, Dc, F9, a, h, c, ps, rfl, Nat.zero_le _, rfl, HLf.out.1, by have := HLf.out.2; omega, L12.out⟩
        case round =>
          obtain ⟨xv, i, D, FD, a, h, c, ps, rfl, hi, rfl, hleft, hwt, hL⟩ := hrel
          clear L10 L12 HT10 HLf HS1 HS2 HPs
          by_cases hlt : i < len2
          · have hil : (i : Int) < len2 := by omega
            have hi2 : i < more.length := by rw [HLen2.out]; exact hlt
            obtain ⟨ad, rfl, k0, kv', k1, hk⟩ := HV2.out.at' i hi2
            have m0 := hL.chg.cell k0 (by simp)
            have m1 := hL.chg.cell k1 (by simp)
            have hwm := wordN_mem (List.getElem_mem hi2)
            have hwn := wordN_take more i hi2
            have hwl := Nat.le_trans (wordN_take_le more (i + 1)) HW2.out
            generalize more[i].l = rs at k1 hk hwm hwn m1
            generalize more[i].clear = clear at k0 m0
            have HTx := Lib.hid hk
            have HM := Lib.hid (And.intro k0 k1)
            have hfl2 := wordT_len rs
            have hwx := word_next clear ps.flatten rs
            have HWx := Lib.hid (show wordT rs ≤ 500 ∧ rs.length ≤ 500 ∧ wordT ps.flatten ≤ 1000 ∧ wordT ps.flatten ≤ 500 + wordN (more.take (i + 1)) ∧ wordT (nextF clear ps.flatten rs) ≤ 500 + wordN (more.take (i + 1)) by omega)
            have HLft := Lib.hid hleft
            have L := Lib.hid hL
            have HAc := Lib.hid (acted_any hL.toLogSt0 (HE.out.chg hL.chg (by simp)) clear kv' rs (HTx.out.chg hL.chg) HWx.out.1 (by omega) (by omega))
            clear hk k0 k1 hwm hwn hwl hfl2 hwx hwt hL hleft
            go_wp2_with (fail)
            refine HAc.out.mono ?_
            rintro e w7 (hfu | hdo | hlo)
            · obtain ⟨rfl, hfit, F7, hL7, hsy⟩ := hfu
              have L7 : Hid (LogSt B b g' w 400 (200 + (i + 1)) xv w7 D F7 a h c ps) := Lib.hid ⟨hL7, (hsy xv _ L.out.now L.out.nowF).1, (hsy xv _ L.out.now L.out.nowF).2⟩
              have HCo := Lib.hid (coded_any B E 9 9 w7 (HE.out.chg hL7.chg (by simp)) (by decide))
              rw [show (errv E 9) = .iface 171 (.pointer (some (E 9))) from rfl] at HCo
              clear hL7 hsy hfit HAc m0 m1 L
              go_wp2_with (fail)
              refine HCo.out.mono ?_
              rintro e w8 ⟨rfl, hb8⟩
              have L8 := Lib.hid (L7.out.mv (Chg.of_below hb8 []))
              have KN : Hid (MoreRel B b g' w len2 more xv (.int .i64 ((i : Int) + 1)) w8) := Lib.hid ⟨_, i + 1, D, F7, a, h, c, ps, rfl, hlt, by go_num, HLft.out, HWx.out.2.2.2.1, L8.out⟩
              clear hb8 HCo L7
              go_wp2
              go_roundw
              case rel => exact KN.out
              case measure => simp [intOf]; omega
            · obtain ⟨rfl, D7, F7, a7, h7, c7, ps7, hl7, hfl7, -, hL7, hsy⟩ := hdo
              have T7 := Lib.hid (And.intro hL7 (hsy xv _ L.out.now L.out.nowF))
              have HF7 := Lib.hid (And.intro hfl7 (hl7 HLft.out))
              have HCo := Lib.hid (coded_any B E 0 9 w7 (HE.out.chg hL7.chg (by simp)) (by decide))
              rw [show (errv E 0) = .nilIface from rfl] at HCo
              have m0' := hL7.chg.cell HM.out.1 (by simp)
              have m1' := hL7.chg.cell HM.out.2 (by simp)
              clear hL7 hsy hfl7 hl7 HAc m0 m1 L
              go_wp2_with (fail)
              refine HCo.out.mono ?_
              rintro e w8 ⟨rfl, hb8⟩
              have hc8 : Chg [] w7 w8 := Chg.of_below hb8 []
              have T8 := Lib.hid (And.intro (T7.out.1.mv hc8) (T7.out.2.1.chg hc8 (by simp)))
              have m0 := hc8.cell m0' (by simp)
              have m1 := hc8.cell m1' (by simp)
              have HNx := Lib.hid (next_any xv kv' clear ps.flatten rs w8 T8.out.2 (HTx.out.chg T8.out.1.chg) (by have := wordT_len ps.flatten; have := HWx.out; omega))
              clear hb8 hc8 HCo T7 m0' m1'
              go_wp2_with (fail)
              refine HNx.out.mono ?_
              rintro e w9 ⟨tv, rfl, hown⟩
              have L9 : Hid (LogSt B b g' w 400 (200 + (i + 1)) tv w9 D7 F7 a7 h7 c7 ps7) := Lib.hid ⟨T8.out.1.mv (Chg.of_below hown.2.1 []), by rw [HF7.out.1]; exact hown.texts, T8.out.1.own hown.2.2⟩
              have KN : Hid (MoreRel B b g' w len2 more tv (.int .i64 ((i : Int) + 1)) w9) := Lib.hid ⟨_, i + 1, D7, F7, a7, h7, c7, ps7, rfl, hlt, by go_num, HF7.out.2, by rw [HF7.out.1]; exact HWx.out.2.2.2.2, L9.out⟩
              clear hown HNx T8 m0 m1
              go_wp2
              go_roundw
              case rel => exact KN.out
              case measure => simp [intOf]; omega
            · exact absurd HLft.out hlo.2.1
          · have hjn : i = len2 := by omega
            subst hjn
            have L := Lib.hid hL
            have HCr := Lib.hid (crash_any B b FD (.slice none 0 0) [] D _ hL.disk hL.ok (HE.out.chg hL.chg (by simp)).le hL.full (Row.nil _ _ _) (by intro x hx; cases hx))
            have HWd := Lib.hid (show wordT ps.flatten ≤ 1000 by have := wordN_take_le more i; have := HW2.out; omega)
            clear hL hwt hleft
            go_wp2_with (fail)
            refine HCr.out.mono ?_
            rintro e w6 hp
            obtain ⟨rfl, F6, hd6, hc6, hf6⟩ := hp.dw
            have hfr := lw_frame L.out.toLogSt0 hf6 (hc6.mono (T := g' :: FD) (fun x hx => .inl (List.mem_cons_of_mem _ hx)))
            have HF6 := Lib.hid hfr
            have HT6 := Lib.hid (hfr.2.2.2 xv _ L.out.now L.out.nowF).1
            have hgd : Good (D.crash []).now a h c ps := by rw [L.out.rest.crash []]; exact L.out.good
            have HO := Lib.hid (open_good B b E F6 (D.crash []) a h c ps w6 (HE.out.chg hfr.2.1 (by simp)) hd6 (crash_ok L.out.ok _) (crash_rest D []) hgd)
            clear hp hd6 hc6 hf6 hfr HCr hgd
            go_wp2_with (fail)
            refine HO.out.mono ?_
            rintro e w9 ⟨hb9, g9, v9, rfl, hg9, hlb9, ht9, hv9⟩
            have hc9 : Chg [] w6 w9 := Chg.of_below hb9 []
            have HSm := Lib.hid (same_any v9 xv ps.flatten ps.flatten w9 ht9 (HT6.out.chg hc9 (by simp)) (by have := wordT_len ps.flatten; have := HWd.out; omega) (by have := wordT_len ps.flatten; have := HWd.out; omega))
            rw [decide_eq_true rfl] at HSm
            have HC9 := Lib.hid (HF6.out.2.1.trans hc9 (by simp))
            clear hb9 hg9 hlb9 ht9 hv9 hc9 HO
            go_wp2_with (fail)
            refine HSm.out.mono ?_
            rintro e w10 ⟨rfl, hc10⟩
            have HC10 := Lib.hid (HC9.out.trans hc10 (by simp))
            clear hc10
            go_wp2
            go_ret
            exact ⟨rfl, HC10.out⟩
end Go.Proofs.YtdcafgpnomcbhaaGreatDoor
