/- LogNone: the law's walk. -/
import Derived.Test.YtdcafgpnomcbhaaGreatDoorDoAct
namespace Go.Proofs.YtdcafgpnomcbhaaGreatDoor
open Go.RowKit
set_option linter.unusedVariables false

theorem Full.fail {D : DSt} (f : D.Full) (i : Int) : (D.fail i).1.Full := by
  unfold DSt.fail; split
  · exact f
  · exact ⟨f.now, f.kept, f.wait⟩
theorem doAct_full {D : DSt} (f : D.Full) (a : ActT) : (D.doAct a).1.Full := by
  unfold DSt.doAct
  split
  · exact Full.write f _ _
  · split
    · exact Full.flush f
    · split
      · exact Full.fail f _
      · split
        · exact Full.crash f _
        · exact f
theorem doAct_ok {D : DSt} (ok : D.Ok) (a : ActT) (h : D.wait.length < 1000000) (ha : a.n ≤ 9223372036854775807) : (D.doAct a).1.Ok ∧ (D.doAct a).1.wait.length ≤ D.wait.length + 1 := by
  unfold DSt.doAct
  split
  · exact ⟨write_ok ok _ _ h, write_wait _ _ _⟩
  · split
    · exact ⟨flush_ok ok, Nat.le_trans (flush_wait _) (by omega)⟩
    · split
      · unfold DSt.fail
        split
        · exact ⟨ok, by simp⟩
        · exact ⟨⟨by show (-1 : Int) ≤ a.n; omega, ha, ok.len, ok.klen, ok.pos, ok.wait⟩, by simp⟩
      · split
        · exact ⟨crash_ok ok _, by simp [DSt.crash]⟩
        · exact ⟨ok, by simp⟩
theorem openF_new (n : Nat) : openF (DSt.new n) = none := by
  have hz : ∀ s ∈ (DSt.new n).now, headF s.data.toList = none := by
    intro s hs
    rw [List.eq_of_mem_replicate hs]
    exact headF_zero 64
  have : ∀ (l : List ByteArray), (∀ s ∈ l, headF s.data.toList = none) → l.foldl (fun b s => better (hN (DSt.new n).now.length) b s.data.toList) none = none := by
    intro l
    induction l with
    | nil => intro _; rfl
    | cons s l ih =>
      intro h
      rw [List.foldl_cons]
      have : better (hN (DSt.new n).now.length) none s.data.toList = none := by unfold better; rw [h s (by simp)]
      rw [this]
      exact ih (fun x hx => h x (by simp [hx]))
  unfold openF bestF
  rw [this _ (fun s hs => hz s (List.mem_of_mem_take hs))]
/-- Format of a new disk, of any size -/
theorem format_any (B : Nat) (E : Nat → Addr) (n : Nat) (h1 : 1 ≤ n) (h4 : n ≤ 4000) :
    ∃ D1 : DSt, D1.Full ∧ D1.Ok ∧ D1.wait = [] ∧ ∀ b F w, Env B E w → Disk B w b (DSt.new n) F →
      Calls Tryz.prog 11 #[.pointer (some ⟨b, 0, none⟩)] w fun e w' => ∃ x y, e = .returned (.tuple #[x, y]) ∧ DW B b F w D1 w' := by
  by_cases h8 : n < 8
  · refine ⟨DSt.new n, (new_rest n).full (new_full n), new_ok n h1 h4, rfl, fun b F w hE hd => ?_⟩
    refine (lFormat_any B b E F (DSt.new n) w hE hd (new_ok n h1 h4) (by simp [DSt.new]) rfl (fun h => by rw [new_len] at h; omega)).mono ?_
    intro e w' hp
    unfold FmtPost at hp
    rw [if_pos (by rw [new_len]; exact h8)] at hp
    exact ⟨_, _, hp.1, hp.2⟩
  · obtain ⟨D1, hrest, hleft, hlen, hgood, hok, hF⟩ := format_new B E n (by omega) h4
    refine ⟨D1, hrest.full hgood.full, hok, hrest.wait, fun b F w hE hd => ?_⟩
    refine (hF b F w hE hd).mono ?_
    rintro e w' ⟨g, rfl, -, -, F', hd', hc', hf', -⟩
    exact ⟨_, _, rfl, F', hd', hc', hf'⟩

set_option maxHeartbeats 2000000 in
set_option maxRecDepth 100000 in
/-- a new disk, and no log on it -/
theorem none_new (B : Nat) (E : Nat → Addr) (v : Value) (l : List ActT) (n : Nat) (w : World) (hE : Env B E w) (hv : ActsG w v l) (hn : l.length ≤ 10000000) (hb : bulkN l ≤ 200) (hs : ∀ a ∈ l, a.s.size ≤ 10000000 ∧ a.keep.length ≤ 10000000) (h1 : 1 ≤ n) (h2 : n ≤ 60) :
    Calls Tryz.prog 3 #[v, .int .i64 n, .bool false] w fun e w' => e = .returned (.bool true) ∧ Chg [] w w' := by
  have HE := Lib.hid hE
  have HL := Lib.hid (logged_any B E w hE)
  have HV := Lib.hid hv
  have HBk := Lib.hid (fun w hv => bulky_any v l w hv hn (by omega) hs)
  rw [decide_eq_false (by omega : ¬ 200 < bulkN l)] at HBk
  have hni : (n : Int) ≤ 60 := by omega
  have hni1 : (1 : Int) ≤ n := by omega
  clear hE hv hn hb hs
  go_enter Tryz.func3, Tryz.ntmps3
  go_wp2_with (fail)
  refine HL.out.mono ?_
  rintro e w1 ⟨rfl, hc1⟩
  have HV1 := Lib.hid (HV.out.chg hc1)
  have HC1 := Lib.hid hc1
  clear hc1
  go_wp2_with (fail)
  refine (HBk.out _ HV1.out).mono ?_
  rintro e w2 ⟨rfl, hc2⟩
  have hc2' := HC1.out.trans hc2 (by simp)
  have HC2 := Lib.hid hc2'
  have HE2 := Lib.hid (HE.out.chg hc2' (by simp))
  have HN := Lib.hid (dNew_in B n w2 h1 (by omega) HE2.out.le)
  clear hc2 hc2' HL HBk HV1 HC1
  go_wp2_with (fail)
  refine HN.out.mono ?_
  rintro e w3 ⟨v3, rfl, b, F, rfl, hd3, hc3, hf3⟩
  have hc3' := HC2.out.trans hc3 (by simp)
  have HE3 := Lib.hid (HE.out.chg hc3' (by simp))
  have HO := Lib.hid (open_any B b E F (DSt.new n) w3 HE3.out hd3 (new_ok n h1 (by omega)) ((new_rest n).full (new_full n)))
  have HC3 := Lib.hid hc3'
  clear hd3 hc3 hf3 hc3' HN
  go_wp2_with (fail)
  refine HO.out.mono ?_
  rintro e w4 ⟨hb4, hp⟩
  rw [openF_new] at hp
  have hp' : e = .returned (.tuple #[.pointer none, .slice none 0 0, errv E 1]) := hp
  subst hp'
  have hc4 := HC3.out.trans (Chg.of_below hb4 []) (by simp)
  have HCo := Lib.hid (coded_any B E 1 1 w4 (HE.out.chg hc4 (by simp)) (by decide))
  have HC4 := Lib.hid hc4
  rw [show (errv E 1) = .iface 171 (.pointer (some (E 1))) from rfl] at HCo ⊢
  clear hb4 hp hc4 HO HE3 HC3
  go_wp2_with (fail)
  refine HCo.out.mono ?_
  rintro e w5 ⟨rfl, hb5⟩
  have HC5 := Lib.hid (HC4.out.trans (Chg.of_below hb5 []) (by simp))
  clear hb5
  go_wp2
  go_ret
  exact ⟨rfl, HC5.out⟩
end Go.Proofs.YtdcafgpnomcbhaaGreatDoor
