/- LogFails where nothing is tried; what stands behind the first loop. -/
import Derived.Test.YtdcafgpnomcbhaaGreatDoorActed
import Derived.Test.YtdcafgpnomcbhaaGreatDoorDoAct
namespace Go.Proofs.YtdcafgpnomcbhaaGreatDoor
open Go.RowKit
set_option linter.unusedVariables false

set_option maxHeartbeats 1000000 in
set_option maxRecDepth 100000 in
theorem fails_wordy (B : Nat) (E : Nat → Addr) (v v2 kv : Value) (l : List RecT) (after : Int) (w : World) (hE : Env B E w) (hv : RecsG w v l) (hn : l.length ≤ 10000000) (hb : wordN l ≤ 1000000000) (hb2 : 500 < wordN l) (hs : ∀ a ∈ l, a.l.length ≤ 10000000 ∧ ∀ s ∈ a.l, s.size ≤ 10000000) :
    Calls Tryz.prog 5 #[v, .int .i64 after, kv, v2] w fun e w' => e = .returned (.bool true) ∧ Chg [] w w' := by
  have HL := Lib.hid (logged_any B E w hE)
  have HV := Lib.hid hv
  have HBk := Lib.hid (fun w hv => wordy_any v l w hv hn hb hs)
  rw [decide_eq_true hb2] at HBk
  clear hE hv hn hb hs hb2
  go_enter Tryz.func5, Tryz.ntmps5
  go_wp2_with (fail)
  refine HL.out.mono ?_
  rintro e w1 ⟨rfl, hc1⟩
  have HV1 := Lib.hid (HV.out.chg hc1)
  have HC1 := Lib.hid hc1
  clear hc1
  go_wp2_with (fail)
  refine (HBk.out _ HV1.out).mono ?_
  rintro e w2 ⟨rfl, hc2⟩
  have HC2 := Lib.hid (HC1.out.trans hc2 (by simp))
  clear hc2
  go_wp2
  go_ret
  exact ⟨rfl, HC2.out⟩
set_option maxHeartbeats 1000000 in
set_option maxRecDepth 100000 in
theorem fails_wordy2 (B : Nat) (E : Nat → Addr) (v v2 kv : Value) (l more : List RecT) (after : Int) (w : World) (hE : Env B E w) (hv : RecsG w v l) (hn : l.length ≤ 10000000) (hb : wordN l ≤ 500) (hs : ∀ a ∈ l, a.l.length ≤ 10000000 ∧ ∀ s ∈ a.l, s.size ≤ 10000000)
    (hv2 : RecsG w v2 more) (hn2 : more.length ≤ 10000000) (hb2 : wordN more ≤ 1000000000) (hb3 : 500 < wordN more) (hs2 : ∀ a ∈ more, a.l.length ≤ 10000000 ∧ ∀ s ∈ a.l, s.size ≤ 10000000) :
    Calls Tryz.prog 5 #[v, .int .i64 after, kv, v2] w fun e w' => e = .returned (.bool true) ∧ Chg [] w w' := by
  have HL := Lib.hid (logged_any B E w hE)
  have HV := Lib.hid (And.intro hv hv2)
  have HBk := Lib.hid (fun w hv => wordy_any v l w hv hn (by omega) hs)
  have HBm := Lib.hid (fun w hv => wordy_any v2 more w hv hn2 hb2 hs2)
  rw [decide_eq_false (by omega : ¬ 500 < wordN l)] at HBk
  rw [decide_eq_true hb3] at HBm
  clear hE hv hn hb hs hb2 hv2 hn2 hb3 hs2
  go_enter Tryz.func5, Tryz.ntmps5
  go_wp2_with (fail)
  refine HL.out.mono ?_
  rintro e w1 ⟨rfl, hc1⟩
  have HC1 := Lib.hid hc1
  clear hc1
  go_wp2_with (fail)
  refine (HBk.out _ (HV.out.1.chg HC1.out)).mono ?_
  rintro e w2 ⟨rfl, hc2⟩
  have HC2 := Lib.hid (HC1.out.trans hc2 (by simp))
  clear hc2
  go_wp2_with (fail)
  refine (HBm.out _ (HV.out.2.chg HC2.out)).mono ?_
  rintro e w3 ⟨rfl, hc3⟩
  have HC3 := Lib.hid (HC2.out.trans hc3 (by simp))
  clear hc3
  go_wp2
  go_ret
  exact ⟨rfl, HC3.out⟩
set_option maxHeartbeats 1000000 in
set_option maxRecDepth 100000 in
theorem fails_out (B : Nat) (E : Nat → Addr) (v v2 kv : Value) (l more : List RecT) (kl : List Bool) (after : Int) (w : World) (hE : Env B E w) (hv : RecsG w v l) (hn : l.length ≤ 10000000) (hb : wordN l ≤ 500) (hs : ∀ a ∈ l, a.l.length ≤ 10000000 ∧ ∀ s ∈ a.l, s.size ≤ 10000000)
    (hv2 : RecsG w v2 more) (hn2 : more.length ≤ 10000000) (hb2 : wordN more ≤ 500) (hs2 : ∀ a ∈ more, a.l.length ≤ 10000000 ∧ ∀ s ∈ a.l, s.size ≤ 10000000) (hk : BoolsG w kv kl) (hout : after < 0 ∨ 500 < kl.length) :
    Calls Tryz.prog 5 #[v, .int .i64 after, kv, v2] w fun e w' => e = .returned (.bool true) ∧ Chg [] w w' := by
  have HL := Lib.hid (logged_any B E w hE)
  have HV := Lib.hid (And.intro hv hv2)
  have HBk := Lib.hid (fun w hv => wordy_any v l w hv hn (by omega) hs)
  have HBm := Lib.hid (fun w hv => wordy_any v2 more w hv hn2 (by omega) hs2)
  rw [decide_eq_false (by omega : ¬ 500 < wordN l)] at HBk
  rw [decide_eq_false (by omega : ¬ 500 < wordN more)] at HBm
  obtain ⟨ka, kc, rfl, -, -⟩ := hk.len
  obtain ⟨kn, hkn⟩ : ∃ k, kl.length = k := ⟨_, rfl⟩
  rw [hkn] at hout ⊢
  clear hE hv hn hb hs hb2 hv2 hn2 hs2 hk hkn
  by_cases ha : after < 0
  · clear hout
    go_enter Tryz.func5, Tryz.ntmps5
    go_wp2_with (fail)
    refine HL.out.mono ?_
    rintro e w1 ⟨rfl, hc1⟩
    have HC1 := Lib.hid hc1
    clear hc1
    go_wp2_with (fail)
    refine (HBk.out _ (HV.out.1.chg HC1.out)).mono ?_
    rintro e w2 ⟨rfl, hc2⟩
    have HC2 := Lib.hid (HC1.out.trans hc2 (by simp))
    clear hc2
    go_wp2_with (fail)
    refine (HBm.out _ (HV.out.2.chg HC2.out)).mono ?_
    rintro e w3 ⟨rfl, hc3⟩
    have HC3 := Lib.hid (HC2.out.trans hc3 (by simp))
    clear hc3
    go_wp2
    go_ret
    exact ⟨rfl, HC3.out⟩
  · have hkl : (500 : Int) < kn := by omega
    have ha0 : 0 ≤ after := by omega
    clear hout ha
    go_enter Tryz.func5, Tryz.ntmps5
    go_wp2_with (fail)
    refine HL.out.mono ?_
    rintro e w1 ⟨rfl, hc1⟩
    have HC1 := Lib.hid hc1
    clear hc1
    go_wp2_with (fail)
    refine (HBk.out _ (HV.out.1.chg HC1.out)).mono ?_
    rintro e w2 ⟨rfl, hc2⟩
    have HC2 := Lib.hid (HC1.out.trans hc2 (by simp))
    clear hc2
    go_wp2_with (fail)
    refine (HBm.out _ (HV.out.2.chg HC2.out)).mono ?_
    rintro e w3 ⟨rfl, hc3⟩
    have HC3 := Lib.hid (HC2.out.trans hc3 (by simp))
    clear hc3
    go_wp2
    go_ret
    exact ⟨rfl, HC3.out⟩

theorem word_next (clear : Bool) (l rs : List ByteArray) : wordT (nextF clear l rs) ≤ wordT l + wordT rs := by
  unfold nextF
  rw [wordT_append]
  cases clear
  · simp
  · simp [wordT]
/-- between the rounds of the first loop: the power is there, or it is gone -/
def FailAlive (B b g : Nat) (w0 : World) (l : List RecT) (x y lv : Value) (j : Nat) (wr : World) : Prop :=
  lv = .bool false ∧ y = .slice none 0 0 ∧ ∃ (D : DSt) (F : List Nat) (a h c : Nat) (ps : List (List ByteArray)), wordT ps.flatten ≤ wordN (l.take j) ∧ LogSt B b g w0 400 j x wr D F a h c ps
def FailDead (B b g : Nat) (w0 : World) (x y lv : Value) (wr : World) : Prop :=
  lv = .bool true ∧ ∃ (D : DSt) (F : List Nat) (z : Nat × Nat × Nat) (l1 l2 : List ByteArray), wordT l1 ≤ 500 ∧ wordT l2 ≤ 500 ∧ LostSt B b g w0 400 200 wr D F z l1 l2 ∧ Texts wr x l1 ∧ OwnT w0 g F x l1 ∧ Texts wr y l2 ∧ OwnT w0 g F y l2
def FailRel (B b g : Nat) (w0 : World) (len : Nat) (l : List RecT) (nv mv lv iv : Value) (wr : World) : Prop :=
  ∃ (x y : Value) (j : Nat), x = nv ∧ y = mv ∧ j ≤ len ∧ iv = .int .i64 j ∧ (FailAlive B b g w0 l x y lv j wr ∨ FailDead B b g w0 x y lv wr)
/-- behind the first loop -/
structure EndSt (B b g : Nat) (w0 wr : World) (D : DSt) (F : List Nat) (bl : Bool) (x y : Value) (l1 l2 : List ByteArray) : Prop where
  disk : Disk B wr b D F
  ok : D.Ok
  full : D.Full
  chg : Chg [] w0 wr
  fresh : ∀ x ∈ F, w0.heap.size ≤ x
  s1 : wordT l1 ≤ 500
  s2 : wordT l2 ≤ 500
  t1 : Texts wr x l1
  o1 : OwnT w0 g F x l1
  t2 : bl = true → Texts wr y l2 ∧ OwnT w0 g F y l2
  crash : ∀ keep, (D.crash keep).now.length = 400 ∧ ∃ a h c ps, a ≤ 201 ∧ Good (D.crash keep).now a h c ps ∧ (ps.flatten = l1 ∨ bl = true ∧ ps.flatten = l2)
theorem fail_end {B b g : Nat} {w0 wr : World} {l : List RecT} {x y lv : Value} {j : Nat} (hj : j ≤ 100) (hw : wordN l ≤ 500) (h : FailAlive B b g w0 l x y lv j wr ∨ FailDead B b g w0 x y lv wr) :
    ∃ bl, lv = .bool bl ∧ ∃ D F l1 l2, EndSt B b g w0 wr D F bl x y l1 l2 := by
  rcases h with ⟨h1, -, D, F, a, hh, c, ps, h2, L⟩ | ⟨h1, D, F, z, l1, l2, s1, s2, L, t1, o1, t2, o2⟩
  · have hwt := wordN_take_le l j
    refine ⟨false, h1, D, F, ps.flatten, [], ⟨L.disk, L.ok, L.full, L.chg, L.fresh, by omega, by simp [wordT], L.now, L.nowF, (fun h => by cases h), fun keep => ?_⟩⟩
    rw [L.rest.crash keep]
    exact ⟨L.len, a, hh, c, ps, by have := L.aj; omega, L.good, .inl rfl⟩
  · refine ⟨true, h1, D, F, l1, l2, ⟨L.disk, L.ok, L.full, L.chg, L.fresh, s1, s2, t1, o1, fun _ => ⟨t2, o2⟩, fun keep => ?_⟩⟩
    obtain ⟨k1, a1, h1, c1, ps1, k2, k3, k4⟩ := L.crash keep
    exact ⟨k1, a1, h1, c1, ps1, by omega, k3, k4.imp id (fun h => ⟨rfl, h⟩)⟩
theorem texts_ne_log {w : World} {v : Value} {l : List ByteArray} {g b x : Nat} {y : Nat × Nat × Nat} {lo : Bool} (h : Texts w v l) (hl : l ≠ []) (hx : v.ownBlock = some x) (hg : LogBlk w g b y lo) : x ≠ g := by
  rintro rfl
  rcases h with ⟨h, -⟩ | ⟨g', c, rfl, h1, h2, h3, h4⟩
  · exact hl h
  · cases hx
    cases l with
    | nil => exact hl rfl
    | cons s r =>
      have k1 := h4 0 s rfl
      have k2 := Blk.cell hg 0 rfl
      rw [k1] at k2
      cases k2
/-- between the rounds of the second loop -/
def MoreRel (B b g : Nat) (w0 : World) (len : Nat) (l : List RecT) (nv iv : Value) (wr : World) : Prop :=
  ∃ (x : Value) (j : Nat) (D : DSt) (F : List Nat) (a h c : Nat) (ps : List (List ByteArray)), x = nv ∧ j ≤ len ∧ iv = .int .i64 j ∧ D.left = -1 ∧ wordT ps.flatten ≤ 500 + wordN (l.take j) ∧ LogSt B b g w0 400 (200 + j) x wr D F a h c ps
/-- opened anew -/
theorem open_more {B b g' : Nat} {w0 w8 w9 : World} {D : DSt} {F : List Nat} {a h c : Nat} {ps : List (List ByteArray)} {v : Value} (hd : Disk B w8 b D F) (rest : Rest D) (ok : D.Ok) (len : D.now.length = 400) (good : Good D.now a h c ps) (ha : a ≤ 201)
    (hb : Below w8.heap.size w8 w9) (hg : w8.heap.size ≤ g') (hl : LogBlk w9 g' b (a, h, c) false) (ht : Texts w9 v ps.flatten) (hv : ∀ y, v.ownBlock = some y → w8.heap.size ≤ y) (chg : Chg [] w0 w8) (fresh : ∀ x ∈ F, w0.heap.size ≤ x) :
    LogSt B b g' w0 400 200 v w9 D F a h c ps := by
  have hc : Chg [] w8 w9 := Chg.of_below hb []
  refine ⟨⟨hd.chg hc (by simp), rest, ok, len, good, by omega, hl, fun hm => ?_, chg.trans hc (by simp), fresh, Nat.le_trans chg.size hg⟩, ht, fun hn x hx => ⟨fun hm => ?_, texts_ne_log ht hn hx hl, Nat.le_trans chg.size (hv x hx)⟩⟩
  · have := hd.lt _ hm; omega
  · have := hd.lt _ hm; have := hv x hx; omega
end Go.Proofs.YtdcafgpnomcbhaaGreatDoor
