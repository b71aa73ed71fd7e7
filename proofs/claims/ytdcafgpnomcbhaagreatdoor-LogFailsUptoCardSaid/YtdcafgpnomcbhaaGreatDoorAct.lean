/- act: a call of a log, by a record. -/
import Derived.Test.YtdcafgpnomcbhaaGreatDoorCoded
import Derived.Test.YtdcafgpnomcbhaaGreatDoorLaw3
namespace Go.Proofs.YtdcafgpnomcbhaaGreatDoor
open Go.RowKit
set_option linter.unusedVariables false

theorem OwnTexts.texts {w w' : World} {v : Value} {l : List ByteArray} (h : OwnTexts w w' v l) : Texts w' v l := Row.texts h.1
set_option maxHeartbeats 1000000 in
theorem act_any (B b g : Nat) (E : Nat → Addr) (F : List Nat) (D : DSt) (a h c : Nat) (lost clear : Bool) (x : Value) (rs : List ByteArray) (w : World) (hE : Env B E w) (hd : Disk B w b D F) (ok : D.Ok) (hw : D.wait.length ≤ 100000)
    (hl : LogBlk w g b (a, h, c) lost) (hg : g ∉ F) (ha : a ≤ 1000000) (hh : h < 2) (hcc : c ≤ 1000000) (hx : TextsG w x rs) (hb : (bodyL rs).length ≤ 900000) (hn : rs.length ≤ 1000000) :
    Calls Tryz.prog 16 #[.pointer (some ⟨g, 0, none⟩), .agg #[.bool clear, x]] w fun e w' =>
      e = .returned (errv E (actF D (a, h, c) lost clear (bs (packL rs))).2.2.2) ∧ LW B b g F w (actF D (a, h, c) lost clear (bs (packL rs))).1 (actF D (a, h, c) lost clear (bs (packL rs))).2.1 (actF D (a, h, c) lost clear (bs (packL rs))).2.2.1 w' := by
  have hx0 := hx
  obtain ⟨xa, xc, rfl, -, -⟩ := hx.len
  have HX := Lib.hid hx0
  have HE := Lib.hid hE
  have HD := Lib.hid hd
  have HL := Lib.hid hl
  have HA := Lib.hid (And.intro ok (And.intro hw (And.intro hg (And.intro ha (And.intro hh (And.intro hcc (And.intro hb hn)))))))
  have hca : Chg [] w (w.alloc (.cells #[.bool clear, .slice xa rs.length xc] 47)) := Chg.alloc [] _ _
  have HO := Lib.hid (own_any _ rs _ (hx0.chg hca) hn)
  have HCA := Lib.hid hca
  clear hE hd hl ok hw hg hx hx0 hb hca
  cases clear with
  | true =>
    go_enter Tryz.func16, Tryz.ntmps16
    go_wp2_with (fail)
    refine HO.out.mono ?_
    rintro e w1 ⟨v, rfl, hv⟩
    have hc1 : Chg [] w w1 := HCA.out.trans (Chg.of_below hv.2.1 []) (by simp)
    obtain ⟨ok, hw, hg, ha, hh, hcc, hb, hn'⟩ := HA.out
    have HP := Lib.hid (lClear_any B b g E F D a h c lost v rs w1 (HE.out.chg hc1 (by simp)) (HD.out.chg hc1 (by simp)) ok hw (HL.out.chg hc1 (by simp)) hg ha hh hv.1 hb hn')
    have HC1 := Lib.hid hc1
    clear hc1 ok hw hg ha hh hcc hb hn' hv
    go_wp2_with (fail)
    refine HP.out.mono ?_
    rintro e w2 ⟨rfl, hlw⟩
    have HLW := Lib.hid hlw
    clear hlw
    go_wp2
    go_ret
    exact ⟨rfl, LW.pre HC1.out HLW.out⟩
  | false =>
    go_enter Tryz.func16, Tryz.ntmps16
    go_wp2_with (fail)
    refine HO.out.mono ?_
    rintro e w1 ⟨v, rfl, hv⟩
    have hc1 : Chg [] w w1 := HCA.out.trans (Chg.of_below hv.2.1 []) (by simp)
    obtain ⟨ok, hw, hg, ha, hh, hcc, hb, hn'⟩ := HA.out
    have HP := Lib.hid (lAdd_any B b g E F D a h c lost v rs w1 (HE.out.chg hc1 (by simp)) (HD.out.chg hc1 (by simp)) ok hw (HL.out.chg hc1 (by simp)) hg ha hh hcc hv.1 hb hn')
    have HC1 := Lib.hid hc1
    clear hc1 ok hw hg ha hh hcc hb hn' hv
    go_wp2_with (fail)
    refine HP.out.mono ?_
    rintro e w2 ⟨rfl, hlw⟩
    have HLW := Lib.hid hlw
    clear hlw
    go_wp2
    go_ret
    exact ⟨rfl, LW.pre HC1.out HLW.out⟩

set_option maxHeartbeats 1000000 in
theorem next_any (nv x : Value) (clear : Bool) (l rs : List ByteArray) (w : World) (hl : Texts w nv l) (hx : TextsG w x rs) (hn : l.length + rs.length ≤ 1000000) :
    Calls Tryz.prog 15 #[nv, .agg #[.bool clear, x]] w fun e w' => ∃ v, e = .returned v ∧ OwnTexts w w' v (nextF clear l rs) := by
  have hx0 := hx
  obtain ⟨xa, xc, rfl, -, -⟩ := hx.len
  have hlw : Texts (w.alloc (.cells #[.bool clear, .slice xa rs.length xc] 47)) nv l := hl.chg (Chg.alloc [] _ _) (by simp)
  have hxw : TextsG (w.alloc (.cells #[.bool clear, .slice xa rs.length xc] 47)) (.slice xa rs.length xc) rs := hx0.chg (Chg.alloc [] _ _)
  have c1 : (w.alloc (.cells #[.bool clear, .slice xa rs.length xc] 47)).cell? ⟨w.heap.size, 1, none⟩ = some (.slice xa rs.length xc) := (Blk.new w 47 [.bool clear, .slice xa rs.length xc]).cell 1 rfl
  have hbl : Below w.heap.size w (w.alloc (.cells #[.bool clear, .slice xa rs.length xc] 47)) := (Below.refl _ _).alloc (Nat.le_refl _) _
  cases clear with
  | true =>
    clear c1
    go_enter Tryz.func15, Tryz.ntmps15
    go_wp2_with (at_builtin; refine wpList_append_texts rfl _ _ rfl rfl _ 0 [] rfl (Row.nil _ _ _) _ rs rfl hxw (by omega) ?_)
    intro v' w' hr hc hb
    have hp : OwnTexts w w' v' (nextF true l rs) := ⟨by simpa [nextF] using hr, hbl.trans ((show Chg [] _ w' from hc).below (by simp) (by simp)), fun x hx => (hb x hx).elim (fun h => by cases h) (fun h => by omega)⟩
    clear hr hc hb
    go_wp2
    go_ret
    exact ⟨v', rfl, hp⟩
  | false =>
    go_enter Tryz.func15, Tryz.ntmps15
    go_wp2_with (at_builtin; refine wpList_append_texts rfl _ _ rfl rfl _ 0 [] rfl (Row.nil _ _ _) _ l rfl hlw.g (by omega) ?_)
    intro v1 w1 hr hc hb
    have hc1 : Chg [] (w.alloc (.cells #[.bool false, .slice xa rs.length xc] 47)) w1 := hc
    have k1 := hc1.cell c1 (by simp)
    have hx1 := hxw.chg hc1
    have hr1 : Row w1 9 1 v1 l.length (l.map .string) := by simpa using hr
    have hf1 : ∀ x, v1.ownBlock = some x → w.heap.size ≤ x := fun x hx => (hb x hx).elim (fun h => by cases h) (fun h => by omega)
    obtain ⟨a1, cc1, rfl, -, -⟩ := hr1.len
    have hb1 := hbl.trans (hc1.below (B := w.heap.size) (by simp) (by simp))
    clear hr hc hb c1 hc1 hxw hlw hbl hl
    go_wp2_with (at_builtin; refine wpList_append_texts rfl _ _ rfl rfl _ l.length l rfl hr1 _ rs rfl hx1 (by omega) ?_)
    intro v2 w2 hr hc hb
    have hs1 := hb1.size
    have hp : OwnTexts w w2 v2 (nextF false l rs) := ⟨by simpa [nextF] using hr, hb1.trans (hc.below (fun x hx => hf1 x (by simpa using hx)) hs1), fun x hx => (hb x hx).elim (hf1 x) (fun h => by omega)⟩
    clear hr hc hb hr1 hf1 hb1
    go_wp2
    go_ret
    exact ⟨v2, rfl, hp⟩
end Go.Proofs.YtdcafgpnomcbhaaGreatDoor
