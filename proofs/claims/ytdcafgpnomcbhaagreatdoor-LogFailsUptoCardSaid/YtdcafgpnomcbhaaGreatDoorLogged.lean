/- logged: the closed fact of the log's laws. -/
import Derived.Test.YtdcafgpnomcbhaaGreatDoorFacts
namespace Go.Proofs.YtdcafgpnomcbhaaGreatDoor
open Go.RowKit
set_option linter.unusedVariables false

def rsA : List ByteArray := [⟨#[97]⟩, ⟨#[]⟩]
theorem rsA_small : ∀ r ∈ rsA, r.size < 10 ^ 10 := by
  intro r hr
  simp only [rsA, List.mem_cons, List.mem_nil_iff, or_false] at hr
  rcases hr with rfl | rfl
  · decide
  · decide
theorem rsA_body : (bodyL rsA).length = 21 := by
  have h1 := numL_len 1 (by decide)
  have h0 := numL_len 0 (by decide)
  have e1 : (⟨#[97]⟩ : ByteArray).size = 1 := rfl
  have e0 : (⟨#[]⟩ : ByteArray).size = 0 := rfl
  simp [bodyL, rsA, recL, e1, e0, h1, h0]

/-- Format of a new disk -/
theorem format_new (B : Nat) (E : Nat → Addr) (n : Nat) (h8 : 8 ≤ n) (h4 : n ≤ 4000) :
    ∃ D1 : DSt, Rest D1 ∧ D1.left = -1 ∧ D1.now.length = n ∧ Good D1.now 1 0 0 [] ∧ D1.Ok ∧ ∀ b F w, Env B E w → Disk B w b (DSt.new n) F →
      Calls Tryz.prog 11 #[.pointer (some ⟨b, 0, none⟩)] w fun e w' => ∃ g, e = .returned (.tuple #[.pointer (some ⟨g, 0, none⟩), .nilIface]) ∧ w.heap.size ≤ g ∧ LogBlk w' g b (1, 0, 0) false ∧ ∃ F', Disk B w' b D1 F' ∧ Chg F w w' ∧ (∀ x ∈ F', x ∈ F ∨ w.heap.size ≤ x) ∧ g ∉ F' := by
  obtain ⟨h0, hrest, hleft, hlen, hgood⟩ := format_good (D := DSt.new n) (new_full n) (by rw [new_len]; exact h8)
  rw [new_len] at hlen
  have hok := lwriteF_ok (D := fmt0 (DSt.new n)) ⟨by show (-1 : Int) ≤ -1; omega, by show (-1 : Int) ≤ _; omega, by rw [fmt0_len, new_len]; exact h4, by simp [fmt0], by rw [fmt0_len, new_len]; omega, by simp [fmt0]⟩ 0 0 0 emptyS (by show 0 + 0 / 64 + 2 ≤ _; decide)
  refine ⟨_, hrest, hleft, hlen, hgood, hok, fun b F w hE hd => ?_⟩
  refine (lFormat_any B b E F (DSt.new n) w hE hd (new_ok n (by omega) h4) (by simp [DSt.new]) rfl (fun _ => h0)).mono ?_
  intro e w' hp
  unfold FmtPost at hp
  rw [if_neg (by rw [new_len]; omega)] at hp
  exact hp
/-- log.Open of a disk with a log -/
theorem open_good (B b : Nat) (E : Nat → Addr) (F : List Nat) (D : DSt) (a h c : Nat) (ps : List (List ByteArray)) (w : World) (hE : Env B E w) (hd : Disk B w b D F) (ok : D.Ok) (r : Rest D) (g : Good D.now a h c ps) :
    Calls Tryz.prog 9 #[.pointer (some ⟨b, 0, none⟩)] w fun e w' => Below w.heap.size w w' ∧ ∃ g v, e = .returned (.tuple #[.pointer (some ⟨g, 0, none⟩), v, .nilIface]) ∧ w.heap.size ≤ g ∧ LogBlk w' g b (a, h, c) false ∧ Texts w' v ps.flatten ∧ ∀ y, v.ownBlock = some y → w.heap.size ≤ y := by
  refine (open_any B b E F D w hE hd ok (r.full g.full)).mono ?_
  rintro e w' ⟨hb, hp⟩
  rw [g.opens] at hp
  simp only at hp
  obtain ⟨g', v, he, h1, h2, h3, h4⟩ := hp
  refine ⟨hb, g', v, he, h1, h2, ?_, h4⟩
  have : (List.map (fun r => r.data.toList) ps.flatten).map bs = ps.flatten := by
    rw [List.map_map]
    conv => rhs; rw [← List.map_id ps.flatten]
    apply List.map_congr_left
    intro r _
    show bs r.data.toList = r
    unfold bs
    simp
  rwa [this] at h3
theorem DW.same {B b : Nat} {F : List Nat} {w w' : World} {D : DSt} (h : DW B b F w D w') (hF : ∀ x ∈ F, w.heap.size ≤ x) : Chg [] w w' := by
  obtain ⟨F', h1, h2, h3⟩ := h
  exact h2.mono (fun x hx => .inr (hF x hx))

set_option maxHeartbeats 1000000 in
set_option maxRecDepth 100000 in
theorem logged_any (B : Nat) (E : Nat → Addr) (w : World) (hE : Env B E w) :
    Calls Tryz.prog 6 #[] w fun e w' => e = .returned (.bool true) ∧ Chg [] w w' := by
  have HE := Lib.hid hE
  have HN := Lib.hid (dNew_in B 40 w (by omega) (by omega) hE.le)
  obtain ⟨D1, hrest, hleft, hlen, hgood, hok, hFm⟩ := format_new B E 40 (by omega) (by omega)
  have hp1 := packL_le rsA
  rw [rsA_body] at hp1
  have hact := actF_all hrest hgood false rsA rsA_small (by decide) (by omega) (by omega)
  have hok2 := actF_ok hok (1, 0, 0) false false (bs (packL rsA)) (by rw [hrest.wait, bs_size]; simp; omega)
  have HA := Lib.hid (fun b g F v w hE hd hl hg hv => lAdd_any B b g E F D1 1 0 0 false v rsA w hE hd hok (by rw [hrest.wait]; simp) hl hg (by omega) (by omega) (by omega) hv (by rw [rsA_body]; omega) (by decide))
  obtain ⟨hcs, hpw⟩ := hact
  have hcs2 : (actF D1 (1, 0, 0) false false (bs (packL rsA))).2.2.2 = 0 ∧ Rest (actF D1 (1, 0, 0) false false (bs (packL rsA))).1 ∧ ∃ a h c ps', Good (actF D1 (1, 0, 0) false false (bs (packL rsA))).1.now a h c ps' ∧ ps'.flatten = rsA := by
    rcases hcs with ⟨-, h⟩ | ⟨h1, h2, h3, -, -, ps', h4, h5, -⟩ | ⟨h, -⟩
    · rw [hlen] at h
      have : hN 40 = 19 := rfl
      rw [this] at h
      simp [packN, packsL] at h
      omega
    · exact ⟨h1, h3, _, _, _, ps', h4, by simpa [nextF] using h5⟩
    · exact absurd h (hpw hleft).1
  generalize actF D1 (1, 0, 0) false false (bs (packL rsA)) = R at hok2 HA hcs2
  obtain ⟨D2, x2, l2, c2⟩ := R
  simp only at hok2 HA hcs2
  obtain ⟨rfl, hrest2, a2, h2, c2, ps2, hgood2, hfl2⟩ := hcs2
  have HO := Lib.hid (fun b F w hE hd => open_good B b E F D2 a2 h2 c2 ps2 w hE hd hok2 hrest2 hgood2)
  rw [hfl2] at HO
  have HF := Lib.hid hFm
  clear hFm hE hrest hleft hlen hgood hok hp1 hok2 hcs hpw hrest2 hgood2 hfl2
  go_enter Tryz.func6, Tryz.ntmps6
  go_wp2_with (fail)
  refine HN.out.mono ?_
  rintro e w1 ⟨v, rfl, b, F, rfl, hd1, hc1, hf1⟩
  have HE1 := Lib.hid (HE.out.chg hc1 (by simp))
  have HD1 := Lib.hid hd1
  have HC1 := Lib.hid (And.intro hc1 hf1)
  clear hd1 hc1 hf1 HN
  go_wp2_with (fail)
  refine (HF.out b F w1 HE1.out HD1.out).mono ?_
  rintro e w2 ⟨g, rfl, hgw, hlb, F2, hd2, hc2, hf2, hg2⟩
  have hcw2 : Chg [] w w2 := HC1.out.1.trans (hc2.mono (T := F) (fun x hx => .inl hx)) (fun x hx => .inr (HC1.out.2 x hx))
  have hF2 : ∀ x ∈ F2, w.heap.size ≤ x := fun x hx => (hf2 x hx).elim (HC1.out.2 x) (fun h => Nat.le_trans HC1.out.1.size h)
  have HE2 := Lib.hid (HE.out.chg hcw2 (by simp))
  have ha := HA.out b g F2 _ _ ((HE2.out).chg (Chg.alloc [] w2 (.cells #[.string ⟨#[97]⟩, .string ⟨#[]⟩] 9)) (by simp)) (hd2.chg (Chg.alloc [] _ _) (by simp)) (hlb.chg (Chg.alloc [] _ _) (by simp)) hg2 (Row.two w2 ⟨#[97]⟩ ⟨#[]⟩)
  have HA2 := Lib.hid ha
  have hgw2 : w.heap.size ≤ g := Nat.le_trans HC1.out.1.size hgw
  have H2 := Lib.hid (And.intro hcw2 (And.intro hF2 hgw2))
  clear ha hcw2 hF2 hgw2 hlb hd2 hc2 hf2 hg2 HA HF HD1
  go_wp2_with (fail)
  refine HA2.out.mono ?_
  rintro e w3 ⟨rfl, F3, hd3, hc3, hf3, -⟩
  have hcw3 : Chg [] w w3 := (H2.out.1.trans (Chg.alloc [] w2 (.cells #[.string ⟨#[97]⟩, .string ⟨#[]⟩] 9)) (by simp)).trans (hc3.mono (T := g :: F2) (fun x hx => .inl hx)) (fun x hx => .inr (by
    rcases List.mem_cons.1 hx with h | h
    · rw [h]; exact H2.out.2.2
    · exact H2.out.2.1 x h))
  have HE3 := Lib.hid (HE.out.chg hcw3 (by simp))
  have HD3 := Lib.hid hd3
  have HC3 := Lib.hid hcw3
  rw [errv_zero]
  clear hd3 hc3 hf3 hcw3 HA2 HE2
  go_wp2_with (fail)
  refine (HO.out b F3 w3 HE3.out HD3.out).mono ?_
  rintro e w4 ⟨hb4, g4, v4, rfl, hg4, hl4, ht4, hv4⟩
  have hcw4 : Chg [] w w4 := HC3.out.trans (Chg.of_below hb4 []) (by simp)
  rcases ht4 with ⟨h, -⟩ | ⟨q, c4, rfl, hq, hc41, hc42, hcell⟩
  · exact absurd h (by decide)
  have k0 := hcell 0 ⟨#[97]⟩ rfl
  have k1 := hcell 1 ⟨#[]⟩ rfl
  have hlen2 : rsA.length = 2 := rfl
  rw [hlen2] at hc41 ⊢
  have HC4 := Lib.hid hcw4
  have e1 : ((⟨#[97]⟩ : ByteArray).toList == (⟨#[97]⟩ : ByteArray).toList) = true := by simp
  clear hb4 hl4 hv4 hcell hcw4 HO HE3 HD3
  go_wp2
  go_ret
  exact ⟨rfl, HC4.out⟩
end Go.Proofs.YtdcafgpnomcbhaaGreatDoor
