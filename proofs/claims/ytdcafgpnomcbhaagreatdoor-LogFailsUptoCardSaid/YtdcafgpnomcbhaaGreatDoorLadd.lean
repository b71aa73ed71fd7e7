/- (*Log).Add. -/
import Derived.Test.YtdcafgpnomcbhaaGreatDoorLput
import Derived.Deep.RegionHeld3
import Derived.StillTailTactics
namespace Go.Proofs.YtdcafgpnomcbhaaGreatDoor
open Go.RowKit
set_option linter.unusedVariables false

set_option maxHeartbeats 2000000 in
set_option maxRecDepth 100000 in
theorem lAdd_any (B b g : Nat) (E : Nat → Addr) (F : List Nat) (D : DSt) (a h c : Nat) (lost : Bool) (v : Value) (rs : List ByteArray) (w : World) (hE : Env B E w) (hd : Disk B w b D F) (ok : D.Ok) (hw : D.wait.length ≤ 100000)
    (hl : LogBlk w g b (a, h, c) lost) (hg : g ∉ F) (ha : a ≤ 1000000) (hh : h < 2) (hcc : c ≤ 1000000) (hv : Row w 9 1 v rs.length (rs.map .string)) (hb : (bodyL rs).length ≤ 900000) (hn : rs.length ≤ 1000000) :
    Calls Tryz.prog 20 #[.pointer (some ⟨g, 0, none⟩), v] w fun e w' =>
      e = .returned (errv E (actF D (a, h, c) lost false (bs (packL rs))).2.2.2) ∧ LW B b g F w (actF D (a, h, c) lost false (bs (packL rs))).1 (actF D (a, h, c) lost false (bs (packL rs))).2.1 (actF D (a, h, c) lost false (bs (packL rs))).2.2.1 w' := by
  have hp1 := packL_mod rs
  have hp2 := packL_le rs
  have HP := Lib.hid (pack_any B E v rs w hE hv (by omega) hn)
  have hsz := bs_size (packL rs)
  generalize bs (packL rs) = s at HP hsz ⊢
  have HE := Lib.hid hE
  have HD := Lib.hid hd
  have HL := Lib.hid hl
  have HG := Lib.hid hg
  have Hok := Lib.hid ok
  have mlen := ok.len
  have mpos := ok.pos
  have hs1 : s.size ≤ 1000000 := by omega
  have hs2 : s.size % 64 = 0 := by omega
  have hH : hN D.now.length ≤ 2000 := by unfold hN; omega
  obtain ⟨va, vc, rfl, hv1, hv2⟩ := hv.len
  clear hE hd hl hg ok hv hb hn hp1 hp2 hsz
  go_enter Tryz.func20, Tryz.ntmps20
  go_wp2_with (fail)
  refine HP.out.mono ?_
  rintro e w1 ⟨rfl, hb1⟩
  have HC1 := Lib.hid (Chg.of_below hb1 [])
  have HL1 := HL.out.chg HC1.out (by simp)
  have c4 := Blk.cell HL1 4 rfl
  cases lost with
  | true =>
    have hg := (HE.out.chg HC1.out (by simp)).glob (15, 3) (by simp [errTab])
    have HLL := Lib.hid HL1
    clear HL1 hb1
    go_wp2
    go_ret
    exact ⟨rfl, LW.pre HC1.out (LW.refl (HD.out.chg HC1.out (by simp)) HLL.out)⟩
  | false =>
    have d0 : w1.drew.cell? ⟨g, 0, none⟩ = some (.pointer (some ⟨b, 0, none⟩)) := Blk.cell HL1 0 rfl
    have d3 : w1.drew.cell? ⟨g, 3, none⟩ = some (.int .i64 c) := Blk.cell HL1 3 rfl
    have d2 : w1.drew.drew.cell? ⟨g, 2, none⟩ = some (.int .i64 h) := Blk.cell HL1 2 rfl
    have d33 : w1.drew.drew.cell? ⟨g, 3, none⟩ = some (.int .i64 c) := Blk.cell HL1 3 rfl
    have hcb : ∃ a c, w1.drew.cell? ⟨b, 2, none⟩ = some (.slice a D.now.length c) := by
      obtain ⟨k, n, kc, nc, wv, rfl, hB, hat⟩ := HD.out.chg HC1.out (by simp)
      exact ⟨_, _, hat.blk.cell 2 rfl⟩
    obtain ⟨ra, rc, hcb⟩ := hcb
    have HH := Lib.hid (half_any b D.now.length rc w1.drew ra hcb mlen)
    rw [hN_eq _ mpos] at HH
    have HC2 := Lib.hid (HC1.out.trans (Chg.drew [] _) (by simp))
    have HE1 := Lib.hid (HE.out.chg HC2.out (by simp))
    have HD1 := Lib.hid (HD.out.chg HC2.out (by simp))
    have HLL := Lib.hid (HL1.chg (Chg.drew [] _) (by simp))
    have hg := HE1.out.glob (9, 2) (by simp [errTab])
    have hq1 : IntKind.i64.wrap ((c : Int) + (s.size : Int)) = (c : Int) + (s.size : Int) := by simp only [IntKind.wrap_i64]; omega
    have hq2 : IntKind.i64.wrap ((hN D.now.length : Int) * 64) = (hN D.now.length : Int) * 64 := by simp only [IntKind.wrap_i64]; omega
    clear hb1 HL1 hcb HP
    by_cases hbig : hN D.now.length * 64 < c + s.size
    · have hbi : (hN D.now.length : Int) * 64 < (c : Int) + s.size := by omega
      have hact : actF D (a, h, c) false false s = (D, (a, h, c), false, 9) := by
        unfold actF
        rw [if_neg (by simp), if_pos (by simpa using hbig)]
      have Hact := Lib.hid hact
      clear hact hbig
      go_wp2_with (fail)
      refine wp_region_held_drew (S := fun W : World => W.cell? ⟨g, 0, none⟩ = some (.pointer (some ⟨b, 0, none⟩)) ∧ W.cell? ⟨g, 3, none⟩ = some (.int .i64 c)) (by kernel_rfl) ⟨d0, d3⟩ (fun hS => ?_)
      refine wpAnyH_take (i := 0) (v := ?_) rfl (by kernel_rfl) (by kernel_rfl) (by kernel_rfl) (fun _ _ _ h => h) (Or.inl ⟨by rfl, ?_⟩) hS ?_
      rotate_left
      · intro W hSw; obtain ⟨i0, i1⟩ := hSw
        go_simp
        try with_reducible rfl
      refine wpAnyH_take (i := 1) (v := ?_) rfl (by kernel_rfl) (by kernel_rfl) (by kernel_rfl) (fun _ _ _ h => h) (Or.inl ⟨by rfl, ?_⟩) hS ?_
      rotate_left
      · intro W hSw; obtain ⟨i0, i1⟩ := hSw
        go_simp
        try with_reducible rfl
      refine wpAnyH_take (i := 2) (v := ?_) rfl (by kernel_rfl) (by kernel_rfl) (by kernel_rfl) (fun _ _ _ h => h) (Or.inl ⟨by rfl, ?_⟩) hS ?_
      rotate_left
      · intro W hSw; obtain ⟨i0, i1⟩ := hSw
        go_simp
        try with_reducible rfl
      refine wpAnyH_take (i := 3) (v := ?_) rfl (by kernel_rfl) (by kernel_rfl) (by kernel_rfl) (fun _ _ _ h => h) (Or.inl ⟨by rfl, ?_⟩) hS ?_
      rotate_left
      · intro W hSw; obtain ⟨i0, i1⟩ := hSw
        go_simp
        try with_reducible rfl
      refine wpAnyH_take (i := 4) (v := ?_) rfl (by kernel_rfl) (by kernel_rfl) (by kernel_rfl) (fun _ _ _ h => h) (Or.inl ⟨by rfl, ?_⟩) hS ?_
      rotate_left
      · intro W hSw; obtain ⟨i0, i1⟩ := hSw
        go_simp
        try with_reducible rfl
      refine wpAnyH_take (i := 5) (v := ?_) rfl (by kernel_rfl) (by kernel_rfl) (by kernel_rfl) (fun _ _ _ h => h) (Or.inl ⟨by rfl, ?_⟩) hS ?_
      rotate_left
      · intro W hSw; obtain ⟨i0, i1⟩ := hSw
        go_simp
        try with_reducible rfl
      refine wpAnyH_take (i := 6) (v := ?_) rfl (by kernel_rfl) (by kernel_rfl) (by kernel_rfl) (fun _ _ _ h => h) (Or.inl ⟨by rfl, ?_⟩) hS ?_
      rotate_left
      · intro W hSw; obtain ⟨i0, i1⟩ := hSw
        go_simp
        try with_reducible rfl
      refine wpAnyH_take (i := 7) (v := ?_) rfl (by kernel_rfl) (by kernel_rfl) (by kernel_rfl) (fun _ _ _ h => h) (Or.inl ⟨by rfl, ?_⟩) hS ?_
      rotate_left
      · intro W hSw; obtain ⟨i0, i1⟩ := hSw
        go_simp
        try with_reducible rfl
      refine wpAnyH_take (i := 8) (v := ?_) rfl (by kernel_rfl) (by kernel_rfl) (by kernel_rfl) (fun _ _ _ h => h) (Or.inl ⟨by rfl, ?_⟩) hS ?_
      rotate_left
      · intro W hSw; obtain ⟨i0, i1⟩ := hSw
        go_simp
        try with_reducible rfl
      refine wpAnyH_take (i := 9) (v := ?_) rfl (by kernel_rfl) (by kernel_rfl) (by kernel_rfl) (fun _ _ _ h => h) (Or.inl ⟨by rfl, ?_⟩) hS ?_
      rotate_left
      · intro W hSw; obtain ⟨i0, i1⟩ := hSw
        go_simp
        try with_reducible rfl
      refine wpAnyH_take (i := 10) (v := ?_) rfl (by kernel_rfl) (by kernel_rfl) (by kernel_rfl) (fun _ _ _ h => h) (Or.inl ⟨by rfl, ?_⟩) hS ?_
      rotate_left
      · intro W hSw; obtain ⟨i0, i1⟩ := hSw
        go_simp
        try with_reducible rfl
      refine wpAnyH_ready (rs := [11]) (by kernel_rfl) (by simp) ?_
      refine AllReadyH.cons (o := _) rfl (fun K hK => ?_) AllReadyH.nil
      go_simp
      refine HH.out.mono ?_
      rintro e w2 ⟨rfl, rfl⟩
      refine hK.out _ _ hS (fun _ => ?_)
      clear hK K
      refine wpAnyH_take (i := 12) (v := ?_) rfl (by kernel_rfl) (by kernel_rfl) (by kernel_rfl) (fun _ _ _ h => h) (Or.inl ⟨by rfl, ?_⟩) hS ?_
      rotate_left
      · intro W hSw; obtain ⟨i0, i1⟩ := hSw
        go_simp
        try with_reducible rfl
      refine wpAnyH_take (i := 13) (v := ?_) rfl (by kernel_rfl) (by kernel_rfl) (by kernel_rfl) (fun _ _ _ h => h) (Or.inl ⟨by rfl, ?_⟩) hS ?_
      rotate_left
      · intro W hSw; obtain ⟨i0, i1⟩ := hSw
        go_simp
        try with_reducible rfl
      refine wpAnyH_take (i := 14) (v := ?_) rfl (by kernel_rfl) (by kernel_rfl) (by kernel_rfl) (fun _ _ _ h => h) (Or.inl ⟨by rfl, ?_⟩) hS ?_
      rotate_left
      · intro W hSw; obtain ⟨i0, i1⟩ := hSw
        go_simp
        try with_reducible rfl
      refine wpAnyH_done (by kernel_rfl) ?_ _
      clear hS
      go_wp2
      go_ret
      rw [Hact.out]
      exact ⟨rfl, LW.pre HC2.out (LW.refl HD1.out HLL.out)⟩
    · have hbi : (c : Int) + (s.size : Int) ≤ (hN D.now.length : Int) * 64 := by omega
      by_cases hs0 : s.size = 0
      · have hact : actF D (a, h, c) false false s = (D, (a, h, c), false, 0) := by
          unfold actF
          rw [if_neg (by simp), if_neg (by simpa using hbig), if_pos ⟨rfl, hs0⟩]
        have Hact := Lib.hid hact
        have hse : s.toList.isEmpty = true := by
          have : s.data.toList = [] := List.eq_nil_of_length_eq_zero (by rw [list_len]; exact hs0)
          rw [ByteArray.toList_eq, this]; rfl
        clear hact hbig hs0
        go_wp2_with (fail)
        refine wp_region_held_drew (S := fun W : World => W.cell? ⟨g, 0, none⟩ = some (.pointer (some ⟨b, 0, none⟩)) ∧ W.cell? ⟨g, 3, none⟩ = some (.int .i64 c)) (by kernel_rfl) ⟨d0, d3⟩ (fun hS => ?_)
        refine wpAnyH_take (i := 0) (v := ?_) rfl (by kernel_rfl) (by kernel_rfl) (by kernel_rfl) (fun _ _ _ h => h) (Or.inl ⟨by rfl, ?_⟩) hS ?_
        rotate_left
        · intro W hSw; obtain ⟨i0, i1⟩ := hSw
          go_simp
          try with_reducible rfl
        refine wpAnyH_take (i := 1) (v := ?_) rfl (by kernel_rfl) (by kernel_rfl) (by kernel_rfl) (fun _ _ _ h => h) (Or.inl ⟨by rfl, ?_⟩) hS ?_
        rotate_left
        · intro W hSw; obtain ⟨i0, i1⟩ := hSw
          go_simp
          try with_reducible rfl
        refine wpAnyH_take (i := 2) (v := ?_) rfl (by kernel_rfl) (by kernel_rfl) (by kernel_rfl) (fun _ _ _ h => h) (Or.inl ⟨by rfl, ?_⟩) hS ?_
        rotate_left
        · intro W hSw; obtain ⟨i0, i1⟩ := hSw
          go_simp
          try with_reducible rfl
        refine wpAnyH_take (i := 3) (v := ?_) rfl (by kernel_rfl) (by kernel_rfl) (by kernel_rfl) (fun _ _ _ h => h) (Or.inl ⟨by rfl, ?_⟩) hS ?_
        rotate_left
        · intro W hSw; obtain ⟨i0, i1⟩ := hSw
          go_simp
          try with_reducible rfl
        refine wpAnyH_take (i := 4) (v := ?_) rfl (by kernel_rfl) (by kernel_rfl) (by kernel_rfl) (fun _ _ _ h => h) (Or.inl ⟨by rfl, ?_⟩) hS ?_
        rotate_left
        · intro W hSw; obtain ⟨i0, i1⟩ := hSw
          go_simp
          try with_reducible rfl
        refine wpAnyH_take (i := 5) (v := ?_) rfl (by kernel_rfl) (by kernel_rfl) (by kernel_rfl) (fun _ _ _ h => h) (Or.inl ⟨by rfl, ?_⟩) hS ?_
        rotate_left
        · intro W hSw; obtain ⟨i0, i1⟩ := hSw
          go_simp
          try with_reducible rfl
        refine wpAnyH_take (i := 6) (v := ?_) rfl (by kernel_rfl) (by kernel_rfl) (by kernel_rfl) (fun _ _ _ h => h) (Or.inl ⟨by rfl, ?_⟩) hS ?_
        rotate_left
        · intro W hSw; obtain ⟨i0, i1⟩ := hSw
          go_simp
          try with_reducible rfl
        refine wpAnyH_take (i := 7) (v := ?_) rfl (by kernel_rfl) (by kernel_rfl) (by kernel_rfl) (fun _ _ _ h => h) (Or.inl ⟨by rfl, ?_⟩) hS ?_
        rotate_left
        · intro W hSw; obtain ⟨i0, i1⟩ := hSw
          go_simp
          try with_reducible rfl
        refine wpAnyH_take (i := 8) (v := ?_) rfl (by kernel_rfl) (by kernel_rfl) (by kernel_rfl) (fun _ _ _ h => h) (Or.inl ⟨by rfl, ?_⟩) hS ?_
        rotate_left
        · intro W hSw; obtain ⟨i0, i1⟩ := hSw
          go_simp
          try with_reducible rfl
        refine wpAnyH_take (i := 9) (v := ?_) rfl (by kernel_rfl) (by kernel_rfl) (by kernel_rfl) (fun _ _ _ h => h) (Or.inl ⟨by rfl, ?_⟩) hS ?_
        rotate_left
        · intro W hSw; obtain ⟨i0, i1⟩ := hSw
          go_simp
          try with_reducible rfl
        refine wpAnyH_take (i := 10) (v := ?_) rfl (by kernel_rfl) (by kernel_rfl) (by kernel_rfl) (fun _ _ _ h => h) (Or.inl ⟨by rfl, ?_⟩) hS ?_
        rotate_left
        · intro W hSw; obtain ⟨i0, i1⟩ := hSw
          go_simp
          try with_reducible rfl
        refine wpAnyH_ready (rs := [11]) (by kernel_rfl) (by simp) ?_
        refine AllReadyH.cons (o := _) rfl (fun K hK => ?_) AllReadyH.nil
        go_simp
        refine HH.out.mono ?_
        rintro e w2 ⟨rfl, rfl⟩
        refine hK.out _ _ hS (fun _ => ?_)
        clear hK K
        refine wpAnyH_take (i := 12) (v := ?_) rfl (by kernel_rfl) (by kernel_rfl) (by kernel_rfl) (fun _ _ _ h => h) (Or.inl ⟨by rfl, ?_⟩) hS ?_
        rotate_left
        · intro W hSw; obtain ⟨i0, i1⟩ := hSw
          go_simp
          try with_reducible rfl
        refine wpAnyH_take (i := 13) (v := ?_) rfl (by kernel_rfl) (by kernel_rfl) (by kernel_rfl) (fun _ _ _ h => h) (Or.inl ⟨by rfl, ?_⟩) hS ?_
        rotate_left
        · intro W hSw; obtain ⟨i0, i1⟩ := hSw
          go_simp
          try with_reducible rfl
        refine wpAnyH_take (i := 14) (v := ?_) rfl (by kernel_rfl) (by kernel_rfl) (by kernel_rfl) (fun _ _ _ h => h) (Or.inl ⟨by rfl, ?_⟩) hS ?_
        rotate_left
        · intro W hSw; obtain ⟨i0, i1⟩ := hSw
          go_simp
          try with_reducible rfl
        refine wpAnyH_done (by kernel_rfl) ?_ _
        clear hS
        go_wp2
        go_ret
        rw [Hact.out]
        exact ⟨rfl, LW.pre HC2.out (LW.refl HD1.out HLL.out)⟩
      · have hact : actF D (a, h, c) false false s = ((lwriteF D a h c s).1, (putF D a h c s (a, h, c)).1, (putF D a h c s (a, h, c)).2, (lwriteF D a h c s).2) := by
          unfold actF
          rw [if_neg (by simp), if_neg (by simpa using hbig), if_neg (by simpa using hs0)]
          rfl
        have Hact := Lib.hid hact
        have hse : s.toList.isEmpty = false := by
          cases hx : s.toList with
          | nil => rw [ByteArray.toList_eq] at hx; have := list_len s; rw [hx] at this; exact absurd this.symm hs0
          | cons x l => rfl
        clear hact hbig
        go_wp2_with (fail)
        refine wp_region_held_drew (S := fun W : World => W.cell? ⟨g, 0, none⟩ = some (.pointer (some ⟨b, 0, none⟩)) ∧ W.cell? ⟨g, 3, none⟩ = some (.int .i64 c)) (by kernel_rfl) ⟨d0, d3⟩ (fun hS => ?_)
        refine wpAnyH_take (i := 0) (v := ?_) rfl (by kernel_rfl) (by kernel_rfl) (by kernel_rfl) (fun _ _ _ h => h) (Or.inl ⟨by rfl, ?_⟩) hS ?_
        rotate_left
        · intro W hSw; obtain ⟨i0, i1⟩ := hSw
          go_simp
          try with_reducible rfl
        refine wpAnyH_take (i := 1) (v := ?_) rfl (by kernel_rfl) (by kernel_rfl) (by kernel_rfl) (fun _ _ _ h => h) (Or.inl ⟨by rfl, ?_⟩) hS ?_
        rotate_left
        · intro W hSw; obtain ⟨i0, i1⟩ := hSw
          go_simp
          try with_reducible rfl
        refine wpAnyH_take (i := 2) (v := ?_) rfl (by kernel_rfl) (by kernel_rfl) (by kernel_rfl) (fun _ _ _ h => h) (Or.inl ⟨by rfl, ?_⟩) hS ?_
        rotate_left
        · intro W hSw; obtain ⟨i0, i1⟩ := hSw
          go_simp
          try with_reducible rfl
        refine wpAnyH_take (i := 3) (v := ?_) rfl (by kernel_rfl) (by kernel_rfl) (by kernel_rfl) (fun _ _ _ h => h) (Or.inl ⟨by rfl, ?_⟩) hS ?_
        rotate_left
        · intro W hSw; obtain ⟨i0, i1⟩ := hSw
          go_simp
          try with_reducible rfl
        refine wpAnyH_take (i := 4) (v := ?_) rfl (by kernel_rfl) (by kernel_rfl) (by kernel_rfl) (fun _ _ _ h => h) (Or.inl ⟨by rfl, ?_⟩) hS ?_
        rotate_left
        · intro W hSw; obtain ⟨i0, i1⟩ := hSw
          go_simp
          try with_reducible rfl
        refine wpAnyH_take (i := 5) (v := ?_) rfl (by kernel_rfl) (by kernel_rfl) (by kernel_rfl) (fun _ _ _ h => h) (Or.inl ⟨by rfl, ?_⟩) hS ?_
        rotate_left
        · intro W hSw; obtain ⟨i0, i1⟩ := hSw
          go_simp
          try with_reducible rfl
        refine wpAnyH_take (i := 6) (v := ?_) rfl (by kernel_rfl) (by kernel_rfl) (by kernel_rfl) (fun _ _ _ h => h) (Or.inl ⟨by rfl, ?_⟩) hS ?_
        rotate_left
        · intro W hSw; obtain ⟨i0, i1⟩ := hSw
          go_simp
          try with_reducible rfl
        refine wpAnyH_take (i := 7) (v := ?_) rfl (by kernel_rfl) (by kernel_rfl) (by kernel_rfl) (fun _ _ _ h => h) (Or.inl ⟨by rfl, ?_⟩) hS ?_
        rotate_left
        · intro W hSw; obtain ⟨i0, i1⟩ := hSw
          go_simp
          try with_reducible rfl
        refine wpAnyH_take (i := 8) (v := ?_) rfl (by kernel_rfl) (by kernel_rfl) (by kernel_rfl) (fun _ _ _ h => h) (Or.inl ⟨by rfl, ?_⟩) hS ?_
        rotate_left
        · intro W hSw; obtain ⟨i0, i1⟩ := hSw
          go_simp
          try with_reducible rfl
        refine wpAnyH_take (i := 9) (v := ?_) rfl (by kernel_rfl) (by kernel_rfl) (by kernel_rfl) (fun _ _ _ h => h) (Or.inl ⟨by rfl, ?_⟩) hS ?_
        rotate_left
        · intro W hSw; obtain ⟨i0, i1⟩ := hSw
          go_simp
          try with_reducible rfl
        refine wpAnyH_take (i := 10) (v := ?_) rfl (by kernel_rfl) (by kernel_rfl) (by kernel_rfl) (fun _ _ _ h => h) (Or.inl ⟨by rfl, ?_⟩) hS ?_
        rotate_left
        · intro W hSw; obtain ⟨i0, i1⟩ := hSw
          go_simp
          try with_reducible rfl
        refine wpAnyH_ready (rs := [11]) (by kernel_rfl) (by simp) ?_
        refine AllReadyH.cons (o := _) rfl (fun K hK => ?_) AllReadyH.nil
        go_simp
        refine HH.out.mono ?_
        rintro e w2 ⟨rfl, rfl⟩
        refine hK.out _ _ hS (fun _ => ?_)
        clear hK K
        refine wpAnyH_take (i := 12) (v := ?_) rfl (by kernel_rfl) (by kernel_rfl) (by kernel_rfl) (fun _ _ _ h => h) (Or.inl ⟨by rfl, ?_⟩) hS ?_
        rotate_left
        · intro W hSw; obtain ⟨i0, i1⟩ := hSw
          go_simp
          try with_reducible rfl
        refine wpAnyH_take (i := 13) (v := ?_) rfl (by kernel_rfl) (by kernel_rfl) (by kernel_rfl) (fun _ _ _ h => h) (Or.inl ⟨by rfl, ?_⟩) hS ?_
        rotate_left
        · intro W hSw; obtain ⟨i0, i1⟩ := hSw
          go_simp
          try with_reducible rfl
        refine wpAnyH_take (i := 14) (v := ?_) rfl (by kernel_rfl) (by kernel_rfl) (by kernel_rfl) (fun _ _ _ h => h) (Or.inl ⟨by rfl, ?_⟩) hS ?_
        rotate_left
        · intro W hSw; obtain ⟨i0, i1⟩ := hSw
          go_simp
          try with_reducible rfl
        refine wpAnyH_done (by kernel_rfl) ?_ _
        clear hS
        have HPut := Lib.hid (lput_any B b g E F D a h c h c s w1.drew.drew (HE1.out.chg (Chg.drew [] _) (by simp)) (HD1.out.chg (Chg.drew [] _) (by simp)) Hok.out hw (HLL.out.chg (Chg.drew [] _) (by simp)) HG.out ha hh hcc hs1 hs2)
        have HC3 := Lib.hid (HC2.out.trans (Chg.drew [] _) (by simp))
        clear hs0 hq1 hq2 d0 d3 HH
        go_wp2_with (fail)
        refine wp_region_still_tail 10 (by kernel_rfl) (by kernel_rfl) ?_
        simp only [List.take_succ_cons, List.take_zero, List.drop_succ_cons, List.drop_zero]
        rw [show ({ w1.drew with drawn := w1.drew.drawn + 1 } : World) = w1.drew.drew from rfl]
        generalize w1.drew.drew = W at d2 d33 HPut HC3 ⊢
        repeat still_step
        refine wpStill_nil ?_
        go_wp2_with (fail)
        refine HPut.out.mono ?_
        rintro e w3 ⟨rfl, hlw⟩
        have HLW := Lib.hid hlw
        clear hlw
        go_wp2
        go_ret
        rw [Hact.out]
        exact ⟨rfl, LW.pre HC3.out HLW.out⟩
end Go.Proofs.YtdcafgpnomcbhaaGreatDoor
