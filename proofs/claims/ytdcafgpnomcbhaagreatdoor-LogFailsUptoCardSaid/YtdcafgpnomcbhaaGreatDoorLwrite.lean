/- (*Log).write. -/
import Derived.Test.YtdcafgpnomcbhaaGreatDoorLwrite0
import Derived.Deep.RegionHeld3
namespace Go.Proofs.YtdcafgpnomcbhaaGreatDoor
open Go.RowKit
set_option linter.unusedVariables false

theorem wrF_stop {D : DSt} {f : Nat} {s : ByteArray} {k : Nat} (h : (wrF D f s k).2 ≠ 0) : ∀ j, wrF D f s (k + j) = wrF D f s k
  | 0 => rfl
  | j + 1 => by
    have ih := wrF_stop h j
    rw [← Nat.add_assoc, wrF, ih, if_neg h]
theorem errv_zero (E : Nat → Addr) : errv E 0 = .nilIface := rfl
theorem errv_some (E : Nat → Addr) {c : Nat} (h : c ≠ 0) : errv E c = .iface 171 (.pointer (some (E c))) := if_neg h

set_option maxHeartbeats 4000000 in
set_option maxRecDepth 100000 in
theorem lwrite_any (B b g : Nat) (E : Nat → Addr) (F : List Nat) (D : DSt) (a h c : Nat) (k size : Nat) (s : ByteArray) (w : World) (hE : Env B E w) (hd : Disk B w b D F) (ok : D.Ok) (hw : D.wait.length ≤ 100000)
    (hl : LogBlk w g b (a, h, c) false) (hg : g ∉ F) (ha : a ≤ 1000000) (hk : k < 2) (hsz : size ≤ 1000000) (hs : s.size ≤ 1000000) (hsm : s.size % 64 = 0) :
    Calls Tryz.prog 50 #[.pointer (some ⟨g, 0, none⟩), .int .i64 k, .int .i64 size, .string s] w fun e w' => DPost B b F w (lwriteF D a k size s).1 (errv E (lwriteF D a k size s).2) e w' := by
  obtain ⟨nn, hnn⟩ : ∃ nn, s.size / 64 = nn := ⟨_, rfl⟩
  have hsn : s.size = 64 * nn := by omega
  have c2 : ∃ a c, w.cell? ⟨b, 2, none⟩ = some (.slice a D.now.length c) := by
    obtain ⟨k, n, kc, nc, wv, rfl, hB, hat⟩ := hd
    exact ⟨_, _, hat.blk.cell 2 rfl⟩
  obtain ⟨ra, rc, c2⟩ := c2
  have mlen := ok.len
  have mpos := ok.pos
  have HH := Lib.hid (half_any b D.now.length rc w ra c2 mlen)
  rw [hN_eq _ mpos] at HH
  have hH : hN D.now.length ≤ 2000 := by unfold hN; omega
  have k0 := Blk.cell hl 0 rfl
  have HE := Lib.hid hE
  have HD := Lib.hid hd
  have HL := Lib.hid hl
  have Hok := Lib.hid ok
  have HG := Lib.hid hg
  have hkh : k * hN D.now.length ≤ 2000 := by
    rcases (by omega : k = 0 ∨ k = 1) with rfl | rfl <;> omega
  have hf : ∃ f : Nat, 2 + k * hN D.now.length + size / 64 = f ∧ f ≤ 2000000 := ⟨_, rfl, by omega⟩
  obtain ⟨f, hf, hfl⟩ := hf
  have hfi : Hid ((2 : Int) + (k : Int) * (hN D.now.length : Int) + (size : Int) / 64 = (f : Int)) := by
    have h0 := congrArg (fun n : Nat => (n : Int)) hf
    push_cast at h0
    exact h0
  have hbh1 : (k : Int) * (hN D.now.length : Int) ≤ 2000 := by exact_mod_cast hkh
  have hbh0 : 0 ≤ (k : Int) * (hN D.now.length : Int) := by exact_mod_cast Nat.zero_le (k * hN D.now.length)
  have hout : Hid (lwriteF D a k size s = if (wrF D f s nn).2 = 0 then (if (wrF D f s nn).1.flush.2 = 0 then (if ((wrF D f s nn).1.flush.1.write (((a + 1) % 2 : Nat) : Int) (bs (headL (a + 1) k (size + s.size)))).2 = 0 then ((wrF D f s nn).1.flush.1.write (((a + 1) % 2 : Nat) : Int) (bs (headL (a + 1) k (size + s.size)))).1.flush else ((wrF D f s nn).1.flush.1.write (((a + 1) % 2 : Nat) : Int) (bs (headL (a + 1) k (size + s.size))))) else (wrF D f s nn).1.flush) else wrF D f s nn) := by
    unfold lwriteF Hid
    rw [hf, hnn]
  clear hE hd hl hg ok hf
  go_enter Tryz.func50, Tryz.ntmps50
  go_wp2_with (fail)
  refine HH.out.mono ?_
  rintro e w' ⟨rfl, rfl⟩
  go_wp2
  rw [hfi.out]
  go_loopw [10] (fun i wr => ∃ q : Nat, q ≤ nn ∧ i = .int .i64 ((64 * q : Nat) : Int) ∧ (wrF D f s q).2 = 0 ∧ DW B b F w (wrF D f s q).1 wr) (fun i _ => nn - (intOf i).toNat / 64)
  case atStart => exact ⟨0, Nat.zero_le _, rfl, rfl, DW.refl HD.out⟩
  case round =>
    obtain ⟨q, hqn, rfl, hr0, hdw⟩ := hrel
    have hl' := Blk.cell (DW.blk hdw HL.out HG.out) 0 rfl
    have HE1 := Lib.hid (DW.env hdw HD.out HE.out)
    have hwo := Lib.hid (wrF_ok Hok.out f s q (by omega))
    have Hr0 := Lib.hid hr0
    have HDW := Lib.hid hdw
    clear hr0 hdw
    by_cases hlt : q < nn
    · have hltI : ((64 * q : Nat) : Int) < (s.size : Int) := by omega
      have hq64 : ((64 * q : Nat) : Int).tdiv 64 = (q : Int) := by rw [Int.tdiv_eq_ediv_of_nonneg (by omega)]; omega
      have hstep : wrF D f s (q + 1) = (wrF D f s q).1.write ((f + q : Nat) : Int) (s.extract (64 * q) (64 * q + 64)) := by rw [wrF, if_pos Hr0.out]
      have Hst := Lib.hid hstep
      clear hstep
      obtain ⟨F1, hd1, hc1, hf1⟩ := HDW.out
      have HD2 := Lib.hid (hd1.chg (Chg.drew [] _) (by simp))
      have HE2 := Lib.hid (HE1.out.chg (Chg.drew [] _) (by simp))
      have HC1 := Lib.hid (And.intro hc1 hf1)
      have kd : wr.drew.cell? ⟨g, 0, none⟩ = some (.pointer (some ⟨b, 0, none⟩)) := hl'
      have hq1 : IntKind.i64.wrap (q : Int) = q := by simp only [IntKind.wrap_i64]; omega
      have hq2 : IntKind.i64.wrap (64 * (q : Int) + 64) = 64 * (q : Int) + 64 := by simp only [IntKind.wrap_i64]; omega
      have hq3 : IntKind.i64.wrap ((f : Int) + (q : Int)) = (f : Int) + (q : Int) := by simp only [IntKind.wrap_i64]; omega
      have hn1 : (64 * (q : Int)).toNat = 64 * q := by omega
      have hn2 : (64 * (q : Int) + 64).toNat = 64 * q + 64 := by omega
      clear hd1 hc1 hf1
      go_wp2_with (fail)
      refine wp_region_held_drew (S := fun W : World => W.cell? ⟨g, 0, none⟩ = some (.pointer (some ⟨b, 0, none⟩))) (by kernel_rfl) kd (fun hS => ?_)
      refine wpAnyH_take (i := 0) (v := ?_) rfl (by kernel_rfl) (by kernel_rfl) (by kernel_rfl) (fun _ _ _ h => h) (Or.inl ⟨by rfl, ?_⟩) hS ?_
      rotate_left
      · intro W hSw
        go_simp
        try with_reducible rfl
      refine wpAnyH_take (i := 1) (v := ?_) rfl (by kernel_rfl) (by kernel_rfl) (by kernel_rfl) (fun _ _ _ h => h) (Or.inl ⟨by rfl, ?_⟩) hS ?_
      rotate_left
      · intro W hSw
        go_simp
        try with_reducible rfl
      refine wpAnyH_take (i := 2) (v := ?_) rfl (by kernel_rfl) (by kernel_rfl) (by kernel_rfl) (fun _ _ _ h => h) (Or.inl ⟨by rfl, ?_⟩) hS ?_
      rotate_left
      · intro W hSw
        go_simp
        try with_reducible rfl
      refine wpAnyH_take (i := 3) (v := ?_) rfl (by kernel_rfl) (by kernel_rfl) (by kernel_rfl) (fun _ _ _ h => h) (Or.inl ⟨by rfl, ?_⟩) hS ?_
      rotate_left
      · intro W hSw
        go_simp
        try with_reducible rfl
      refine wpAnyH_take (i := 4) (v := ?_) rfl (by kernel_rfl) (by kernel_rfl) (by kernel_rfl) (fun _ _ _ h => h) (Or.inl ⟨by rfl, ?_⟩) hS ?_
      rotate_left
      · intro W hSw
        go_simp
        try with_reducible rfl
      refine wpAnyH_take (i := 5) (v := ?_) rfl (by kernel_rfl) (by kernel_rfl) (by kernel_rfl) (fun _ _ _ h => h) (Or.inl ⟨by rfl, ?_⟩) hS ?_
      rotate_left
      · intro W hSw
        go_simp
        try with_reducible rfl
      refine wpAnyH_take (i := 6) (v := ?_) rfl (by kernel_rfl) (by kernel_rfl) (by kernel_rfl) (fun _ _ _ h => h) (Or.inl ⟨by rfl, ?_⟩) hS ?_
      rotate_left
      · intro W hSw
        go_simp
        try with_reducible rfl
      refine wpAnyH_take (i := 7) (v := ?_) rfl (by kernel_rfl) (by kernel_rfl) (by kernel_rfl) (fun _ _ _ h => h) (Or.inl ⟨by rfl, ?_⟩) hS ?_
      rotate_left
      · intro W hSw
        go_simp
        try with_reducible rfl
      refine wpAnyH_take (i := 8) (v := ?_) rfl (by kernel_rfl) (by kernel_rfl) (by kernel_rfl) (fun _ _ _ h => h) (Or.inl ⟨by rfl, ?_⟩) hS ?_
      rotate_left
      · intro W hSw
        go_simp
        try with_reducible rfl
      refine wpAnyH_take (i := 9) (v := ?_) rfl (by kernel_rfl) (by kernel_rfl) (by kernel_rfl) (fun _ _ _ h => h) (Or.inl ⟨by rfl, ?_⟩) hS ?_
      rotate_left
      · intro W hSw
        go_simp
        try with_reducible rfl
      refine wpAnyH_take (i := 10) (v := ?_) rfl (by kernel_rfl) (by kernel_rfl) (by kernel_rfl) (fun _ _ _ h => h) (Or.inl ⟨by rfl, ?_⟩) hS ?_
      rotate_left
      · intro W hSw
        go_simp
        try with_reducible rfl
      refine wpAnyH_take (i := 11) (v := ?_) rfl (by kernel_rfl) (by kernel_rfl) (by kernel_rfl) (fun _ _ _ h => h) (Or.inl ⟨by rfl, ?_⟩) hS ?_
      rotate_left
      · intro W hSw
        go_simp
        try with_reducible rfl
      refine wpAnyH_take (i := 12) (v := ?_) rfl (by kernel_rfl) (by kernel_rfl) (by kernel_rfl) (fun _ _ _ h => h) (Or.inl ⟨by rfl, ?_⟩) hS ?_
      rotate_left
      · intro W hSw
        go_simp
        rw [if_pos ⟨by omega, by omega⟩, if_pos ⟨by omega, by omega⟩]
        try with_reducible rfl
      refine wpAnyH_ready (rs := [13]) (by kernel_rfl) (by simp) ?_
      refine AllReadyH.cons (o := _) rfl (fun K hK => ?_) AllReadyH.nil
      go_simp
      have hpw := dWrite_any B b E F1 (wrF D f s q).1 ((f + q : Nat) : Int) (s.extract (64 * q) (64 * q + 64)) _ HE2.out HD2.out hwo.out.1
      rw [← Hst.out] at hpw
      rw [show (f : Int) + (q : Int) = ((f + q : Nat) : Int) by push_cast; rfl]
      refine hpw.mono ?_
      clear hpw
      rintro e w5 hp
      obtain ⟨rfl, hdw⟩ := hp.dw
      have hdw5 : DW B b F w (wrF D f s (q + 1)).1 w5 := DW.trans (HC1.out.1.trans (Chg.drew F _) (by intro x hx; exact .inl hx)) HC1.out.2 hdw
      have hl5 : w5.cell? ⟨g, 0, none⟩ = some (.pointer (some ⟨b, 0, none⟩)) := Blk.cell (DW.blk hdw5 HL.out HG.out) 0 rfl
      refine hK.out _ _ hl5 (fun _ => ?_)
      have HDW5 := Lib.hid hdw5
      clear hK K hS hdw hp hdw5 HD2 HE2 HDW HE1 kd hl' hq1 hq2 hq3 hn1 hn2
      refine wpAnyH_take (i := 14) (v := ?_) rfl (by kernel_rfl) (by kernel_rfl) (by kernel_rfl) (fun _ _ _ h => h) (Or.inl ⟨by rfl, ?_⟩) hl5 ?_
      rotate_left
      · intro W hSw
        go_simp
        try with_reducible rfl
      refine wpAnyH_done (by kernel_rfl) ?_ _
      clear hl5
      by_cases hc : (wrF D f s (q + 1)).2 = 0
      · have Hc := Lib.hid hc
        rw [hc, errv_zero]
        clear hc
        go_wp2
        go_roundw
        case rel => exact ⟨q + 1, hlt, by go_num, Hc.out, HDW5.out⟩
        case measure => simp [intOf]; omega
      · have hlast : lwriteF D a k size s = wrF D f s (q + 1) := by
          have hs := wrF_stop hc (nn - (q + 1))
          rw [show q + 1 + (nn - (q + 1)) = nn by omega] at hs
          rw [hout.out, hs, if_neg hc]
        have Hl := Lib.hid hlast
        rw [errv_some E hc]
        have Hc := Lib.hid hc
        clear hc hlast hout
        go_wp2
        go_ret
        rw [Hl.out, errv_some E Hc.out]
        exact ⟨rfl, HDW5.out⟩
    · have hqn' : q = nn := by omega
      subst hqn'
      have hltI : (s.size : Int) ≤ ((64 * q : Nat) : Int) := by omega
      obtain ⟨F1, hd1, hc1, hf1⟩ := HDW.out
      have hpf := dFlush_any B b E F1 (wrF D f s q).1 wr HE1.out hd1 hwo.out.1
      have ok1 := Lib.hid (flush_ok hwo.out.1)
      have wa1 := Lib.hid (flush_wait (wrF D f s q).1)
      have HPF := Lib.hid hpf
      have HC1 := Lib.hid (And.intro hc1 hf1)
      have Hr0' := Hr0.out
      have hout' := hout.out
      rw [if_pos Hr0'] at hout'
      have Hout := Lib.hid hout'
      have hwl : (wrF D f s q).1.flush.1.wait.length ≤ 200000 := by have := hwo.out.2.1; have := wa1.out; omega
      generalize (wrF D f s q).1.flush = R1 at HPF ok1 Hout hwl
      obtain ⟨D1, e1⟩ := R1
      clear hpf hd1 hc1 hf1 Hr0' hout' hout HDW wa1 hwo
      go_wp2_with (fail)
      refine HPF.out.mono ?_
      rintro e w5 hp
      obtain ⟨rfl, hdw⟩ := hp.dw
      have hdw5 : DW B b F w D1 w5 := DW.trans HC1.out.1 HC1.out.2 hdw
      have HDW5 := Lib.hid hdw5
      have HL5 := Lib.hid (DW.blk hdw5 HL.out HG.out)
      have HE5 := Lib.hid (DW.env hdw5 HD.out HE.out)
      clear hp hdw hdw5 HPF HC1 HE1 hl'
      by_cases hc : e1 = 0
      · subst hc
        rw [errv_zero]
        have hl0 : w5.drew.cell? ⟨g, 0, none⟩ = some (.pointer (some ⟨b, 0, none⟩)) := Blk.cell HL5.out 0 rfl
        have hl1 : w5.drew.cell? ⟨g, 1, none⟩ = some (.int .i64 a) := Blk.cell HL5.out 1 rfl
        obtain ⟨F2, hd2, hc2, hf2⟩ := HDW5.out
        have HD6 := Lib.hid (hd2.chg (Chg.drew [] _) (by simp))
        have HE6 := Lib.hid (HE5.out.chg (Chg.drew [] _) (by simp))
        have HC2 := Lib.hid (And.intro hc2 hf2)
        clear hd2 hc2 hf2
        have hout2 := Hout.out
        simp only [if_true] at hout2
        have Hout2 := Lib.hid hout2
        clear hout2 Hout
        have Hhd := Lib.hid (fun w hE => head_any B E ((a : Int) + 1) k ((size : Int) + 64 * (q : Int)) w hE (by omega) (by omega) (by omega) (by omega) (by omega) (by omega))
        rw [show ((a : Int) + 1).toNat = a + 1 by omega, Int.toNat_natCast, show ((size : Int) + 64 * (q : Int)).toNat = size + s.size by omega] at Hhd
        generalize hhd : bs (headL (a + 1) k (size + s.size)) = hd at Hhd Hout2
        clear hhd
        have hq1 : IntKind.i64.wrap ((a : Int) + 1) = (a : Int) + 1 := by simp only [IntKind.wrap_i64]; omega
        have hq2 : IntKind.i64.wrap ((size : Int) + 64 * (q : Int)) = (size : Int) + 64 * (q : Int) := by simp only [IntKind.wrap_i64]; omega
        have hm2 : Hid (((a : Int) + 1) % 2 = (((a + 1) % 2 : Nat) : Int)) := Lib.hid (by omega)
        have hm3 : ((a : Int) + 1).tmod 2 = ((a : Int) + 1) % 2 := Int.tmod_eq_emod_of_nonneg (by omega)
        go_wp2_with (fail)
        refine wp_region_held_drew (S := fun W : World => W.cell? ⟨g, 0, none⟩ = some (.pointer (some ⟨b, 0, none⟩)) ∧ W.cell? ⟨g, 1, none⟩ = some (.int .i64 a)) (by kernel_rfl) ⟨hl0, hl1⟩ (fun hS => ?_)
        refine wpAnyH_take (i := 0) (v := ?_) rfl (by kernel_rfl) (by kernel_rfl) (by kernel_rfl) (fun _ _ _ h => h) (Or.inl ⟨by rfl, ?_⟩) hS ?_
        rotate_left
        · intro W hSw; obtain ⟨i0, i1⟩ := hSw
          go_simp
          try with_reducible rfl
        refine wpAnyH_take (i := 1) (v := ?_) rfl (by kernel_rfl) (by kernel_rfl) (by kernel_rfl) (fun _ _ _ h => h) (Or.inl ⟨by rfl, ?_⟩) hS ?_
        rotate_left
        · intro W hSw; obtain ⟨i0, i1⟩ := hSw
          go_simp
          try with_reducible rfl
        refine wpAnyH_take (i := 2) (v := ?_) rfl (by kernel_rfl) (by kernel_rfl) (by kernel_rfl) (fun _ _ _ h => h) (Or.inl ⟨by rfl, ?_⟩) hS ?_
        rotate_left
        · intro W hSw; obtain ⟨i0, i1⟩ := hSw
          go_simp
          try with_reducible rfl
        refine wpAnyH_take (i := 3) (v := ?_) rfl (by kernel_rfl) (by kernel_rfl) (by kernel_rfl) (fun _ _ _ h => h) (Or.inl ⟨by rfl, ?_⟩) hS ?_
        rotate_left
        · intro W hSw; obtain ⟨i0, i1⟩ := hSw
          go_simp
          try with_reducible rfl
        refine wpAnyH_take (i := 4) (v := ?_) rfl (by kernel_rfl) (by kernel_rfl) (by kernel_rfl) (fun _ _ _ h => h) (Or.inl ⟨by rfl, ?_⟩) hS ?_
        rotate_left
        · intro W hSw; obtain ⟨i0, i1⟩ := hSw
          go_simp
          try with_reducible rfl
        refine wpAnyH_take (i := 5) (v := ?_) rfl (by kernel_rfl) (by kernel_rfl) (by kernel_rfl) (fun _ _ _ h => h) (Or.inl ⟨by rfl, ?_⟩) hS ?_
        rotate_left
        · intro W hSw; obtain ⟨i0, i1⟩ := hSw
          go_simp
          try with_reducible rfl
        refine wpAnyH_take (i := 6) (v := ?_) rfl (by kernel_rfl) (by kernel_rfl) (by kernel_rfl) (fun _ _ _ h => h) (Or.inl ⟨by rfl, ?_⟩) hS ?_
        rotate_left
        · intro W hSw; obtain ⟨i0, i1⟩ := hSw
          go_simp
          try with_reducible rfl
        refine wpAnyH_take (i := 7) (v := ?_) rfl (by kernel_rfl) (by kernel_rfl) (by kernel_rfl) (fun _ _ _ h => h) (Or.inl ⟨by rfl, ?_⟩) hS ?_
        rotate_left
        · intro W hSw; obtain ⟨i0, i1⟩ := hSw
          go_simp
          try with_reducible rfl
        refine wpAnyH_take (i := 8) (v := ?_) rfl (by kernel_rfl) (by kernel_rfl) (by kernel_rfl) (fun _ _ _ h => h) (Or.inl ⟨by rfl, ?_⟩) hS ?_
        rotate_left
        · intro W hSw; obtain ⟨i0, i1⟩ := hSw
          go_simp
          try with_reducible rfl
        refine wpAnyH_take (i := 9) (v := ?_) rfl (by kernel_rfl) (by kernel_rfl) (by kernel_rfl) (fun _ _ _ h => h) (Or.inl ⟨by rfl, ?_⟩) hS ?_
        rotate_left
        · intro W hSw; obtain ⟨i0, i1⟩ := hSw
          go_simp
          try with_reducible rfl
        refine wpAnyH_take (i := 10) (v := ?_) rfl (by kernel_rfl) (by kernel_rfl) (by kernel_rfl) (fun _ _ _ h => h) (Or.inl ⟨by rfl, ?_⟩) hS ?_
        rotate_left
        · intro W hSw; obtain ⟨i0, i1⟩ := hSw
          go_simp
          try with_reducible rfl
        refine wpAnyH_take (i := 11) (v := ?_) rfl (by kernel_rfl) (by kernel_rfl) (by kernel_rfl) (fun _ _ _ h => h) (Or.inl ⟨by rfl, ?_⟩) hS ?_
        rotate_left
        · intro W hSw; obtain ⟨i0, i1⟩ := hSw
          go_simp
          try with_reducible rfl
        refine wpAnyH_take (i := 12) (v := ?_) rfl (by kernel_rfl) (by kernel_rfl) (by kernel_rfl) (fun _ _ _ h => h) (Or.inl ⟨by rfl, ?_⟩) hS ?_
        rotate_left
        · intro W hSw; obtain ⟨i0, i1⟩ := hSw
          go_simp
          try with_reducible rfl
        refine wpAnyH_take (i := 13) (v := ?_) rfl (by kernel_rfl) (by kernel_rfl) (by kernel_rfl) (fun _ _ _ h => h) (Or.inl ⟨by rfl, ?_⟩) hS ?_
        rotate_left
        · intro W hSw; obtain ⟨i0, i1⟩ := hSw
          go_simp
          try with_reducible rfl
        refine wpAnyH_take (i := 14) (v := ?_) rfl (by kernel_rfl) (by kernel_rfl) (by kernel_rfl) (fun _ _ _ h => h) (Or.inl ⟨by rfl, ?_⟩) hS ?_
        rotate_left
        · intro W hSw; obtain ⟨i0, i1⟩ := hSw
          go_simp
          try with_reducible rfl
        refine wpAnyH_take (i := 15) (v := ?_) rfl (by kernel_rfl) (by kernel_rfl) (by kernel_rfl) (fun _ _ _ h => h) (Or.inl ⟨by rfl, ?_⟩) hS ?_
        rotate_left
        · intro W hSw; obtain ⟨i0, i1⟩ := hSw
          go_simp
          try with_reducible rfl
        refine wpAnyH_take (i := 16) (v := ?_) rfl (by kernel_rfl) (by kernel_rfl) (by kernel_rfl) (fun _ _ _ h => h) (Or.inl ⟨by rfl, ?_⟩) hS ?_
        rotate_left
        · intro W hSw; obtain ⟨i0, i1⟩ := hSw
          go_simp
          try with_reducible rfl
        refine wpAnyH_take (i := 17) (v := ?_) rfl (by kernel_rfl) (by kernel_rfl) (by kernel_rfl) (fun _ _ _ h => h) (Or.inl ⟨by rfl, ?_⟩) hS ?_
        rotate_left
        · intro W hSw; obtain ⟨i0, i1⟩ := hSw
          go_simp
          try with_reducible rfl
        refine wpAnyH_take (i := 18) (v := ?_) rfl (by kernel_rfl) (by kernel_rfl) (by kernel_rfl) (fun _ _ _ h => h) (Or.inl ⟨by rfl, ?_⟩) hS ?_
        rotate_left
        · intro W hSw; obtain ⟨i0, i1⟩ := hSw
          go_simp
          try with_reducible rfl
        refine wpAnyH_take (i := 19) (v := ?_) rfl (by kernel_rfl) (by kernel_rfl) (by kernel_rfl) (fun _ _ _ h => h) (Or.inl ⟨by rfl, ?_⟩) hS ?_
        rotate_left
        · intro W hSw; obtain ⟨i0, i1⟩ := hSw
          go_simp
          try with_reducible rfl
        refine wpAnyH_ready (rs := [20]) (by kernel_rfl) (by simp) ?_
        refine AllReadyH.cons (o := _) rfl (fun K hK => ?_) AllReadyH.nil
        go_simp
        refine (Hhd.out _ HE6.out).mono ?_
        rintro e w6 ⟨rfl, hb6⟩
        have HE7 := Lib.hid (HE6.out.below hb6)
        have HD7 := Lib.hid (HD6.out.chg (Chg.of_below hb6 []) (by simp))
        have hS7 : w6.cell? ⟨g, 0, none⟩ = some (.pointer (some ⟨b, 0, none⟩)) ∧ w6.cell? ⟨g, 1, none⟩ = some (.int .i64 a) := ⟨(Chg.of_below hb6 []).cell hS.1 (by simp), (Chg.of_below hb6 []).cell hS.2 (by simp)⟩
        have HC7 := Lib.hid ((HC2.out.1.trans (Chg.drew [] _) (by simp)).trans (Chg.of_below hb6 []) (by simp))
        refine hK.out _ _ hS7 (fun _ => ?_)
        clear hK K hS hb6 hl0 hl1 HE6 HD6 Hhd
        refine wpAnyH_ready (rs := [21]) (by kernel_rfl) (by simp) ?_
        refine AllReadyH.cons (o := _) rfl (fun K hK => ?_) AllReadyH.nil
        go_simp
        rw [hm2.out]
        refine (dWrite_any B b E F2 D1 (((a + 1) % 2 : Nat) : Int) hd _ HE7.out HD7.out ok1.out).mono ?_
        rintro e w7 hp
        obtain ⟨rfl, hdw⟩ := hp.dw
        have hdw7 : DW B b F w (D1.write (((a + 1) % 2 : Nat) : Int) hd).1 w7 := DW.trans HC7.out HC2.out.2 hdw
        have ok7 := Lib.hid (write_ok ok1.out (((a + 1) % 2 : Nat) : Int) hd (by omega))
        have HL7 := Lib.hid (DW.blk hdw7 HL.out HG.out)
        have HE8 := Lib.hid (DW.env hdw7 HD.out HE.out)
        have HDW7 := Lib.hid hdw7
        have hS8 : w7.cell? ⟨g, 0, none⟩ = some (.pointer (some ⟨b, 0, none⟩)) ∧ w7.cell? ⟨g, 1, none⟩ = some (.int .i64 a) := ⟨Blk.cell HL7.out 0 rfl, Blk.cell HL7.out 1 rfl⟩
        clear hp hdw hdw7 HC7 HE7 HD7
        generalize (D1.write (((a + 1) % 2 : Nat) : Int) hd) = R2 at HDW7 ok7 Hout2 hK ⊢
        obtain ⟨D2, e2⟩ := R2
        refine hK.out _ _ hS8 (fun _ => ?_)
        clear hK K hS7 hq1 hq2 hm2 hm3
        refine wpAnyH_take (i := 22) (v := ?_) rfl (by kernel_rfl) (by kernel_rfl) (by kernel_rfl) (fun _ _ _ h => h) (Or.inl ⟨by rfl, ?_⟩) hS8 ?_
        rotate_left
        · intro W hSw; obtain ⟨i0, i1⟩ := hSw
          go_simp
          try with_reducible rfl
        refine wpAnyH_done (by kernel_rfl) ?_ _
        have hg0 := hS8.1
        clear hS8
        by_cases hc : e2 = 0
        · subst hc
          have hout3 := Hout2.out
          simp only [if_true] at hout3
          obtain ⟨F3, hd3, hc3, hf3⟩ := HDW7.out
          have HPF := Lib.hid (dFlush_any B b E F3 D2 w7 HE8.out hd3 ok7.out)
          have HC3 := Lib.hid (And.intro hc3 hf3)
          have Hout3 := Lib.hid hout3
          rw [errv_zero]
          clear hd3 hc3 hf3 hout3 Hout2
          go_wp2_with (fail)
          refine HPF.out.mono ?_
          rintro e w8 hp
          obtain ⟨rfl, hdw⟩ := hp.dw
          have HDW8 := Lib.hid (DW.trans HC3.out.1 HC3.out.2 hdw)
          clear hp hdw
          go_wp2
          go_ret
          rw [Hout3.out]
          exact ⟨rfl, HDW8.out⟩
        · have hout3 := Hout2.out
          rw [if_neg hc] at hout3
          have Hout3 := Lib.hid hout3
          rw [errv_some E hc]
          have Hc := Lib.hid hc
          clear hc hout3 Hout2
          go_wp2
          go_ret
          rw [Hout3.out, errv_some E Hc.out]
          exact ⟨rfl, HDW7.out⟩
      · have hout3 := Hout.out
        rw [if_neg hc] at hout3
        have Hout3 := Lib.hid hout3
        rw [errv_some E hc]
        have Hc := Lib.hid hc
        clear hc hout3 Hout
        go_wp2
        go_ret
        rw [Hout3.out, errv_some E Hc.out]
        exact ⟨rfl, HDW5.out⟩
end Go.Proofs.YtdcafgpnomcbhaaGreatDoor
