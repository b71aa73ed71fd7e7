/- log.Format on a disk with power. -/
import Derived.Test.YtdcafgpnomcbhaaGreatDoorLadd
namespace Go.Proofs.YtdcafgpnomcbhaaGreatDoor
open Go.RowKit
set_option linter.unusedVariables false

theorem write_fine {D : DSt} (h : D.left = -1) (i : Nat) (s : ByteArray) (hi : i < D.now.length) (hs : s.size ≤ 64) :
    D.write (i : Int) s = ({ D with now := D.now.set i (padS s), wait := D.wait ++ [(i, padS s)] }, 0) := by
  unfold DSt.write
  rw [if_neg (by omega), if_neg (by omega), if_neg (by rw [h]; decide), h, Int.toNat_natCast]
  rfl
theorem flush_fine {D : DSt} (h : D.left = -1) : D.flush = ({ D with kept := D.now, wait := [] }, 0) := by
  unfold DSt.flush
  rw [if_neg (by rw [h]; decide), h]
  rfl
def emptyS : ByteArray := ⟨#[]⟩
/-- the disk ahead of the first head -/
def fmt0 (D : DSt) : DSt := { left := -1, kept := (D.now.set 0 (padS emptyS)).set 1 (padS emptyS), now := (D.now.set 0 (padS emptyS)).set 1 (padS emptyS), wait := [] }
theorem fmt0_eq {D : DSt} (h : D.left = -1) (hl : 8 ≤ D.now.length) : ((D.write 0 emptyS).1.write 1 emptyS).1.flush = (fmt0 D, 0) ∧ (D.write 0 emptyS).2 = 0 ∧ ((D.write 0 emptyS).1.write 1 emptyS).2 = 0 := by
  have h1 := write_fine h 0 emptyS (by omega) (by decide)
  have h2 := write_fine (D := (D.write 0 emptyS).1) (by rw [show (0 : Int) = ((0 : Nat) : Int) from rfl, h1]; exact h) 1 emptyS (by rw [write_len]; omega) (by decide)
  have e0 : ((0 : Nat) : Int) = 0 := rfl
  have e1 : ((1 : Nat) : Int) = 1 := rfl
  rw [e0] at h1
  rw [e1, h1] at h2
  rw [h1]
  refine ⟨?_, rfl, ?_⟩
  · rw [h2]
    unfold DSt.flush
    simp [h, fmt0, spendL]
  · rw [h2]
theorem fmt0_len (D : DSt) : (fmt0 D).now.length = D.now.length := by simp [fmt0]
def FmtPost (B b : Nat) (E : Nat → Addr) (F : List Nat) (D : DSt) (w : World) (e : Ending) (w' : World) : Prop :=
  if D.now.length < 8 then e = .returned (.tuple #[.pointer none, errv E 9]) ∧ DW B b F w D w' else
    ∃ g, e = .returned (.tuple #[.pointer (some ⟨g, 0, none⟩), .nilIface]) ∧ w.heap.size ≤ g ∧ LogBlk w' g b (1, 0, 0) false ∧ ∃ F', Disk B w' b (lwriteF (fmt0 D) 0 0 0 emptyS).1 F' ∧ Chg F w w' ∧ (∀ x ∈ F', x ∈ F ∨ w.heap.size ≤ x) ∧ g ∉ F'

set_option maxHeartbeats 1000000 in
set_option maxRecDepth 100000 in
theorem lFormat_any (B b : Nat) (E : Nat → Addr) (F : List Nat) (D : DSt) (w : World) (hE : Env B E w) (hd : Disk B w b D F) (ok : D.Ok) (hw : D.wait.length ≤ 1000) (hl : D.left = -1) (hr : 8 ≤ D.now.length → (lwriteF (fmt0 D) 0 0 0 emptyS).2 = 0) :
    Calls Tryz.prog 11 #[.pointer (some ⟨b, 0, none⟩)] w fun e w' => FmtPost B b E F D w e w' := by
  have hcb : ∃ a c, w.cell? ⟨b, 2, none⟩ = some (.slice a D.now.length c) := by
    obtain ⟨k, n, kc, nc, wv, rfl, hB, hat⟩ := hd
    exact ⟨_, _, hat.blk.cell 2 rfl⟩
  obtain ⟨ra, rc, hcb⟩ := hcb
  have mlen := ok.len
  have hsec := Lib.hid (dSectors_any b w _ _ _ hcb)
  have HE := Lib.hid hE
  have HD := Lib.hid hd
  have Hok := Lib.hid ok
  unfold FmtPost
  by_cases h8 : D.now.length < 8
  · have h8i : (D.now.length : Int) < 8 := by omega
    have hg := hE.glob (9, 2) (by simp [errTab])
    clear hE hd ok
    simp only [if_pos h8]
    go_enter Tryz.func11, Tryz.ntmps11
    go_wp2_with (fail)
    refine hsec.out.mono ?_
    rintro e w1 ⟨rfl, rfl⟩
    go_wp2
    go_region
    all_goals go_wp2
    all_goals go_ret2
    all_goals exact ⟨rfl, DW.chg (DW.refl HD.out) (Chg.drew [] _)⟩
  · have h8i : (8 : Int) ≤ D.now.length := by omega
    have hr := hr (by omega)
    obtain ⟨hf, h1, h2⟩ := fmt0_eq hl (by omega)
    have W1 := Lib.hid (dWrite_any B b E F D 0 emptyS w hE hd ok)
    have ok1 := Lib.hid (write_ok ok 0 emptyS (by omega))
    have ww1 := Lib.hid (write_wait D 0 emptyS)
    rw [h1, errv_zero] at W1
    generalize (D.write 0 emptyS).1 = D1 at W1 ok1 ww1 h2 hf
    have ok2 := Lib.hid (write_ok ok1.out 1 emptyS (by have := ww1.out; omega))
    have W2 := Lib.hid (fun F w hE hd => dWrite_any B b E F D1 1 emptyS w hE hd ok1.out)
    rw [h2, errv_zero] at W2
    generalize (D1.write 1 emptyS).1 = D2 at W2 ok2 hf
    have W3 := Lib.hid (fun F w hE hd => dFlush_any B b E F D2 w hE hd ok2.out)
    have ok3 := Lib.hid (flush_ok ok2.out)
    rw [hf, errv_zero] at W3
    rw [hf] at ok3
    have Hr := Lib.hid hr
    clear hE hd ok hf h1 h2 hl hr
    simp only [if_neg h8]
    go_enter Tryz.func11, Tryz.ntmps11
    go_wp2_with (fail)
    refine hsec.out.mono ?_
    rintro e w1 ⟨rfl, rfl⟩
    go_wp2
    refine wp_loop_rounds 3 ?_
    rw [rounds_succ]
    go_wp2_with (fail)
    refine W1.out.mono ?_
    rintro e w2 hp
    obtain ⟨rfl, F2, hd2, hc2, hf2⟩ := hp.dw
    have HE2 := Lib.hid (DW.env ⟨F2, hd2, hc2, hf2⟩ HD.out HE.out)
    have HD2 := Lib.hid hd2
    have HC2 := Lib.hid (And.intro hc2 hf2)
    clear hp hd2 hc2 hf2 W1
    go_wp2
    rw [rounds_succ]
    go_wp2_with (fail)
    refine (W2.out _ _ HE2.out HD2.out).mono ?_
    rintro e w3 hp
    obtain ⟨rfl, hdw⟩ := hp.dw
    obtain ⟨F3, hd3, hc3, hf3⟩ := DW.trans HC2.out.1 HC2.out.2 hdw
    have HE3 := Lib.hid (DW.env ⟨F3, hd3, hc3, hf3⟩ HD.out HE.out)
    have HD3 := Lib.hid hd3
    have HC3 := Lib.hid (And.intro hc3 hf3)
    clear hp hdw hd3 hc3 hf3 W2 HE2 HD2 HC2
    go_wp2
    rw [rounds_succ]
    go_wp2_with (fail)
    refine (W3.out _ _ HE3.out HD3.out).mono ?_
    rintro e w4 hp
    obtain ⟨rfl, hdw⟩ := hp.dw
    obtain ⟨F4, hd4, hc4, hf4⟩ := DW.trans HC3.out.1 HC3.out.2 hdw
    have hsz := hc4.size
    have hlog := Blk.new w4 70 [.pointer (some ⟨b, 0, none⟩), .int .i64 (0 : Nat), .int .i64 (0 : Nat), .int .i64 (0 : Nat), .bool false]
    have hlt := hd4.lt
    have hgF : w4.heap.size ∉ F4 := fun hx => by have := hlt _ hx; omega
    have HE4 := DW.env ⟨F4, hd4, hc4, hf4⟩ HD.out HE.out
    have HPut := Lib.hid (lput_any B b w4.heap.size E F4 (fmt0 D) 0 0 0 0 0 emptyS _ (HE4.chg (Chg.alloc [] _ _) (by simp)) (hd4.chg (Chg.alloc [] _ _) (by simp)) ok3.out (by simp [fmt0]) hlog hgF (by decide) (by decide) (by decide) (by decide) (by decide))
    have HC4 := Lib.hid (And.intro hc4 (And.intro hf4 hgF))
    clear hp hdw hd4 hc4 hf4 W3 HE3 HD3 HC3 HE4 hlog hlt hgF
    go_wp2_with (fail)
    refine HPut.out.mono ?_
    rintro e w5 ⟨rfl, hlw⟩
    rw [Hr.out, errv_zero]
    have HLW := Lib.hid hlw
    clear hlw
    go_wp2
    go_ret2
    obtain ⟨F5, hd5, hc5, hf5, hl5⟩ := HLW.out
    have hsa : (w4.alloc (.cells #[.pointer (some ⟨b, 0, none⟩), .int .i64 (0 : Nat), .int .i64 (0 : Nat), .int .i64 (0 : Nat), .bool false] 70)).heap.size = w4.heap.size + 1 := by simp
    refine ⟨w4.heap.size, rfl, hsz, ?_, F5, hd5, ?_, ?_, ?_⟩
    · unfold putF at hl5
      rw [if_pos Hr.out] at hl5
      exact hl5
    · have hc45 := (HC4.out.1.trans (Chg.alloc [] _ _) (by simp)).trans hc5 (T := w4.heap.size :: F4) ?_
      · exact hc45
      · intro x hx
        rcases List.mem_cons.1 hx with rfl | hx
        · exact .inr hsz
        · exact HC4.out.2.1 x hx
    · intro x hx
      rcases hf5 x hx with h | h
      · exact HC4.out.2.1 x h
      · exact .inr (by omega)
    · intro hx
      rcases hf5 _ hx with h | h
      · exact HC4.out.2.2 h
      · omega
end Go.Proofs.YtdcafgpnomcbhaaGreatDoor
