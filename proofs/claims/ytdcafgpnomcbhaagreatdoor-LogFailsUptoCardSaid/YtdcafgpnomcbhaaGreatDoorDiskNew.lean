/- disk.New: so many sectors of bytes 0. -/
import Derived.Test.YtdcafgpnomcbhaaGreatDoorRepeat
namespace Go.Proofs.YtdcafgpnomcbhaaGreatDoor
open Go.RowKit
set_option linter.unusedVariables false

def DSt.new (n : Nat) : DSt := { left := -1, kept := List.replicate n (zeroS 64), now := List.replicate n (zeroS 64), wait := [] }
/-- a new disk in new memory -/
def NewDisk (B : Nat) (w : World) (D : DSt) (w' : World) (v : Value) : Prop :=
  ∃ b F, v = .pointer (some ⟨b, 0, none⟩) ∧ Disk B w' b D F ∧ Chg [] w w' ∧ ∀ x ∈ F, w.heap.size ≤ x

set_option maxHeartbeats 1000000 in
theorem dNew_in (B n : Nat) (w : World) (h1 : 1 ≤ n) (h : n ≤ 4000) (hB : B ≤ w.heap.size) :
    Calls Tryz.prog 8 #[.int .i64 n] w fun e w' => ∃ v, e = .returned (.tuple #[v, .nilIface]) ∧ NewDisk B w (DSt.new n) w' v := by
  go_enter Tryz.func8, Tryz.ntmps8
  go_wp2_with (fail)
  refine (repeat0 _ _ (by omega) (by omega)).mono ?_
  rintro e w1 ⟨rfl, hb1⟩
  rw [show (64 : Int).toNat = 64 from rfl]
  generalize hz : zeroS 64 = Z
  have Hz := Lib.hid hz
  clear hz
  go_wp2_with (fail)
  refine (slRepeat_one w1.heap.size 1 n Z _ (by simp) h1 h).mono ?_
  rintro e w2 ⟨k, rfl, hr2, hk2, hb2⟩
  go_wp2_with (fail)
  have hr2' : Row w2 9 1 (.slice (some ⟨k, 0, none⟩) n n) n ((List.replicate n Z).map .string) := by simpa using hr2
  refine (clone_row k n n (List.replicate n Z) w2 hr2' (by omega) (by omega)).mono ?_
  rintro e w3 ⟨m, mc, rfl, hr3, hm3, hb3⟩
  have hs1 := hb1.size
  have hs2 := hb2.size
  have hs3 := hb3.size
  have hk3 : k < w2.heap.size := hr2.lt k rfl
  have hm4 : m < w3.heap.size := hr3.lt m rfl
  simp only [World.size_alloc] at hs2 hk2 hb2
  have hfin : NewDisk B w (DSt.new n) (w3.alloc (.cells #[.int .i64 (-1), .slice (some ⟨k, 0, none⟩) n n, .slice (some ⟨m, 0, none⟩) n mc, .slice none 0 0] 57)) (.pointer (some ⟨w3.heap.size, 0, none⟩)) := by
    have hkr := (hr2'.chg (Chg.of_below hb3 []) (by simp)).alloc (.cells #[.int .i64 (-1), .slice (some ⟨k, 0, none⟩) n n, .slice (some ⟨m, 0, none⟩) n mc, .slice none 0 0] 57)
    have hmr := hr3.alloc (.cells #[.int .i64 (-1), .slice (some ⟨k, 0, none⟩) n n, .slice (some ⟨m, 0, none⟩) n mc, .slice none 0 0] 57)
    refine ⟨w3.heap.size, [w3.heap.size, k, m], rfl, ⟨k, m, n, mc, .slice none 0 0, by simp [Value.ownBlock], ?_, ?_⟩, ?_, ?_⟩
    · intro x hx; simp at hx; omega
    · unfold DSt.new
      rw [Hz.out]
      refine ⟨?_, by simpa using hkr, by simpa using hmr, Row.nil _ _ _, by simp; omega, by simp; omega, by omega, by simp [Value.ownBlock]⟩
      simpa using Blk.new w3 57 [.int .i64 (-1), .slice (some ⟨k, 0, none⟩) n n, .slice (some ⟨m, 0, none⟩) n mc, .slice none 0 0]
    · refine ⟨hb3.os.trans (hb2.os.trans hb1.os), hb3.tape.trans (hb2.tape.trans hb1.tape), hb3.output.trans (hb2.output.trans hb1.output), by simp; omega, fun i hi _ => ?_⟩
      rw [Below.heap_alloc _ _ _ (by omega), hb3.block i (by omega), hb2.block i (by omega), Below.heap_alloc _ _ _ (by omega), hb1.block i (by omega)]
    · intro x hx; simp at hx; omega
  have Hf := Lib.hid hfin
  clear hfin hr2 hr2' hr3 hb1 hb2 hb3
  go_wp2
  go_ret2
  exact ⟨_, rfl, Hf.out⟩
end Go.Proofs.YtdcafgpnomcbhaaGreatDoor
