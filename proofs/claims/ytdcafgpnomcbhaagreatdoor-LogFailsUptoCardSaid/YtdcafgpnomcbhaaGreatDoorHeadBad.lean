/- log.headOf where no head is read. -/
import Derived.Test.YtdcafgpnomcbhaaGreatDoorHeadOf
namespace Go.Proofs.YtdcafgpnomcbhaaGreatDoor
open Go.RowKit
set_option linter.unusedVariables false

set_option maxHeartbeats 1000000 in
set_option maxRecDepth 100000 in
theorem headOf_bad0 (B : Nat) (E : Nat → Addr) (s : ByteArray) (w : World) (hE : Env B E w) (hs : s.size = 64) (hn : partAt s.data.toList 0 = none) :
    Calls Tryz.prog 26 #[.string s] w fun e w' => e = .returned (.tuple #[.int .i64 0, .int .i64 0, .int .i64 0, .bool false]) ∧ Below w.heap.size w w' := by
  have HE := Lib.hid hE
  clear hE
  have AB := Lib.hid (fun w hE => part_bad B E s 0 16 26 hs rfl rfl hn w hE)
  have hs1 : s.size ≤ 64 := by omega
  have hs2 : 64 ≤ s.size := by omega
  go_enter Tryz.func26, Tryz.ntmps26
  go_wp2
  have t4 := Three.new w
  have z4 : w.heap.size + 1 + 1 + 1 < ((((w.alloc (.cells #[.int .i64 0] 3)).alloc (.cells #[.int .i64 0] 3)).alloc (.cells #[.int .i64 0] 3)).alloc (.cells #[.pointer (some ⟨w.heap.size, 0, none⟩), .pointer (some ⟨w.heap.size + 1, 0, none⟩), .pointer (some ⟨w.heap.size + 1 + 1, 0, none⟩)] 94)).heap.size := by simp
  have eq0 : Hid (w.heap.size = w.heap.size) := rfl
  generalize ((((w.alloc (.cells #[.int .i64 0] 3)).alloc (.cells #[.int .i64 0] 3)).alloc (.cells #[.int .i64 0] 3)).alloc (.cells #[.pointer (some ⟨w.heap.size, 0, none⟩), .pointer (some ⟨w.heap.size + 1, 0, none⟩), .pointer (some ⟨w.heap.size + 1 + 1, 0, none⟩)] 94)) = W4 at t4 z4 ⊢
  generalize hh : w.heap.size = h at t4 z4 ⊢
  have Hh := Lib.hid hh
  clear hh
  clear eq0
  clear hs hn 
  refine wp_loop_rounds 4 ?_
  have HEa := Lib.hid (HE.out.chg (S := []) ⟨t4.below.os, t4.below.tape, t4.below.output, by have := Hh.out; omega, fun k hk _ => t4.below.block k (by have := Hh.out; omega)⟩ (by simp))
  have pb := t4.b3.cell 0 rfl
  rw [rounds_succ]
  go_wp2_with (fail)
  refine (AB.out _ HEa.out).mono ?_
  rintro e wx ⟨n, ev, rfl, hev, hbx⟩
  have tx := t4.next hbx (by omega)
  have zx := hbx.size
  have k0 := tx.b0.cell 0 rfl
  have k1 := tx.b1.cell 0 rfl
  have k2 := tx.b2.cell 0 rfl
  have g0 := tx.b0.froz 0
  have g1 := tx.b1.froz 0
  have g2 := tx.b2.froz 0
  have ty := tx.set0 0
  have k1' := ty.b1.cell 0 rfl
  have tz := ty.set1 0
  have k2' := tz.b2.cell 0 rfl
  have tw := tz.set2 0
  have m0 := tw.b0.cell 0 rfl
  have m1 := tw.b1.cell 0 rfl
  have m2 := tw.b2.cell 0 rfl
  have Tw := Lib.hid tw
  clear pb hbx t4 tx ty tz tw
  rcases hev with ⟨N, rfl⟩ | ⟨rfl, hneg⟩
  all_goals
    go_wp2
    refine bodyPost_ret (v := .tuple #[.int .i64 0, .int .i64 0, .int .i64 0, .bool false]) (by simp [results, Tryz.results26, go_sem, m0, m1, m2]) rfl ⟨rfl, ?_⟩
    rw [Hh.out]
    exact Tw.out.below

set_option maxHeartbeats 1000000 in
set_option maxRecDepth 100000 in
theorem headOf_bad1 (B : Nat) (E : Nat → Addr) (s : ByteArray) (w : World) (hE : Env B E w) (hs : s.size = 64) (a : Nat) (ha : partAt s.data.toList 0 = some a) (hn : partAt s.data.toList 1 = none) :
    Calls Tryz.prog 26 #[.string s] w fun e w' => e = .returned (.tuple #[.int .i64 0, .int .i64 0, .int .i64 0, .bool false]) ∧ Below w.heap.size w w' := by
  have HE := Lib.hid hE
  clear hE
  have A0 := Lib.hid (fun w => part_ok B E s 0 16 26 a hs rfl rfl ha w)
  have AB := Lib.hid (fun w hE => part_bad B E s 1 26 36 hs rfl rfl hn w hE)
  have hs1 : s.size ≤ 64 := by omega
  have hs2 : 64 ≤ s.size := by omega
  go_enter Tryz.func26, Tryz.ntmps26
  go_wp2
  have t4 := Three.new w
  have z4 : w.heap.size + 1 + 1 + 1 < ((((w.alloc (.cells #[.int .i64 0] 3)).alloc (.cells #[.int .i64 0] 3)).alloc (.cells #[.int .i64 0] 3)).alloc (.cells #[.pointer (some ⟨w.heap.size, 0, none⟩), .pointer (some ⟨w.heap.size + 1, 0, none⟩), .pointer (some ⟨w.heap.size + 1 + 1, 0, none⟩)] 94)).heap.size := by simp
  have eq0 : Hid (w.heap.size = w.heap.size) := rfl
  generalize ((((w.alloc (.cells #[.int .i64 0] 3)).alloc (.cells #[.int .i64 0] 3)).alloc (.cells #[.int .i64 0] 3)).alloc (.cells #[.pointer (some ⟨w.heap.size, 0, none⟩), .pointer (some ⟨w.heap.size + 1, 0, none⟩), .pointer (some ⟨w.heap.size + 1 + 1, 0, none⟩)] 94)) = W4 at t4 z4 ⊢
  generalize hh : w.heap.size = h at t4 z4 ⊢
  have Hh := Lib.hid hh
  clear hh
  clear eq0
  clear hs hn ha
  refine wp_loop_rounds 4 ?_
  rw [rounds_succ]
  have p0 := t4.b3.cell 0 rfl
  go_wp2_with (fail)
  refine (A0.out _).mono ?_
  rintro e w1 ⟨rfl, hb1⟩
  have t5 := t4.next hb1 (by omega)
  have z5 := hb1.size
  have q0 := t5.b0.cell 0 rfl
  have f0 := t5.b0.froz 0
  clear p0 hb1 t4
  go_wp2_with (fail)
  have t6 := t5.set0 a
  have e6 := setCell_size w1 ⟨h, 0, none⟩ (.int .i64 a)
  generalize w1.setCell ⟨h, 0, none⟩ (.int .i64 a) = W6 at t6 e6 ⊢
  have z6 : h + 1 + 1 + 1 < W6.heap.size := by omega
  clear q0 f0 t5 e6 z5 z4
  have HEa := Lib.hid (HE.out.chg (S := []) ⟨t6.below.os, t6.below.tape, t6.below.output, by have := Hh.out; omega, fun k hk _ => t6.below.block k (by have := Hh.out; omega)⟩ (by simp))
  have pb := t6.b3.cell 1 rfl
  rw [rounds_succ]
  go_wp2_with (fail)
  refine (AB.out _ HEa.out).mono ?_
  rintro e wx ⟨n, ev, rfl, hev, hbx⟩
  have tx := t6.next hbx (by omega)
  have zx := hbx.size
  have k0 := tx.b0.cell 0 rfl
  have k1 := tx.b1.cell 0 rfl
  have k2 := tx.b2.cell 0 rfl
  have g0 := tx.b0.froz 0
  have g1 := tx.b1.froz 0
  have g2 := tx.b2.froz 0
  have ty := tx.set0 0
  have k1' := ty.b1.cell 0 rfl
  have tz := ty.set1 0
  have k2' := tz.b2.cell 0 rfl
  have tw := tz.set2 0
  have m0 := tw.b0.cell 0 rfl
  have m1 := tw.b1.cell 0 rfl
  have m2 := tw.b2.cell 0 rfl
  have Tw := Lib.hid tw
  clear pb hbx t6 tx ty tz tw
  rcases hev with ⟨N, rfl⟩ | ⟨rfl, hneg⟩
  all_goals
    go_wp2
    refine bodyPost_ret (v := .tuple #[.int .i64 0, .int .i64 0, .int .i64 0, .bool false]) (by simp [results, Tryz.results26, go_sem, m0, m1, m2]) rfl ⟨rfl, ?_⟩
    rw [Hh.out]
    exact Tw.out.below

set_option maxHeartbeats 1000000 in
set_option maxRecDepth 100000 in
theorem headOf_bad2 (B : Nat) (E : Nat → Addr) (s : ByteArray) (w : World) (hE : Env B E w) (hs : s.size = 64) (a : Nat) (ha : partAt s.data.toList 0 = some a) (b : Nat) (hb : partAt s.data.toList 1 = some b) (hn : partAt s.data.toList 2 = none) :
    Calls Tryz.prog 26 #[.string s] w fun e w' => e = .returned (.tuple #[.int .i64 0, .int .i64 0, .int .i64 0, .bool false]) ∧ Below w.heap.size w w' := by
  have HE := Lib.hid hE
  clear hE
  have A0 := Lib.hid (fun w => part_ok B E s 0 16 26 a hs rfl rfl ha w)
  have A1 := Lib.hid (fun w => part_ok B E s 1 26 36 b hs rfl rfl hb w)
  have AB := Lib.hid (fun w hE => part_bad B E s 2 36 46 hs rfl rfl hn w hE)
  have hs1 : s.size ≤ 64 := by omega
  have hs2 : 64 ≤ s.size := by omega
  go_enter Tryz.func26, Tryz.ntmps26
  go_wp2
  have t4 := Three.new w
  have z4 : w.heap.size + 1 + 1 + 1 < ((((w.alloc (.cells #[.int .i64 0] 3)).alloc (.cells #[.int .i64 0] 3)).alloc (.cells #[.int .i64 0] 3)).alloc (.cells #[.pointer (some ⟨w.heap.size, 0, none⟩), .pointer (some ⟨w.heap.size + 1, 0, none⟩), .pointer (some ⟨w.heap.size + 1 + 1, 0, none⟩)] 94)).heap.size := by simp
  have eq0 : Hid (w.heap.size = w.heap.size) := rfl
  generalize ((((w.alloc (.cells #[.int .i64 0] 3)).alloc (.cells #[.int .i64 0] 3)).alloc (.cells #[.int .i64 0] 3)).alloc (.cells #[.pointer (some ⟨w.heap.size, 0, none⟩), .pointer (some ⟨w.heap.size + 1, 0, none⟩), .pointer (some ⟨w.heap.size + 1 + 1, 0, none⟩)] 94)) = W4 at t4 z4 ⊢
  generalize hh : w.heap.size = h at t4 z4 ⊢
  have Hh := Lib.hid hh
  clear hh
  clear eq0
  clear hs hn ha hb
  refine wp_loop_rounds 4 ?_
  rw [rounds_succ]
  have p0 := t4.b3.cell 0 rfl
  go_wp2_with (fail)
  refine (A0.out _).mono ?_
  rintro e w1 ⟨rfl, hb1⟩
  have t5 := t4.next hb1 (by omega)
  have z5 := hb1.size
  have q0 := t5.b0.cell 0 rfl
  have f0 := t5.b0.froz 0
  clear p0 hb1 t4
  go_wp2_with (fail)
  have t6 := t5.set0 a
  have e6 := setCell_size w1 ⟨h, 0, none⟩ (.int .i64 a)
  generalize w1.setCell ⟨h, 0, none⟩ (.int .i64 a) = W6 at t6 e6 ⊢
  have z6 : h + 1 + 1 + 1 < W6.heap.size := by omega
  clear q0 f0 t5 e6 z5 z4
  have p1 := t6.b3.cell 1 rfl
  rw [rounds_succ]
  go_wp2_with (fail)
  refine (A1.out _).mono ?_
  rintro e w2 ⟨rfl, hb2⟩
  have t7 := t6.next hb2 (by omega)
  have z7 := hb2.size
  have q1 := t7.b1.cell 0 rfl
  have f1 := t7.b1.froz 0
  clear p1 hb2 t6
  go_wp2_with (fail)
  have t8 := t7.set1 b
  have e8 := setCell_size w2 ⟨h + 1, 0, none⟩ (.int .i64 b)
  generalize w2.setCell ⟨h + 1, 0, none⟩ (.int .i64 b) = W8 at t8 e8 ⊢
  have z8 : h + 1 + 1 + 1 < W8.heap.size := by omega
  clear q1 f1 t7 e8 z7 z6
  have HEa := Lib.hid (HE.out.chg (S := []) ⟨t8.below.os, t8.below.tape, t8.below.output, by have := Hh.out; omega, fun k hk _ => t8.below.block k (by have := Hh.out; omega)⟩ (by simp))
  have pb := t8.b3.cell 2 rfl
  rw [rounds_succ]
  go_wp2_with (fail)
  refine (AB.out _ HEa.out).mono ?_
  rintro e wx ⟨n, ev, rfl, hev, hbx⟩
  have tx := t8.next hbx (by omega)
  have zx := hbx.size
  have k0 := tx.b0.cell 0 rfl
  have k1 := tx.b1.cell 0 rfl
  have k2 := tx.b2.cell 0 rfl
  have g0 := tx.b0.froz 0
  have g1 := tx.b1.froz 0
  have g2 := tx.b2.froz 0
  have ty := tx.set0 0
  have k1' := ty.b1.cell 0 rfl
  have tz := ty.set1 0
  have k2' := tz.b2.cell 0 rfl
  have tw := tz.set2 0
  have m0 := tw.b0.cell 0 rfl
  have m1 := tw.b1.cell 0 rfl
  have m2 := tw.b2.cell 0 rfl
  have Tw := Lib.hid tw
  clear pb hbx t8 tx ty tz tw
  rcases hev with ⟨N, rfl⟩ | ⟨rfl, hneg⟩
  all_goals
    go_wp2
    refine bodyPost_ret (v := .tuple #[.int .i64 0, .int .i64 0, .int .i64 0, .bool false]) (by simp [results, Tryz.results26, go_sem, m0, m1, m2]) rfl ⟨rfl, ?_⟩
    rw [Hh.out]
    exact Tw.out.below
end Go.Proofs.YtdcafgpnomcbhaaGreatDoor
