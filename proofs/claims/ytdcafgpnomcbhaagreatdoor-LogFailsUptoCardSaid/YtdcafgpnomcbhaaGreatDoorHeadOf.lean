/- strconv.Atoi in two contracts; log.headOf. -/
import Derived.Test.YtdcafgpnomcbhaaGreatDoorPack
import Derived.Deep.RegionHeld3
namespace Go.Proofs.YtdcafgpnomcbhaaGreatDoor
open Go.RowKit
set_option linter.unusedVariables false

theorem bytesWorld_below (w : World) (e : TypeId) (s : ByteArray) : Below w.heap.size w (Lib.bytesWorld w e s) := by
  unfold Lib.bytesWorld
  refine ⟨?_, ?_, ?_, ?_, fun k hk => ?_⟩
  · unfold World.freeze; split <;> rfl
  · unfold World.freeze; split <;> rfl
  · unfold World.freeze; split <;> rfl
  · unfold World.freeze; split <;> simp
  · have h2 : (w.drew.alloc (.cells (Lib.bytesCells w e s) e)).heap[k]? = w.heap[k]? := Below.heap_alloc w.drew _ k hk
    unfold World.freeze
    split
    · exact h2
    · simp only [Array.getElem?_modify]
      rw [if_neg (by omega)]
      exact h2
theorem atoi_ok (s : ByteArray) (v : Int) (h : Lib.atoiAll s.data.toList = .ok v) (w : World) (hs : s.size ≤ 1000000) :
    Calls Tryz.prog 43 #[.string s] w fun e w' => e = .returned (.tuple #[.int .i64 v, .nilIface]) ∧ Below w.heap.size w w' := by
  refine (Tryz.strconv_Atoi_ok s (by omega) v h w).mono ?_
  rintro e w' ⟨rfl, rfl | ⟨t, rfl⟩⟩
  · exact ⟨rfl, Below.refl _ _⟩
  · exact ⟨rfl, bytesWorld_below _ _ _⟩
/-- not nil, a *NumError -/
theorem atoi_bad (B : Nat) (E : Nat → Addr) (s : ByteArray) (h : ∀ v, Lib.atoiAll s.data.toList ≠ .ok v) (w : World) (hE : Env B E w) (hs : s.size ≤ 1000000) :
    Calls Tryz.prog 43 #[.string s] w fun e w' => ∃ (n : Int) (N : Nat), e = .returned (.tuple #[.int .i64 n, .iface 140 (.pointer (some ⟨N, 0, none⟩))]) ∧ Below w.heap.size w w' := by
  cases hz : Lib.atoiAll s.data.toList with
  | ok v => exact absurd hz (h v)
  | range =>
    obtain ⟨te, pe, hc⟩ := hE.eran
    refine (Tryz.strconv_Atoi_range s (by omega) hz _ w hc (.inr ⟨te, pe, rfl⟩)).mono ?_
    rintro e w' ⟨N, rfl, -, -, hb⟩
    exact ⟨_, N, rfl, hb⟩
  | _ =>
    obtain ⟨te, pe, hc⟩ := hE.esyn
    refine (Tryz.strconv_Atoi_syntax s (by omega) hz _ w hc (.inr ⟨te, pe, rfl⟩)).mono ?_
    rintro e w' ⟨N, rfl, -, -, hb⟩
    exact ⟨_, N, rfl, hb⟩

/-- a number that is not below 0 -/
def natOf (l : List UInt8) : Option Nat := match Lib.atoiAll l with | .ok v => if 0 ≤ v then some v.toNat else none | _ => none
def partAt (l : List UInt8) (j : Nat) : Option Nat := natOf ((l.drop (16 + 10 * j)).take 10)
theorem natOf_some {l : List UInt8} {n : Nat} (h : natOf l = some n) : Lib.atoiAll l = .ok (n : Int) := by
  unfold natOf at h
  cases hz : Lib.atoiAll l with
  | ok v =>
    rw [hz] at h
    simp only at h
    split at h
    · cases h; congr 1; omega
    · cases h
  | range => rw [hz] at h; cases h
  | _ => rw [hz] at h; cases h
theorem natOf_none {l : List UInt8} (h : natOf l = none) : (∀ v, Lib.atoiAll l ≠ .ok v) ∨ ∃ v, v < 0 ∧ Lib.atoiAll l = .ok v := by
  unfold natOf at h
  cases hz : Lib.atoiAll l with
  | ok v =>
    rw [hz] at h
    simp only at h
    split at h
    · cases h
    · exact .inr ⟨v, by omega, rfl⟩
  | range => left; intro v hv; cases hv
  | _ => left; intro v hv; cases hv
theorem parseUint10_bound : ∀ (l : List UInt8) (acc u : Nat), Lib.parseUint10 acc l = .ok u → u < (acc + 1) * 10 ^ l.length
  | [], acc, u, h => by simp [Lib.parseUint10] at h; subst h; simp
  | c :: r, acc, u, h => by
    simp only [Lib.parseUint10] at h
    split at h
    · split at h
      · cases h
      · split at h
        · cases h
        · have := parseUint10_bound r _ u h
          rw [List.length_cons, Nat.pow_succ]
          have h1 : (acc * 10 + (c.toNat - 48) + 1) * 10 ^ r.length ≤ ((acc + 1) * 10) * 10 ^ r.length := Nat.mul_le_mul_right _ (by omega)
          rw [show (acc + 1) * (10 ^ r.length * 10) = ((acc + 1) * 10) * 10 ^ r.length by rw [Nat.mul_assoc, Nat.mul_comm 10]]
          omega
    · cases h
theorem natOf_lt {l : List UInt8} {n : Nat} (h : natOf l = some n) (hl : l.length ≤ 10) : n < 10 ^ 10 := by
  have h1 := natOf_some h
  have hp : 10 ^ l.length ≤ 10 ^ 10 := Nat.pow_le_pow_right (by decide) hl
  cases l with
  | nil => simp [Lib.atoiAll] at h1
  | cons c r =>
    simp only [Lib.atoiAll] at h1
    have hb : ∀ m u, Lib.parseMag m = .ok u → m.length ≤ (c :: r).length → u < 10 ^ (c :: r).length := by
      intro m u hu hm
      unfold Lib.parseMag at hu
      split at hu
      · cases hu
      · have := parseUint10_bound m 0 u hu
        have h2 : 10 ^ m.length ≤ 10 ^ (c :: r).length := Nat.pow_le_pow_right (by decide) hm
        omega
    split at h1
    · cases h1
    · cases h1
    · rename_i u hu
      have hu' := hb _ u hu (by split <;> simp)
      split at h1
      · cases h1
      · split at h1
        · cases h1
        · injection h1 with h1
          split at h1 <;> omega

theorem extract_list (s : ByteArray) (a b : Nat) : (s.extract a b).data.toList = (s.data.toList.drop a).take (b - a) := by
  rw [Lib.extract_data]
theorem part_ok (B : Nat) (E : Nat → Addr) (s : ByteArray) (j a b n : Nat) (hs : s.size = 64) (ha : a = 16 + 10 * j) (hb : b = a + 10) (h : partAt s.data.toList j = some n) (w : World) :
    Calls Tryz.prog 43 #[.string (s.extract a b)] w fun e w' => e = .returned (.tuple #[.int .i64 n, .nilIface]) ∧ Below w.heap.size w w' := by
  subst hb
  subst ha
  refine atoi_ok _ _ ?_ w ?_
  · rw [extract_list, show 16 + 10 * j + 10 - (16 + 10 * j) = 10 by omega]
    exact natOf_some h
  · rw [ByteArray.size_extract]; omega

/-- the three results, and the slice of where they lie -/
structure Three (h : Nat) (a b c : Int) (w0 w : World) : Prop where
  b0 : Blk w h 3 [.int .i64 a]
  b1 : Blk w (h + 1) 3 [.int .i64 b]
  b2 : Blk w (h + 1 + 1) 3 [.int .i64 c]
  b3 : Blk w (h + 1 + 1 + 1) 94 [.pointer (some ⟨h, 0, none⟩), .pointer (some ⟨h + 1, 0, none⟩), .pointer (some ⟨h + 1 + 1, 0, none⟩)]
  below : Below h w0 w
theorem Three.next {h : Nat} {a b c : Int} {w0 w w' : World} (t : Three h a b c w0 w) (hb : Below w.heap.size w w') (hh : h ≤ w.heap.size) : Three h a b c w0 w' :=
  ⟨t.b0.chg (Chg.of_below hb []) (by simp), t.b1.chg (Chg.of_below hb []) (by simp), t.b2.chg (Chg.of_below hb []) (by simp), t.b3.chg (Chg.of_below hb []) (by simp), t.below.trans (hb.mono hh)⟩
theorem Three.set0 {h : Nat} {a b c : Int} {w0 w : World} (t : Three h a b c w0 w) (x : Int) : Three h x b c w0 (w.setCell ⟨h, 0, none⟩ (.int .i64 x)) :=
  ⟨t.b0.set 0 _, t.b1.set_ne _ _ (by simp), t.b2.set_ne _ _ (by simp; omega), t.b3.set_ne _ _ (by simp; omega), t.below.setCell (p := ⟨h, 0, none⟩) (Nat.le_refl _) _⟩
theorem Three.set1 {h : Nat} {a b c : Int} {w0 w : World} (t : Three h a b c w0 w) (x : Int) : Three h a x c w0 (w.setCell ⟨h + 1, 0, none⟩ (.int .i64 x)) :=
  ⟨t.b0.set_ne _ _ (by simp), t.b1.set 0 _, t.b2.set_ne _ _ (by simp), t.b3.set_ne _ _ (by simp; omega), t.below.setCell (p := ⟨h + 1, 0, none⟩) (Nat.le_succ _) _⟩
theorem Three.set2 {h : Nat} {a b c : Int} {w0 w : World} (t : Three h a b c w0 w) (x : Int) : Three h a b x w0 (w.setCell ⟨h + 1 + 1, 0, none⟩ (.int .i64 x)) :=
  ⟨t.b0.set_ne _ _ (by simp; omega), t.b1.set_ne _ _ (by simp), t.b2.set 0 _, t.b3.set_ne _ _ (by simp), t.below.setCell (p := ⟨h + 1 + 1, 0, none⟩) (by show h ≤ h + 1 + 1; omega) _⟩
theorem Three.new (w : World) : Three w.heap.size 0 0 0 w ((((w.alloc (.cells #[.int .i64 0] 3)).alloc (.cells #[.int .i64 0] 3)).alloc (.cells #[.int .i64 0] 3)).alloc (.cells #[.pointer (some ⟨w.heap.size, 0, none⟩), .pointer (some ⟨w.heap.size + 1, 0, none⟩), .pointer (some ⟨w.heap.size + 1 + 1, 0, none⟩)] 94)) := by
  have h0 := Blk.new w 3 [.int .i64 0]
  have h1 := Blk.new (w.alloc (.cells #[.int .i64 0] 3)) 3 [.int .i64 0]
  have h2 := Blk.new ((w.alloc (.cells #[.int .i64 0] 3)).alloc (.cells #[.int .i64 0] 3)) 3 [.int .i64 0]
  have h3 := Blk.new (((w.alloc (.cells #[.int .i64 0] 3)).alloc (.cells #[.int .i64 0] 3)).alloc (.cells #[.int .i64 0] 3)) 94 [.pointer (some ⟨w.heap.size, 0, none⟩), .pointer (some ⟨w.heap.size + 1, 0, none⟩), .pointer (some ⟨w.heap.size + 1 + 1, 0, none⟩)]
  simp only [World.size_alloc] at h1 h2 h3
  refine ⟨((h0.alloc _).alloc _).alloc _, (h1.alloc _).alloc _, h2.alloc _, h3, ?_⟩
  exact ((((Below.refl _ w).alloc (Nat.le_refl _) _).alloc (by simp) _).alloc (by simp; omega) _).alloc (by simp; omega) _

set_option maxHeartbeats 1000000 in
set_option maxRecDepth 100000 in
theorem headOf_some (B : Nat) (E : Nat → Addr) (s : ByteArray) (w : World) (hE : Env B E w) (hs : s.size = 64) (a b c : Nat) (ha : partAt s.data.toList 0 = some a) (hb : partAt s.data.toList 1 = some b) (hc : partAt s.data.toList 2 = some c) (X Y : ByteArray) (hX : X = bs (Lib.trimRightB s.data.toList 0)) (hY : Y = bs (headL a b c)) (q : Bool) (hq : (X.toList == Y.toList) = q) :
    Calls Tryz.prog 26 #[.string s] w fun e w' => e = .returned (.tuple #[.int .i64 a, .int .i64 b, .int .i64 c, .bool (q && decide ((b : Int) < 2))]) ∧ Below w.heap.size w w' := by
  have la := natOf_lt ha (by simp; omega)
  have lb := natOf_lt hb (by simp; omega)
  have lc := natOf_lt hc (by simp; omega)
  have T0 := Lib.hid (fun w => Calls.same (Tryz.strings_TrimRight_one s 0 (by decide) w (by omega)))
  have H0 := Lib.hid (fun w hE => head_any B E a b c w hE (by omega) (by omega) (by omega) (by omega) (by omega) (by omega))
  rw [show (⟨(Lib.trimRightB s.data.toList 0).toArray⟩ : ByteArray) = bs (Lib.trimRightB s.data.toList 0) from rfl, ← hX] at T0
  rw [Int.toNat_natCast, Int.toNat_natCast, Int.toNat_natCast, ← hY] at H0
  have HE := Lib.hid hE
  clear hE hX hY
  have A0 := Lib.hid (fun w => part_ok B E s 0 16 26 a hs rfl rfl ha w)
  have A1 := Lib.hid (fun w => part_ok B E s 1 26 36 b hs rfl rfl hb w)
  have A2 := Lib.hid (fun w => part_ok B E s 2 36 46 c hs rfl rfl hc w)
  have Hs := Lib.hid hs
  have hs1 : s.size ≤ 64 := by omega
  have hs2 : 64 ≤ s.size := by omega
  clear hs ha hb hc
  go_enter Tryz.func26, Tryz.ntmps26
  go_wp2
  have t4 := Three.new w
  have z4 : w.heap.size + 1 + 1 + 1 < ((((w.alloc (.cells #[.int .i64 0] 3)).alloc (.cells #[.int .i64 0] 3)).alloc (.cells #[.int .i64 0] 3)).alloc (.cells #[.pointer (some ⟨w.heap.size, 0, none⟩), .pointer (some ⟨w.heap.size + 1, 0, none⟩), .pointer (some ⟨w.heap.size + 1 + 1, 0, none⟩)] 94)).heap.size := by simp
  have eq0 : Hid (w.heap.size = w.heap.size) := rfl
  generalize ((((w.alloc (.cells #[.int .i64 0] 3)).alloc (.cells #[.int .i64 0] 3)).alloc (.cells #[.int .i64 0] 3)).alloc (.cells #[.pointer (some ⟨w.heap.size, 0, none⟩), .pointer (some ⟨w.heap.size + 1, 0, none⟩), .pointer (some ⟨w.heap.size + 1 + 1, 0, none⟩)] 94)) = W4 at t4 z4 ⊢
  generalize hh : w.heap.size = h at t4 z4 ⊢
  have Hh := Lib.hid hh
  clear hh
  clear eq0
  refine wp_loop_rounds 4 ?_
  rw [rounds_succ]
  have p0 := t4.b3.cell 0 rfl
  go_wp2_with (fail)
  refine (A0.out _).mono ?_
  rintro e w1 ⟨rfl, hb1⟩
  have t5 := t4.next hb1 (by omega)
  have z5 := hb1.size
  have q0 := t5.b0.cell 0 rfl
  have f0 := t5.b0.froz 0
  clear p0 hb1 t4
  go_wp2_with (fail)
  have t6 := t5.set0 a
  have e6 := setCell_size w1 ⟨h, 0, none⟩ (.int .i64 a)
  generalize w1.setCell ⟨h, 0, none⟩ (.int .i64 a) = W6 at t6 e6 ⊢
  have z6 : h + 1 + 1 + 1 < W6.heap.size := by omega
  clear q0 f0 t5 e6 z5 z4
  have p1 := t6.b3.cell 1 rfl
  rw [rounds_succ]
  go_wp2_with (fail)
  refine (A1.out _).mono ?_
  rintro e w2 ⟨rfl, hb2⟩
  have t7 := t6.next hb2 (by omega)
  have z7 := hb2.size
  have q1 := t7.b1.cell 0 rfl
  have f1 := t7.b1.froz 0
  clear p1 hb2 t6
  go_wp2_with (fail)
  have t8 := t7.set1 b
  have e8 := setCell_size w2 ⟨h + 1, 0, none⟩ (.int .i64 b)
  generalize w2.setCell ⟨h + 1, 0, none⟩ (.int .i64 b) = W8 at t8 e8 ⊢
  have z8 : h + 1 + 1 + 1 < W8.heap.size := by omega
  clear q1 f1 t7 e8 z7 z6
  have p2 := t8.b3.cell 2 rfl
  rw [rounds_succ]
  go_wp2_with (fail)
  refine (A2.out _).mono ?_
  rintro e w3 ⟨rfl, hb3⟩
  have t9 := t8.next hb3 (by omega)
  have z9 := hb3.size
  have q2 := t9.b2.cell 0 rfl
  have f2 := t9.b2.froz 0
  clear p2 hb3 t8
  go_wp2_with (fail)
  have ta := t9.set2 c
  have ea := setCell_size w3 ⟨h + 1 + 1, 0, none⟩ (.int .i64 c)
  generalize w3.setCell ⟨h + 1 + 1, 0, none⟩ (.int .i64 c) = Wa at ta ea ⊢
  have za : h + 1 + 1 + 1 < Wa.heap.size := by omega
  clear q2 f2 t9 ea z9 z8
  rw [rounds_succ]
  go_wp2_with (fail)
  have HEa := Lib.hid ((HE.out.chg (S := []) ⟨ta.below.os, ta.below.tape, ta.below.output, by have := Hh.out; omega, fun k hk _ => ta.below.block k (by have := Hh.out; omega)⟩ (by simp)).chg (Chg.drew [] _) (by simp))
  have td : Three h a b c w Wa.drew := ta.next ((Below.refl _ _).drew) (by omega)
  have y0 := ta.b0.cell 0 rfl
  have y1 := ta.b1.cell 0 rfl
  have y2 := ta.b2.cell 0 rfl
  have y0' := td.b0.cell 0 rfl
  have y1' := td.b1.cell 0 rfl
  have y2' := td.b2.cell 0 rfl
  have Hq := Lib.hid hq
  clear hq
  refine wp_region_held_drew (S := fun W : World => W.cell? ⟨h, 0, none⟩ = some (.int .i64 a) ∧ W.cell? ⟨h + 1, 0, none⟩ = some (.int .i64 b) ∧ W.cell? ⟨h + 1 + 1, 0, none⟩ = some (.int .i64 c)) (by kernel_rfl) ⟨y0', y1', y2'⟩ (fun hS => ?_)
  refine wpAnyH_take (i := 0) (v := ?_) rfl (by kernel_rfl) (by kernel_rfl) (by kernel_rfl) (fun _ _ _ h => h) (Or.inl ⟨by rfl, ?_⟩) hS ?_
  rotate_left
  · intro W hSw
    obtain ⟨i0, i1, i2⟩ := hSw
    go_simp
    try with_reducible rfl
  refine wpAnyH_take (i := 1) (v := ?_) rfl (by kernel_rfl) (by kernel_rfl) (by kernel_rfl) (fun _ _ _ h => h) (Or.inl ⟨by rfl, ?_⟩) hS ?_
  rotate_left
  · intro W hSw
    obtain ⟨i0, i1, i2⟩ := hSw
    go_simp
    try with_reducible rfl
  refine wpAnyH_take (i := 2) (v := ?_) rfl (by kernel_rfl) (by kernel_rfl) (by kernel_rfl) (fun _ _ _ h => h) (Or.inl ⟨by rfl, ?_⟩) hS ?_
  rotate_left
  · intro W hSw
    obtain ⟨i0, i1, i2⟩ := hSw
    go_simp
    try with_reducible rfl
  refine wpAnyH_take (i := 3) (v := ?_) rfl (by kernel_rfl) (by kernel_rfl) (by kernel_rfl) (fun _ _ _ h => h) (Or.inl ⟨by rfl, ?_⟩) hS ?_
  rotate_left
  · intro W hSw
    obtain ⟨i0, i1, i2⟩ := hSw
    go_simp
    try with_reducible rfl
  refine wpAnyH_take (i := 5) (v := ?_) rfl (by kernel_rfl) (by kernel_rfl) (by kernel_rfl) (fun _ _ _ h => h) (Or.inl ⟨by rfl, ?_⟩) hS ?_
  rotate_left
  · intro W hSw
    obtain ⟨i0, i1, i2⟩ := hSw
    go_simp
    try with_reducible rfl
  refine wpAnyH_take (i := 6) (v := ?_) rfl (by kernel_rfl) (by kernel_rfl) (by kernel_rfl) (fun _ _ _ h => h) (Or.inl ⟨by rfl, ?_⟩) hS ?_
  rotate_left
  · intro W hSw
    obtain ⟨i0, i1, i2⟩ := hSw
    go_simp
    try with_reducible rfl
  refine wpAnyH_take (i := 7) (v := ?_) rfl (by kernel_rfl) (by kernel_rfl) (by kernel_rfl) (fun _ _ _ h => h) (Or.inl ⟨by rfl, ?_⟩) hS ?_
  rotate_left
  · intro W hSw
    obtain ⟨i0, i1, i2⟩ := hSw
    go_simp
    try with_reducible rfl
  refine wpAnyH_ready (rs := [4]) (by kernel_rfl) (by simp) ?_
  refine AllReadyH.cons (o := _) rfl (fun K hK => ?_) AllReadyH.nil
  go_simp
  refine (T0.out _).mono ?_
  rintro e w' ⟨rfl, rfl⟩
  refine hK.out _ _ hS (fun _ => ?_)
  clear hK K
  refine wpAnyH_ready (rs := [8]) (by kernel_rfl) (by simp) ?_
  refine AllReadyH.cons (o := _) rfl (fun K hK => ?_) AllReadyH.nil
  go_simp
  refine (H0.out _ HEa.out).mono ?_
  rintro e w4 ⟨rfl, hb4⟩
  have tn := td.next hb4 (by simp; omega)
  have sn : w4.cell? ⟨h, 0, none⟩ = some (.int .i64 a) ∧ w4.cell? ⟨h + 1, 0, none⟩ = some (.int .i64 b) ∧ w4.cell? ⟨h + 1 + 1, 0, none⟩ = some (.int .i64 c) := ⟨tn.b0.cell 0 rfl, tn.b1.cell 0 rfl, tn.b2.cell 0 rfl⟩
  refine hK.out _ _ sn (fun _ => ?_)
  clear hK K hb4 hS y0 y1 y2 y0' y1' y2' td
  refine wpAnyH_take (i := 9) (v := ?_) rfl (by kernel_rfl) (by kernel_rfl) (by kernel_rfl) (fun _ _ _ h => h) (Or.inl ⟨by rfl, ?_⟩) sn ?_
  rotate_left
  · intro W hSw
    obtain ⟨i0, i1, i2⟩ := hSw
    go_simp
    try with_reducible rfl
  refine wpAnyH_take (i := 10) (v := ?_) rfl (by kernel_rfl) (by kernel_rfl) (by kernel_rfl) (fun _ _ _ h => h) (Or.inl ⟨by rfl, ?_⟩) sn ?_
  rotate_left
  · intro W hSw
    obtain ⟨i0, i1, i2⟩ := hSw
    go_simp
    try with_reducible rfl
  rw [Hq.out]
  clear Hq T0 H0 A0 A1 A2 HEa HE
  have fz0 := tn.b0.froz 0
  have fz1 := tn.b1.froz 0
  have fz2 := tn.b2.froz 0
  cases q
  · refine wpAnyH_take (i := 11) (v := undef) rfl (by kernel_rfl) (by kernel_rfl) (by kernel_rfl) (fun _ _ _ h => h) (Or.inr ⟨by rfl, rfl⟩) sn ?_
    refine wpAnyH_take (i := 12) (v := undef) rfl (by kernel_rfl) (by kernel_rfl) (by kernel_rfl) (fun _ _ _ h => h) (Or.inr ⟨by rfl, rfl⟩) sn ?_
    refine wpAnyH_take (i := 13) (v := ?_) rfl (by kernel_rfl) (by kernel_rfl) (by kernel_rfl) (fun _ _ _ h => h) (Or.inl ⟨by rfl, ?_⟩) sn ?_
    rotate_left
    · intro W hSw
      obtain ⟨i0, i1, i2⟩ := hSw
      go_simp
      try with_reducible rfl
    refine wpAnyH_ready (rs := [14]) (by kernel_rfl) (by simp) ?_
    refine AllReadyH.cons (o := _) rfl (fun K hK => ?_) AllReadyH.nil
    have k0 := tn.b0.cell 0 rfl
    have k1 := tn.b1.cell 0 rfl
    have k2 := tn.b2.cell 0 rfl
    have g0 := tn.b0.froz 0
    have g1 := tn.b1.froz 0
    have g2 := tn.b2.froz 0
    go_simp
    have tp := tn.set0 (a : Int)
    refine hK.out _ _ ⟨tp.b0.cell 0 rfl, tp.b1.cell 0 rfl, tp.b2.cell 0 rfl⟩ (fun _ => ?_)
    clear hK K k0 k1 k2 g0 g1 g2
    refine wpAnyH_ready (rs := [15]) (by kernel_rfl) (by simp) ?_
    refine AllReadyH.cons (o := _) rfl (fun K hK => ?_) AllReadyH.nil
    have k0 := tp.b0.cell 0 rfl
    have k1 := tp.b1.cell 0 rfl
    have k2 := tp.b2.cell 0 rfl
    have g0 := tp.b0.froz 0
    have g1 := tp.b1.froz 0
    have g2 := tp.b2.froz 0
    go_simp
    have tq := tp.set1 (b : Int)
    refine hK.out _ _ ⟨tq.b0.cell 0 rfl, tq.b1.cell 0 rfl, tq.b2.cell 0 rfl⟩ (fun _ => ?_)
    clear hK K k0 k1 k2 g0 g1 g2
    refine wpAnyH_ready (rs := [16]) (by kernel_rfl) (by simp) ?_
    refine AllReadyH.cons (o := _) rfl (fun K hK => ?_) AllReadyH.nil
    have k0 := tq.b0.cell 0 rfl
    have k1 := tq.b1.cell 0 rfl
    have k2 := tq.b2.cell 0 rfl
    have g0 := tq.b0.froz 0
    have g1 := tq.b1.froz 0
    have g2 := tq.b2.froz 0
    go_simp
    have tr := tq.set2 (c : Int)
    refine hK.out _ _ ⟨tr.b0.cell 0 rfl, tr.b1.cell 0 rfl, tr.b2.cell 0 rfl⟩ (fun _ => ?_)
    clear hK K k0 k1 k2 g0 g1 g2
    have sr := (⟨tr.b0.cell 0 rfl, tr.b1.cell 0 rfl, tr.b2.cell 0 rfl⟩ : _ ∧ _ ∧ _)
    refine wpAnyH_take (i := 17) (v := ?_) rfl (by kernel_rfl) (by kernel_rfl) (by kernel_rfl) (fun _ _ _ h => h) (Or.inl ⟨by rfl, ?_⟩) sr ?_
    rotate_left
    · intro W hSw
      obtain ⟨i0, i1, i2⟩ := hSw
      go_simp
      try with_reducible rfl
    refine wpAnyH_done (by kernel_rfl) ?_ _
    clear sn sr fz0 fz1 fz2 tn tp tq
    have k0 := tr.b0.cell 0 rfl
    have k1 := tr.b1.cell 0 rfl
    have k2 := tr.b2.cell 0 rfl
    go_wp2
    refine bodyPost_ret (v := .tuple #[.int .i64 a, .int .i64 b, .int .i64 c, .bool (false && decide ((b : Int) < 2))]) (by simp [results, Tryz.results26, go_sem, k0, k1, k2]) rfl ⟨rfl, ?_⟩
    rw [Hh.out]
    exact tr.below
  · refine wpAnyH_take (i := 11) (v := ?_) rfl (by kernel_rfl) (by kernel_rfl) (by kernel_rfl) (fun _ _ _ h => h) (Or.inl ⟨by rfl, ?_⟩) sn ?_
    rotate_left
    · intro W hSw
      obtain ⟨i0, i1, i2⟩ := hSw
      go_simp
      try with_reducible rfl
    refine wpAnyH_take (i := 12) (v := ?_) rfl (by kernel_rfl) (by kernel_rfl) (by kernel_rfl) (fun _ _ _ h => h) (Or.inl ⟨by rfl, ?_⟩) sn ?_
    rotate_left
    · intro W hSw
      obtain ⟨i0, i1, i2⟩ := hSw
      go_simp
      try with_reducible rfl
    refine wpAnyH_take (i := 13) (v := ?_) rfl (by kernel_rfl) (by kernel_rfl) (by kernel_rfl) (fun _ _ _ h => h) (Or.inl ⟨by rfl, ?_⟩) sn ?_
    rotate_left
    · intro W hSw
      obtain ⟨i0, i1, i2⟩ := hSw
      go_simp
      try with_reducible rfl
    refine wpAnyH_ready (rs := [14]) (by kernel_rfl) (by simp) ?_
    refine AllReadyH.cons (o := _) rfl (fun K hK => ?_) AllReadyH.nil
    have k0 := tn.b0.cell 0 rfl
    have k1 := tn.b1.cell 0 rfl
    have k2 := tn.b2.cell 0 rfl
    have g0 := tn.b0.froz 0
    have g1 := tn.b1.froz 0
    have g2 := tn.b2.froz 0
    go_simp
    have tp := tn.set0 (a : Int)
    refine hK.out _ _ ⟨tp.b0.cell 0 rfl, tp.b1.cell 0 rfl, tp.b2.cell 0 rfl⟩ (fun _ => ?_)
    clear hK K k0 k1 k2 g0 g1 g2
    refine wpAnyH_ready (rs := [15]) (by kernel_rfl) (by simp) ?_
    refine AllReadyH.cons (o := _) rfl (fun K hK => ?_) AllReadyH.nil
    have k0 := tp.b0.cell 0 rfl
    have k1 := tp.b1.cell 0 rfl
    have k2 := tp.b2.cell 0 rfl
    have g0 := tp.b0.froz 0
    have g1 := tp.b1.froz 0
    have g2 := tp.b2.froz 0
    go_simp
    have tq := tp.set1 (b : Int)
    refine hK.out _ _ ⟨tq.b0.cell 0 rfl, tq.b1.cell 0 rfl, tq.b2.cell 0 rfl⟩ (fun _ => ?_)
    clear hK K k0 k1 k2 g0 g1 g2
    refine wpAnyH_ready (rs := [16]) (by kernel_rfl) (by simp) ?_
    refine AllReadyH.cons (o := _) rfl (fun K hK => ?_) AllReadyH.nil
    have k0 := tq.b0.cell 0 rfl
    have k1 := tq.b1.cell 0 rfl
    have k2 := tq.b2.cell 0 rfl
    have g0 := tq.b0.froz 0
    have g1 := tq.b1.froz 0
    have g2 := tq.b2.froz 0
    go_simp
    have tr := tq.set2 (c : Int)
    refine hK.out _ _ ⟨tr.b0.cell 0 rfl, tr.b1.cell 0 rfl, tr.b2.cell 0 rfl⟩ (fun _ => ?_)
    clear hK K k0 k1 k2 g0 g1 g2
    have sr := (⟨tr.b0.cell 0 rfl, tr.b1.cell 0 rfl, tr.b2.cell 0 rfl⟩ : _ ∧ _ ∧ _)
    refine wpAnyH_take (i := 17) (v := ?_) rfl (by kernel_rfl) (by kernel_rfl) (by kernel_rfl) (fun _ _ _ h => h) (Or.inl ⟨by rfl, ?_⟩) sr ?_
    rotate_left
    · intro W hSw
      obtain ⟨i0, i1, i2⟩ := hSw
      go_simp
      try with_reducible rfl
    refine wpAnyH_done (by kernel_rfl) ?_ _
    clear sn sr fz0 fz1 fz2 tn tp tq
    have k0 := tr.b0.cell 0 rfl
    have k1 := tr.b1.cell 0 rfl
    have k2 := tr.b2.cell 0 rfl
    go_wp2
    refine bodyPost_ret (v := .tuple #[.int .i64 a, .int .i64 b, .int .i64 c, .bool (true && decide ((b : Int) < 2))]) (by simp [results, Tryz.results26, go_sem, k0, k1, k2]) rfl ⟨rfl, ?_⟩
    rw [Hh.out]
    exact tr.below
theorem part_bad (B : Nat) (E : Nat → Addr) (s : ByteArray) (j a b : Nat) (hs : s.size = 64) (ha : a = 16 + 10 * j) (hb : b = a + 10) (h : partAt s.data.toList j = none) (w : World) (hE : Env B E w) :
    Calls Tryz.prog 43 #[.string (s.extract a b)] w fun e w' => ∃ (n : Int) (ev : Value), e = .returned (.tuple #[.int .i64 n, ev]) ∧ ((∃ N, ev = .iface 140 (.pointer (some ⟨N, 0, none⟩))) ∨ (ev = .nilIface ∧ n < 0)) ∧ Below w.heap.size w w' := by
  subst hb
  subst ha
  have hl : (s.extract (16 + 10 * j) (16 + 10 * j + 10)).data.toList = (s.data.toList.drop (16 + 10 * j)).take 10 := by rw [extract_list, show 16 + 10 * j + 10 - (16 + 10 * j) = 10 by omega]
  have hz : (s.extract (16 + 10 * j) (16 + 10 * j + 10)).size ≤ 1000000 := by rw [ByteArray.size_extract]; omega
  rcases natOf_none h with h | ⟨v, hv, h⟩
  · refine (atoi_bad B E _ (by rw [hl]; exact h) w hE hz).mono ?_
    rintro e w' ⟨n, N, rfl, hb⟩
    exact ⟨n, _, rfl, .inl ⟨N, rfl⟩, hb⟩
  · refine (atoi_ok _ v (by rw [hl]; exact h) w hz).mono ?_
    rintro e w' ⟨rfl, hb⟩
    exact ⟨v, _, rfl, .inr ⟨rfl, hv⟩, hb⟩
end Go.Proofs.YtdcafgpnomcbhaaGreatDoor
