/- (*Disk).Write, Read, Flush, Sectors, Fail. -/
import Derived.Test.YtdcafgpnomcbhaaGreatDoorDisk
import Derived.Test.YtdcafgpnomcbhaaGreatDoorEnv
namespace Go.Proofs.YtdcafgpnomcbhaaGreatDoor
open Go.RowKit
set_option linter.unusedVariables false

/-- bytes 0 up to a sector -/
def padS (s : ByteArray) : ByteArray := s ++ ⟨(Lib.repeatL [0] (64 - s.size)).toArray⟩
def DSt.write (D : DSt) (n : Int) (s : ByteArray) : DSt × Nat :=
  if n < 0 ∨ (D.now.length : Int) ≤ n then (D, 2) else if 64 < s.size then (D, 4 - 1) else if D.left = 0 then (D, 15)
  else ({ D with left := spendL D.left, now := D.now.set n.toNat (padS s), wait := D.wait ++ [(n.toNat, padS s)] }, 0)

/-- What a call on a disk leaves: the disk D', the result v. -/
def DPost (B b : Nat) (F : List Nat) (w : World) (D' : DSt) (v : Value) (e : Ending) (w' : World) : Prop :=
  e = .returned v ∧ ∃ F', Disk B w' b D' F' ∧ Chg F w w' ∧ ∀ x ∈ F', x ∈ F ∨ w.heap.size ≤ x
theorem DPost.same {B b : Nat} {F : List Nat} {w : World} {D : DSt} {v : Value} (h : Disk B w b D F) : DPost B b F w D v (.returned v) w :=
  ⟨rfl, F, h, Chg.refl _ _, fun x hx => .inl hx⟩

structure DSt.Ok (D : DSt) : Prop where
  l0 : -1 ≤ D.left
  l1 : D.left ≤ 9223372036854775807
  len : D.now.length ≤ 4000
  klen : D.kept.length = D.now.length
  pos : 0 < D.now.length
  wait : D.wait.length ≤ 1000000

set_option maxHeartbeats 400000 in
theorem dWrite_neg (B b : Nat) (E : Nat → Addr) (F : List Nat) (D : DSt) (n : Int) (s : ByteArray) (w : World) (hE : Env B E w) (h : n < 0) :
    Calls Tryz.prog 33 #[.pointer (some ⟨b, 0, none⟩), .int .i64 n, .string s] w fun e w' => e = .returned (errv E 2) ∧ w = w' := by
  have hg := hE.glob (2, 0) (by simp [errTab])
  go_enter Tryz.func33, Tryz.ntmps33
  go_wp2
  go_ret
  exact ⟨rfl, rfl⟩
set_option maxHeartbeats 400000 in
theorem dWrite_far (B b : Nat) (E : Nat → Addr) (F : List Nat) (D : DSt) (n : Int) (s : ByteArray) (w : World) (hE : Env B E w) (a : Option Addr) (m c : Nat) (hc : w.cell? ⟨b, 2, none⟩ = some (.slice a m c)) (h0 : ¬ n < 0) (h : (m : Int) ≤ n) :
    Calls Tryz.prog 33 #[.pointer (some ⟨b, 0, none⟩), .int .i64 n, .string s] w fun e w' => e = .returned (errv E 2) ∧ w = w' := by
  have hg := hE.glob (2, 0) (by simp [errTab])
  go_enter Tryz.func33, Tryz.ntmps33
  go_wp2
  go_ret
  exact ⟨rfl, rfl⟩
set_option maxHeartbeats 400000 in
theorem dWrite_long (B b : Nat) (E : Nat → Addr) (F : List Nat) (D : DSt) (n : Int) (s : ByteArray) (w : World) (hE : Env B E w) (a : Option Addr) (m c : Nat) (hc : w.cell? ⟨b, 2, none⟩ = some (.slice a m c)) (h0 : ¬ n < 0) (h : n < (m : Int)) (hs : 64 < (s.size : Int)) :
    Calls Tryz.prog 33 #[.pointer (some ⟨b, 0, none⟩), .int .i64 n, .string s] w fun e w' => e = .returned (errv E 3) ∧ w = w' := by
  have hg := hE.glob (3, 4) (by simp [errTab])
  go_enter Tryz.func33, Tryz.ntmps33
  go_wp2
  go_ret
  exact ⟨rfl, rfl⟩
set_option maxHeartbeats 400000 in
theorem dWrite_dead (B b : Nat) (E : Nat → Addr) (F : List Nat) (D : DSt) (n : Int) (s : ByteArray) (w : World) (hE : Env B E w) (a : Option Addr) (m c : Nat) (hc : w.cell? ⟨b, 2, none⟩ = some (.slice a m c)) (hl : w.cell? ⟨b, 0, none⟩ = some (.int .i64 0)) (h0 : ¬ n < 0) (h : n < (m : Int)) (hs : (s.size : Int) ≤ 64) :
    Calls Tryz.prog 33 #[.pointer (some ⟨b, 0, none⟩), .int .i64 n, .string s] w fun e w' => e = .returned (errv E 15) ∧ w = w' := by
  have hg := hE.glob (15, 3) (by simp [errTab])
  go_enter Tryz.func33, Tryz.ntmps33
  go_wp2_with (go_at_call 49; refine (spend_zero _ _ hl).mono ?_; rintro e w' ⟨rfl, rfl⟩)
  go_ret
  exact ⟨rfl, rfl⟩
end Go.Proofs.YtdcafgpnomcbhaaGreatDoor
