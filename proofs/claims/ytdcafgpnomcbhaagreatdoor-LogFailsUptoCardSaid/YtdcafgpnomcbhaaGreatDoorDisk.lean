/- The disk: what it holds, and what each of its calls does. -/
import Derived.Test.YtdcafgpnomcbhaaGreatDoorBase
import Derived.Test.YtdcafgpnomcbhaaGreatDoorShelf
namespace Go.Proofs.YtdcafgpnomcbhaaGreatDoor
open Go.RowKit
set_option linter.unusedVariables false

structure DSt where
  left : Int
  kept : List ByteArray
  now : List ByteArray
  wait : List (Nat × ByteArray)

def waitCells (l : List (Nat × ByteArray)) : List Value := l.flatMap fun p => [Value.int .i64 p.1, Value.string p.2]
theorem waitCells_len (l : List (Nat × ByteArray)) : (waitCells l).length = l.length * 2 := by
  induction l with
  | nil => rfl
  | cons p l ih => simp [waitCells] at ih ⊢; omega
theorem waitCells_snoc (l : List (Nat × ByteArray)) (p : Nat × ByteArray) : waitCells (l ++ [p]) = waitCells l ++ [Value.int .i64 p.1, Value.string p.2] := by simp [waitCells]

/-- The disk at block b: its slices' blocks k, n (and wv's own). -/
structure DiskAt (w : World) (b k n kc nc : Nat) (wv : Value) (D : DSt) : Prop where
  blk : Blk w b 57 [.int .i64 D.left, .slice (some ⟨k, 0, none⟩) D.kept.length kc, .slice (some ⟨n, 0, none⟩) D.now.length nc, wv]
  kept : Row w 9 1 (.slice (some ⟨k, 0, none⟩) D.kept.length kc) D.kept.length (D.kept.map .string)
  now : Row w 9 1 (.slice (some ⟨n, 0, none⟩) D.now.length nc) D.now.length (D.now.map .string)
  wait : Row w 86 2 wv D.wait.length (waitCells D.wait)
  nbk : b ≠ k
  nbn : b ≠ n
  nkn : k ≠ n
  nbw : ∀ x, wv.ownBlock = some x → x ≠ b ∧ x ≠ k ∧ x ≠ n

def Disk (B : Nat) (w : World) (b : Nat) (D : DSt) (F : List Nat) : Prop :=
  ∃ k n kc nc wv, F = b :: k :: n :: wv.ownBlock.toList ∧ (∀ x ∈ F, B ≤ x) ∧ DiskAt w b k n kc nc wv D

theorem DiskAt.chg {w w' : World} {b k n kc nc : Nat} {wv : Value} {D : DSt} {S : List Nat} (h : DiskAt w b k n kc nc wv D) (hc : Chg S w w')
    (hS : ∀ x ∈ b :: k :: n :: wv.ownBlock.toList, x ∉ S) : DiskAt w' b k n kc nc wv D :=
  ⟨h.blk.chg hc (hS _ (by simp)), h.kept.chg hc (fun x hx => by cases hx; exact hS _ (by simp)), h.now.chg hc (fun x hx => by cases hx; exact hS _ (by simp)),
    h.wait.chg hc (fun x hx => hS _ (by simp [hx])), h.nbk, h.nbn, h.nkn, h.nbw⟩
theorem Disk.chg {B : Nat} {w w' : World} {b : Nat} {D : DSt} {F S : List Nat} (h : Disk B w b D F) (hc : Chg S w w') (hS : ∀ x ∈ F, x ∉ S) : Disk B w' b D F := by
  obtain ⟨k, n, kc, nc, wv, rfl, hB, hd⟩ := h
  exact ⟨k, n, kc, nc, wv, rfl, hB, hd.chg hc hS⟩
theorem Disk.lt {B : Nat} {w : World} {b : Nat} {D : DSt} {F : List Nat} (h : Disk B w b D F) : ∀ x ∈ F, x < w.heap.size := by
  obtain ⟨k, n, kc, nc, wv, rfl, hB, hd⟩ := h
  intro x hx
  simp at hx
  rcases hx with rfl | rfl | rfl | hx
  · exact hd.blk.lt
  · exact hd.kept.lt _ rfl
  · exact hd.now.lt _ rfl
  · exact hd.wait.lt _ hx

/-- so many acts more -/
def spendL (l : Int) : Int := if 0 < l then l - 1 else l

set_option maxHeartbeats 400000 in
theorem spend_zero (b : Nat) (w : World) (hc : w.cell? ⟨b, 0, none⟩ = some (.int .i64 0)) :
    Calls Tryz.prog 49 #[.pointer (some ⟨b, 0, none⟩)] w fun e w' => e = .returned (.bool false) ∧ w = w' := by
  go_enter Tryz.func49, Tryz.ntmps49
  go_wp2
  go_ret
  exact ⟨rfl, rfl⟩
set_option maxHeartbeats 400000 in
theorem spend_pos (b : Nat) (l : Int) (w : World) (hc : w.cell? ⟨b, 0, none⟩ = some (.int .i64 l)) (hl : 0 < l) (hl2 : l ≤ 9223372036854775807) (hf : w.frozen? ⟨b, 0, none⟩ = false) :
    Calls Tryz.prog 49 #[.pointer (some ⟨b, 0, none⟩)] w fun e w' => e = .returned (.bool true) ∧ w.setCell ⟨b, 0, none⟩ (.int .i64 (l - 1)) = w' := by
  have h0 : (l == 0) = false := by simp; omega
  go_enter Tryz.func49, Tryz.ntmps49
  go_wp2
  go_ret
  exact ⟨rfl, rfl⟩
set_option maxHeartbeats 400000 in
theorem spend_neg (b : Nat) (l : Int) (w : World) (hc : w.cell? ⟨b, 0, none⟩ = some (.int .i64 l)) (hl : l < 0) :
    Calls Tryz.prog 49 #[.pointer (some ⟨b, 0, none⟩)] w fun e w' => e = .returned (.bool true) ∧ w = w' := by
  have h0 : (l == 0) = false := by simp; omega
  go_enter Tryz.func49, Tryz.ntmps49
  go_wp2
  go_ret
  exact ⟨rfl, rfl⟩
theorem Blk.set0 {w : World} {b : Nat} {t : TypeId} {v0 v : Value} {vs : List Value} (h : Blk w b t (v0 :: vs)) : Blk (w.setCell ⟨b, 0, none⟩ v) b t (v :: vs) := h.set 0 v
/-- whatever is left, but nothing: it is spent -/
theorem spend_some (b : Nat) (l : Int) (vs : List Value) (w : World) (hb : Blk w b 57 (.int .i64 l :: vs)) (hl : l ≠ 0) (hl2 : l ≤ 9223372036854775807) :
    Calls Tryz.prog 49 #[.pointer (some ⟨b, 0, none⟩)] w fun e w' => e = .returned (.bool true) ∧ Blk w' b 57 (.int .i64 (spendL l) :: vs) ∧ Chg [b] w w' := by
  by_cases h : 0 < l
  · refine (spend_pos b l w (hb.cell 0 rfl) h hl2 (hb.froz 0)).mono ?_
    rintro e w' ⟨rfl, rfl⟩
    refine ⟨rfl, ?_, Chg.setCell _ _ _ (by simp)⟩
    rw [spendL, if_pos h]; exact hb.set0
  · refine (spend_neg b l w (hb.cell 0 rfl) (by omega)).mono ?_
    rintro e w' ⟨rfl, rfl⟩
    refine ⟨rfl, ?_, Chg.refl _ _⟩
    rw [spendL, if_neg h]; exact hb
end Go.Proofs.YtdcafgpnomcbhaaGreatDoor
