/- log.headOf as one function; what log.Open chooses. -/
import Derived.Test.YtdcafgpnomcbhaaGreatDoorRecords
namespace Go.Proofs.YtdcafgpnomcbhaaGreatDoor
open Go.RowKit
set_option linter.unusedVariables false

def headF (l : List UInt8) : Option (Nat × Nat × Nat) :=
  match partAt l 0, partAt l 1, partAt l 2 with
  | some a, some b, some c => if ((bs (Lib.trimRightB l 0)).toList == (bs (headL a b c)).toList && decide ((b : Int) < 2)) = true then some (a, b, c) else none
  | _, _, _ => none
theorem partAt_lt {l : List UInt8} {j n : Nat} (h : partAt l j = some n) : n < 10 ^ 10 := natOf_lt h (by simp; omega)
theorem headF_lt {l : List UInt8} {a b c : Nat} (h : headF l = some (a, b, c)) : a < 10 ^ 10 ∧ b < 2 ∧ c < 10 ^ 10 := by
  unfold headF at h
  split at h
  · rename_i x y z hx hy hz
    split at h
    · rename_i ht
      cases h
      simp at ht
      exact ⟨partAt_lt hx, by omega, partAt_lt hz⟩
    · cases h
  · cases h
theorem headOf_any (B : Nat) (E : Nat → Addr) (s : ByteArray) (w : World) (hE : Env B E w) (hs : s.size = 64) :
    Calls Tryz.prog 26 #[.string s] w fun e w' => ∃ (x y z : Int) (ok : Bool), e = .returned (.tuple #[.int .i64 x, .int .i64 y, .int .i64 z, .bool ok]) ∧ Below w.heap.size w w' ∧
      ((headF s.data.toList = none ∧ ok = false) ∨ ∃ a b c : Nat, headF s.data.toList = some (a, b, c) ∧ ok = true ∧ x = a ∧ y = b ∧ z = c) := by
  cases h0 : partAt s.data.toList 0 with
  | none =>
    refine (headOf_bad0 B E s w hE hs h0).mono ?_
    rintro e w' ⟨rfl, hb⟩
    exact ⟨_, _, _, _, rfl, hb, .inl ⟨by simp [headF, h0], rfl⟩⟩
  | some a =>
    cases h1 : partAt s.data.toList 1 with
    | none =>
      refine (headOf_bad1 B E s w hE hs a h0 h1).mono ?_
      rintro e w' ⟨rfl, hb⟩
      exact ⟨_, _, _, _, rfl, hb, .inl ⟨by simp [headF, h0, h1], rfl⟩⟩
    | some b =>
      cases h2 : partAt s.data.toList 2 with
      | none =>
        refine (headOf_bad2 B E s w hE hs a h0 b h1 h2).mono ?_
        rintro e w' ⟨rfl, hb⟩
        exact ⟨_, _, _, _, rfl, hb, .inl ⟨by simp [headF, h0, h1, h2], rfl⟩⟩
      | some c =>
        refine (headOf_some B E s w hE hs a b c h0 h1 h2 _ _ rfl rfl _ rfl).mono ?_
        rintro e w' ⟨rfl, hb⟩
        refine ⟨_, _, _, _, rfl, hb, ?_⟩
        cases hq : ((bs (Lib.trimRightB s.data.toList 0)).toList == (bs (headL a b c)).toList && decide ((b : Int) < 2)) with
        | false =>
          refine .inl ⟨?_, rfl⟩
          unfold headF
          rw [h0, h1, h2]
          simp only [hq]
          rfl
        | true =>
          refine .inr ⟨a, b, c, ?_, rfl, rfl, rfl, rfl⟩
          unfold headF
          rw [h0, h1, h2]
          simp only [hq]
          rfl

/-- sectors of a half -/
def hN (m : Nat) : Nat := (m - 2) / 2
theorem hN_eq (m : Nat) (h : 0 < m) : ((m : Int) - 2).tdiv 2 = (hN m : Int) := by
  unfold hN
  by_cases h2 : 2 ≤ m
  · rw [show ((m : Int) - 2) = ((m - 2 : Nat) : Int) by omega, Int.tdiv_eq_ediv_of_nonneg (by omega)]; omega
  · rw [show m = 1 by omega]; rfl
def better (H : Nat) (best : Option (Nat × Nat × Nat)) (l : List UInt8) : Option (Nat × Nat × Nat) :=
  match headF l with
  | none => best
  | some x => if x.2.2 % 64 = 0 ∧ x.2.2 ≤ H * 64 ∧ (best.all fun y => decide (y.1 < x.1)) = true then some x else best
def bestF (D : DSt) (j : Nat) : Option (Nat × Nat × Nat) := (D.now.take j).foldl (fun b s => better (hN D.now.length) b s.data.toList) none
theorem bestF_succ (D : DSt) (j : Nat) (h : j < D.now.length) : bestF D (j + 1) = better (hN D.now.length) (bestF D j) D.now[j].data.toList := by
  unfold bestF
  rw [List.take_succ_eq_append_getElem h, List.foldl_append]
  rfl
def dataF (D : DSt) (b n : Nat) : List UInt8 := ((D.now.drop (2 + b * hN D.now.length)).take n).flatMap fun s => s.data.toList
theorem dataF_succ (D : DSt) (b n : Nat) (h : 2 + b * hN D.now.length + n < D.now.length) : dataF D b (n + 1) = dataF D b n ++ D.now[2 + b * hN D.now.length + n].data.toList := by
  unfold dataF
  rw [List.take_succ_eq_append_getElem (by simp; omega), List.flatMap_append]
  simp
def openF (D : DSt) : Option ((Nat × Nat × Nat) × List (List UInt8)) :=
  match bestF D (min 2 D.now.length) with
  | none => none
  | some x => (parse (dataF D x.2.1 (x.2.2 / 64))).map fun l => (x, l)
def GoodHead (H : Nat) (x : Option (Nat × Nat × Nat)) : Prop := ∀ a b c, x = some (a, b, c) → a < 10 ^ 10 ∧ b < 2 ∧ c % 64 = 0 ∧ c ≤ H * 64
theorem GoodHead.none (H : Nat) : GoodHead H none := by intro a b c h; cases h
theorem GoodHead.better {H : Nat} {x : Option (Nat × Nat × Nat)} (h : GoodHead H x) (l : List UInt8) : GoodHead H (better H x l) := by
  unfold Go.Proofs.YtdcafgpnomcbhaaGreatDoor.better
  split
  · exact h
  · rename_i y hy
    split
    · rename_i hc
      intro a b c he
      cases he
      have := headF_lt hy
      exact ⟨this.1, this.2.1, hc.1, hc.2.1⟩
    · exact h
theorem bestF_good (D : DSt) (j : Nat) : GoodHead (hN D.now.length) (bestF D j) := by
  unfold bestF
  generalize List.take j D.now = l
  have : ∀ (l : List ByteArray) x, GoodHead (hN D.now.length) x → GoodHead (hN D.now.length) (l.foldl (fun b s => better (hN D.now.length) b s.data.toList) x) := by
    intro l
    induction l with
    | nil => intro x h; exact h
    | cons s l ih => intro x h; exact ih _ (h.better _)
  exact this l _ (GoodHead.none _)
/-- every sector is whole -/
structure DSt.Full (D : DSt) : Prop where
  now : ∀ s ∈ D.now, s.size = 64
  kept : ∀ s ∈ D.kept, s.size = 64
  wait : ∀ p ∈ D.wait, p.2.size = 64 ∧ p.1 < D.now.length
def LogBlk (w : World) (g d : Nat) (x : Nat × Nat × Nat) (lost : Bool) : Prop := Blk w g 70 [.pointer (some ⟨d, 0, none⟩), .int .i64 x.1, .int .i64 x.2.1, .int .i64 x.2.2, .bool lost]
def BestAt (w : World) (B0 d : Nat) (v : Value) : Option (Nat × Nat × Nat) → Prop
  | none => v = .pointer none
  | some x => ∃ g, v = .pointer (some ⟨g, 0, none⟩) ∧ B0 ≤ g ∧ LogBlk w g d x false
theorem BestAt.chg {w w' : World} {B0 d : Nat} {v : Value} {x : Option (Nat × Nat × Nat)} (h : BestAt w B0 d v x) (hc : Chg [] w w') : BestAt w' B0 d v x := by
  cases x with
  | none => exact h
  | some x => obtain ⟨g, h1, h2, h3⟩ := h; exact ⟨g, h1, h2, h3.chg hc (by simp)⟩
end Go.Proofs.YtdcafgpnomcbhaaGreatDoor
