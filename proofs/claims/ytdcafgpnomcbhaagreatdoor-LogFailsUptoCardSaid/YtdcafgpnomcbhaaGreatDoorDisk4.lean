/- (*Disk).Read, Flush, Sectors, Fail. -/
import Derived.Test.YtdcafgpnomcbhaaGreatDoorDisk3
namespace Go.Proofs.YtdcafgpnomcbhaaGreatDoor
open Go.RowKit
set_option linter.unusedVariables false

def DSt.flush (D : DSt) : DSt × Nat := if D.left = 0 then (D, 15) else ({ D with left := spendL D.left, kept := D.now, wait := [] }, 0)
def DSt.read (D : DSt) (i : Int) : ByteArray × Nat := if i < 0 ∨ (D.now.length : Int) ≤ i then (⟨#[]⟩, 2) else (D.now.getD i.toNat ⟨#[]⟩, 0)

set_option maxHeartbeats 400000 in
theorem dSectors_any (b : Nat) (w : World) (a : Option Addr) (m c : Nat) (hc : w.cell? ⟨b, 2, none⟩ = some (.slice a m c)) :
    Calls Tryz.prog 24 #[.pointer (some ⟨b, 0, none⟩)] w fun e w' => e = .returned (.int .i64 m) ∧ w = w' := by
  go_enter Tryz.func24, Tryz.ntmps24
  go_wp2
  go_ret
  exact ⟨rfl, rfl⟩

set_option maxHeartbeats 400000 in
theorem dRead_neg (B b : Nat) (E : Nat → Addr) (i : Int) (w : World) (hE : Env B E w) (h : i < 0) :
    Calls Tryz.prog 25 #[.pointer (some ⟨b, 0, none⟩), .int .i64 i] w fun e w' => e = .returned (.tuple #[.string ⟨#[]⟩, errv E 2]) ∧ w.drew = w' := by
  have hg := hE.glob (2, 0) (by simp [errTab])
  go_enter Tryz.func25, Tryz.ntmps25
  go_wp2
  go_region
  all_goals go_wp2
  all_goals go_ret2
  all_goals exact ⟨rfl, rfl⟩
set_option maxHeartbeats 400000 in
theorem dRead_far (B b : Nat) (E : Nat → Addr) (i : Int) (w : World) (hE : Env B E w) (a : Option Addr) (m c : Nat) (hc : w.cell? ⟨b, 2, none⟩ = some (.slice a m c)) (h0 : ¬ i < 0) (h : (m : Int) ≤ i) :
    Calls Tryz.prog 25 #[.pointer (some ⟨b, 0, none⟩), .int .i64 i] w fun e w' => e = .returned (.tuple #[.string ⟨#[]⟩, errv E 2]) ∧ w.drew = w' := by
  have hg := hE.glob (2, 0) (by simp [errTab])
  go_enter Tryz.func25, Tryz.ntmps25
  go_wp2
  go_region
  all_goals go_wp2
  all_goals go_ret2
  all_goals exact ⟨rfl, rfl⟩
set_option maxHeartbeats 400000 in
theorem dRead_in (b n c m : Nat) (i : Nat) (w : World) (s : ByteArray) (hc : w.cell? ⟨b, 2, none⟩ = some (.slice (some ⟨n, 0, none⟩) m c)) (h : (i : Int) < m) (hs : w.cell? ⟨n, i, none⟩ = some (.string s)) :
    Calls Tryz.prog 25 #[.pointer (some ⟨b, 0, none⟩), .int .i64 i] w fun e w' => e = .returned (.tuple #[.string s, .nilIface]) ∧ w = w' := by
  go_enter Tryz.func25, Tryz.ntmps25
  go_wp2
  go_ret2
  exact ⟨rfl, rfl⟩
theorem dRead_any (B b : Nat) (E : Nat → Addr) (F : List Nat) (D : DSt) (i : Int) (w : World) (hE : Env B E w) (hd : Disk B w b D F) (ok : D.Ok) :
    Calls Tryz.prog 25 #[.pointer (some ⟨b, 0, none⟩), .int .i64 i] w fun e w' => e = .returned (.tuple #[.string (D.read i).1, errv E (D.read i).2]) ∧ Chg [] w w' := by
  obtain ⟨k, n, kc, nc, wv, rfl, hB, hat⟩ := hd
  have c2 := hat.blk.cell 2 rfl
  unfold DSt.read
  by_cases h1 : i < 0
  · rw [if_pos (.inl h1)]
    refine (dRead_neg B b E i w hE h1).mono ?_
    rintro e w' ⟨rfl, rfl⟩
    exact ⟨rfl, Chg.drew _ _⟩
  by_cases h2 : (D.now.length : Int) ≤ i
  · rw [if_pos (.inr h2)]
    refine (dRead_far B b E i w hE _ _ _ c2 h1 h2).mono ?_
    rintro e w' ⟨rfl, rfl⟩
    exact ⟨rfl, Chg.drew _ _⟩
  rw [if_neg (by omega)]
  obtain ⟨j, rfl⟩ := Int.eq_ofNat_of_zero_le (by omega : 0 ≤ i)
  have hj : j < D.now.length := by omega
  refine (dRead_in b n nc _ j w D.now[j] c2 (by omega) (hat.now.cell j (by simp [hj]))).mono ?_
  rintro e w' ⟨rfl, rfl⟩
  exact ⟨by simp [hj, errv], Chg.refl _ _⟩

set_option maxHeartbeats 400000 in
theorem pFail_neg (B b : Nat) (E : Nat → Addr) (i : Int) (w : World) (hE : Env B E w) (h : i < 0) :
    Calls Tryz.prog 19 #[.pointer (some ⟨b, 0, none⟩), .int .i64 i] w fun e w' => e = .returned (errv E 2) ∧ w = w' := by
  have hg := hE.glob (2, 0) (by simp [errTab])
  go_enter Tryz.func19, Tryz.ntmps19
  go_wp2
  go_ret
  exact ⟨rfl, rfl⟩
set_option maxHeartbeats 400000 in
theorem pFail_in (b : Nat) (i : Int) (l : Value) (w : World) (h : ¬ i < 0) (hc : w.cell? ⟨b, 0, none⟩ = some l) (hf : w.frozen? ⟨b, 0, none⟩ = false) :
    Calls Tryz.prog 19 #[.pointer (some ⟨b, 0, none⟩), .int .i64 i] w fun e w' => e = .returned .nilIface ∧ w.setCell ⟨b, 0, none⟩ (.int .i64 i) = w' := by
  go_enter Tryz.func19, Tryz.ntmps19
  go_wp2
  go_ret
  exact ⟨rfl, rfl⟩
def DSt.fail (D : DSt) (i : Int) : DSt × Nat := if i < 0 then (D, 2) else ({ D with left := i }, 0)
theorem Disk.left {B b : Nat} {F : List Nat} {D : DSt} {w : World} (hd : Disk B w b D F) (l : Int) : Disk B (w.setCell ⟨b, 0, none⟩ (.int .i64 l)) b { D with left := l } F := by
  obtain ⟨k, n, kc, nc, wv, rfl, hB, h⟩ := hd
  have hbk := h.nbk
  have hbn := h.nbn
  exact ⟨k, n, kc, nc, wv, rfl, hB, h.blk.set0, h.kept.set_ne _ _ (by intro x hx; cases hx; simp; omega), h.now.set_ne _ _ (by intro x hx; cases hx; simp; omega),
    h.wait.set_ne _ _ (by intro x hx; exact (h.nbw x hx).1), h.nbk, h.nbn, h.nkn, h.nbw⟩
theorem Disk.mem {B b : Nat} {F : List Nat} {D : DSt} {w : World} (hd : Disk B w b D F) : b ∈ F := by
  obtain ⟨k, n, kc, nc, wv, rfl, hB, h⟩ := hd
  simp
theorem pFail_any (B b : Nat) (E : Nat → Addr) (F : List Nat) (D : DSt) (i : Int) (w : World) (hE : Env B E w) (hd : Disk B w b D F) :
    Calls Tryz.prog 19 #[.pointer (some ⟨b, 0, none⟩), .int .i64 i] w fun e w' => DPost B b F w (D.fail i).1 (errv E (D.fail i).2) e w' := by
  unfold DSt.fail
  by_cases h1 : i < 0
  · rw [if_pos h1]
    refine (pFail_neg B b E i w hE h1).mono ?_
    rintro e w' ⟨rfl, rfl⟩
    exact DPost.same hd
  · rw [if_neg h1]
    have hd' := hd
    obtain ⟨k, n, kc, nc, wv, rfl, hB, h⟩ := hd'
    refine (pFail_in b i _ w h1 (h.blk.cell 0 rfl) (h.blk.froz 0)).mono ?_
    rintro e w' ⟨rfl, rfl⟩
    exact ⟨rfl, _, hd.left i, Chg.setCell _ _ _ (by simp), fun x hx => .inl hx⟩

set_option maxHeartbeats 400000 in
theorem dFlush_dead (B b : Nat) (E : Nat → Addr) (w : World) (hE : Env B E w) (hl : w.cell? ⟨b, 0, none⟩ = some (.int .i64 0)) :
    Calls Tryz.prog 34 #[.pointer (some ⟨b, 0, none⟩)] w fun e w' => e = .returned (errv E 15) ∧ w = w' := by
  have hg := hE.glob (15, 3) (by simp [errTab])
  go_enter Tryz.func34, Tryz.ntmps34
  go_wp2_with (go_at_call 49; refine (spend_zero _ _ hl).mono ?_; rintro e w' ⟨rfl, rfl⟩)
  go_ret
  exact ⟨rfl, rfl⟩
/-- slices.Clone of a slice of texts that owns its cells, not empty. -/
theorem clone_row (g n c : Nat) (l : List ByteArray) (w : World) (h : Row w 9 1 (.slice (some ⟨g, 0, none⟩) n c) n (l.map .string)) (hn : 0 < n) (hb : n ≤ 1000000) :
    Calls Tryz.prog 23 #[.slice (some ⟨g, 0, none⟩) n c] w fun e w' => ∃ g' c', e = .returned (.slice (some ⟨g', 0, none⟩) n c') ∧ Row w' 9 1 (.slice (some ⟨g', 0, none⟩) n c') n (l.map .string) ∧ w.heap.size ≤ g' ∧ Below w.heap.size w w' := by
  have hl : l.length = n := by simpa using h.1
  refine (Tryz.slices_Clone_string g 0 n c l w (by omega) (by omega) ?_).mono ?_
  · intro j hj
    rw [Nat.zero_add]
    exact h.cell j (by simp [hj])
  · rintro e w' ⟨v', rfl, ho, hne, hb'⟩
    rw [List.take_of_length_le (by omega)] at ho
    have hr := Row.of ho
    obtain ⟨g', c', rfl, h1, h2⟩ := hr.pos hn
    exact ⟨g', c', rfl, hr, (World.ownsRow.lt ho g' rfl).1, hb'⟩
end Go.Proofs.YtdcafgpnomcbhaaGreatDoor
