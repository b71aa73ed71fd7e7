/- Base: what a call may change in memory, whole blocks, rows of values, and the package's error values. -/
import Derived.Test.YtdcafgpnomcbhaaGreatDoorProg
import Derived.WalkKit
import Derived.WalkSpells
import Derived.WalkLawsBesides
namespace Go.Proofs.YtdcafgpnomcbhaaGreatDoor
open Go.RowKit
set_option linter.unusedVariables false

/-- Only the blocks of S, and new ones, may have changed. -/
structure Chg (S : List Nat) (w w' : World) : Prop where
  os : w'.os = w.os
  tape : w'.tape = w.tape
  output : w'.output = w.output
  size : w.heap.size ≤ w'.heap.size
  block : ∀ k, k < w.heap.size → k ∉ S → w'.heap[k]? = w.heap[k]?

theorem Chg.refl (S : List Nat) (w : World) : Chg S w w := ⟨rfl, rfl, rfl, Nat.le_refl _, fun _ _ _ => rfl⟩
theorem Chg.trans {S T : List Nat} {a b c : World} (h : Chg S a b) (k : Chg T b c) (hT : ∀ x ∈ T, x ∈ S ∨ a.heap.size ≤ x) : Chg S a c :=
  ⟨k.os.trans h.os, k.tape.trans h.tape, k.output.trans h.output, Nat.le_trans h.size k.size, fun i hi hn =>
    (k.block i (Nat.lt_of_lt_of_le hi h.size) (fun hm => (hT i hm).elim hn (fun hl => by omega))).trans (h.block i hi hn)⟩
theorem Chg.mono {S T : List Nat} {a b : World} (h : Chg S a b) (hS : ∀ x ∈ S, x ∈ T ∨ a.heap.size ≤ x) : Chg T a b :=
  ⟨h.os, h.tape, h.output, h.size, fun i hi hn => h.block i hi (fun hm => (hS i hm).elim hn (fun hl => by omega))⟩
theorem Chg.of_below {w w' : World} (h : Below w.heap.size w w') (S : List Nat) : Chg S w w' := ⟨h.os, h.tape, h.output, h.size, fun k hk _ => h.block k hk⟩
theorem Chg.of_grown {w w' : World} {row : Option Nat} (h : w.grownBy w' row) : Chg row.toList w w' :=
  ⟨h.os, h.tape, h.output, h.size, fun k hk hn => h.block k hk (by rintro rfl; exact hn (by simp))⟩
theorem Chg.alloc (S : List Nat) (w : World) (o : Obj) : Chg S w (w.alloc o) := ⟨rfl, rfl, rfl, by simp, fun k hk _ => Below.heap_alloc _ _ _ hk⟩
theorem Chg.drew (S : List Nat) (w : World) : Chg S w w.drew := ⟨rfl, rfl, rfl, Nat.le_refl _, fun _ _ _ => rfl⟩
theorem Chg.drewN (S : List Nat) (w : World) (n : Nat) : Chg S w (w.drewN n) := ⟨rfl, rfl, rfl, Nat.le_refl _, fun _ _ _ => rfl⟩
theorem Chg.setCell {S : List Nat} (w : World) (a : Addr) (v : Value) (h : a.block ∈ S ∨ w.heap.size ≤ a.block) : Chg S w (w.setCell a v) :=
  ⟨rfl, rfl, rfl, by simp [World.setCell], fun k hk hn => Below.heap_setCell _ _ _ _ (by rintro rfl; exact h.elim hn (fun hl => by omega))⟩
theorem Chg.below {S : List Nat} {B : Nat} {w w' : World} (h : Chg S w w') (hS : ∀ x ∈ S, B ≤ x) (hB : B ≤ w.heap.size) : Below B w w' :=
  ⟨h.os, h.tape, h.output, h.size, fun k hk => h.block k (by omega) (fun hm => by have := hS k hm; omega)⟩
theorem Chg.cell {S : List Nat} {w w' : World} (h : Chg S w w') {p : Addr} {v : Value} (hc : w.cell? p = some v) (hn : p.block ∉ S) : w'.cell? p = some v :=
  (World.cell?_of_block (h.block p.block (World.block_lt_of_cell? w p hc) hn)).trans hc

/-- Block b is just this row of cells; nothing of it is frozen. -/
def Blk (w : World) (b : Nat) (t : TypeId) (vs : List Value) : Prop := w.heap[b]? = some (.cells vs.toArray t (0, 0))
theorem Blk.lt {w : World} {b : Nat} {t : TypeId} {vs : List Value} (h : Blk w b t vs) : b < w.heap.size := (Array.getElem?_eq_some_iff.1 h).1
theorem Blk.cell {w : World} {b : Nat} {t : TypeId} {vs : List Value} (h : Blk w b t vs) (i : Nat) {v : Value} (hv : vs[i]? = some v) : w.cell? ⟨b, i, none⟩ = some v := by
  rw [cell_of_row w b i _ t _ h]; simpa using hv
theorem Blk.froz {w : World} {b : Nat} {t : TypeId} {vs : List Value} (h : Blk w b t vs) (i : Nat) : w.frozen? ⟨b, i, none⟩ = false := by
  unfold World.frozen?; rw [show w.heap[b]? = _ from h]; simp
theorem Blk.chg {w w' : World} {b : Nat} {t : TypeId} {vs : List Value} {S : List Nat} (h : Blk w b t vs) (hc : Chg S w w') (hn : b ∉ S) : Blk w' b t vs :=
  (hc.block b h.lt hn).trans h
theorem Blk.new (w : World) (t : TypeId) (vs : List Value) : Blk (w.alloc (.cells vs.toArray t)) w.heap.size t vs := heap_alloc_new w _
theorem Blk.set {w : World} {b : Nat} {t : TypeId} {vs : List Value} (h : Blk w b t vs) (i : Nat) (v : Value) : Blk (w.setCell ⟨b, i, none⟩ v) b t (vs.set i v) := by
  have h' : w.heap[b]? = some (.cells vs.toArray t (0, 0)) := h
  unfold Blk World.setCell
  simp [Array.getElem?_modify, h']
theorem Blk.set_ne {w : World} {b : Nat} {t : TypeId} {vs : List Value} (h : Blk w b t vs) (a : Addr) (v : Value) (hn : b ≠ a.block) : Blk (w.setCell a v) b t vs :=
  (Below.heap_setCell _ _ _ _ hn).trans h
theorem Blk.alloc {w : World} {b : Nat} {t : TypeId} {vs : List Value} (h : Blk w b t vs) (o : Obj) : Blk (w.alloc o) b t vs :=
  (Below.heap_alloc _ _ _ h.lt).trans h

/-- A slice value that owns its cells (base 0: wherever it lies). -/
def Row (w : World) (e : TypeId) (size : Nat) (v : Value) (n : Nat) (xs : List Value) : Prop := w.ownsRow 0 e size v n xs
theorem Row.chg {w w' : World} {e size n : Nat} {v : Value} {xs : List Value} {S : List Nat} (h : Row w e size v n xs) (hc : Chg S w w') (hn : ∀ k, v.ownBlock = some k → k ∉ S) : Row w' e size v n xs := by
  refine ⟨h.1, ?_⟩
  rcases h.2 with h2 | ⟨g, cap, cur, hv, hg, hh, r⟩
  · exact .inl h2
  · subst hv
    exact .inr ⟨g, cap, cur, rfl, hg, (hc.block g (Array.getElem?_eq_some_iff.1 hh).1 (hn g rfl)).trans hh, r⟩
theorem Row.lt {w : World} {e size n : Nat} {v : Value} {xs : List Value} (h : Row w e size v n xs) (k : Nat) (hk : v.ownBlock = some k) : k < w.heap.size := (World.ownsRow.lt h k hk).2
/-- Where it is not empty it is a slice over a block. -/
theorem Row.pos {w : World} {e size n : Nat} {v : Value} {xs : List Value} (h : Row w e size v n xs) (hn : 0 < n) : ∃ g cap, v = .slice (some ⟨g, 0, none⟩) n cap ∧ n ≤ cap ∧ cap ≤ maxLen := by
  rcases h.2 with ⟨_, h2⟩ | ⟨g, cap, cur, hv, hg, hh, h1, h2, r⟩
  · omega
  · exact ⟨g, cap, hv, h1, h2⟩
theorem Row.len {w : World} {e size n : Nat} {v : Value} {xs : List Value} (h : Row w e size v n xs) : ∃ a cap, v = .slice a n cap ∧ n ≤ cap ∧ cap ≤ maxLen := by
  rcases h.2 with ⟨h1, h2⟩ | ⟨g, cap, cur, hv, hg, hh, h1, h2, r⟩
  · exact ⟨none, 0, by rw [h1, h2], by omega, by simp [maxLen]⟩
  · exact ⟨_, cap, hv, h1, h2⟩
theorem Row.cell {w : World} {e size n g cap : Nat} {xs : List Value} (h : Row w e size (.slice (some ⟨g, 0, none⟩) n cap) n xs) (j : Nat) {u : Value} (hu : xs[j]? = some u) : w.cell? ⟨g, j, none⟩ = some u := by
  have := World.ownsRow.cells h rfl j u hu
  rwa [Addr.add_lit, Nat.zero_add] at this
theorem Row.froz {w : World} {e size n g cap : Nat} {xs : List Value} (h : Row w e size (.slice (some ⟨g, 0, none⟩) n cap) n xs) (j : Nat) : w.frozen? ⟨g, j, none⟩ = false := by
  rcases h.2 with ⟨h1, _⟩ | ⟨g', cap, cur, hv, hg, hh, _⟩
  · cases h1
  · cases hv
    unfold World.frozen?; simp [hh]
theorem Row.set {w : World} {e size n g cap : Nat} {xs : List Value} (h : Row w e size (.slice (some ⟨g, 0, none⟩) n cap) n xs) (j : Nat) (u : Value) (hj : j < n * size) : Row (w.setCell ⟨g, j, none⟩ u) e size (.slice (some ⟨g, 0, none⟩) n cap) n (xs.set j u) := by
  rcases h.2 with ⟨h1, _⟩ | ⟨g', cap, cur, hv, hg, hh, h1, h2, h3, h4⟩
  · cases h1
  · cases hv
    refine ⟨by simp [h.1], .inr ⟨g, cap, cur.setIfInBounds j u, rfl, Nat.zero_le _, ?_, h1, h2, by simpa using h3, ?_⟩⟩
    · unfold World.setCell; simp [Array.getElem?_modify, hh]
    · rw [← h4]; simp [List.take_set]
theorem Row.nil (w : World) (e size : Nat) : Row w e size (.slice none 0 0) 0 [] := World.ownsRow_nil w 0 e size
theorem Row.of {w : World} {B e size n : Nat} {v : Value} {xs : List Value} (h : w.ownsRow B e size v n xs) : Row w e size v n xs := by
  refine ⟨h.1, ?_⟩
  rcases h.2 with h2 | ⟨g, cap, cur, hv, hg, r⟩
  · exact .inl h2
  · exact .inr ⟨g, cap, cur, hv, Nat.zero_le _, r⟩
theorem Row.to {w : World} {B e size n : Nat} {v : Value} {xs : List Value} (h : Row w e size v n xs) (hB : ∀ k, v.ownBlock = some k → B ≤ k) : w.ownsRow B e size v n xs := by
  refine ⟨h.1, ?_⟩
  rcases h.2 with h2 | ⟨g, cap, cur, hv, hg, r⟩
  · exact .inl h2
  · exact .inr ⟨g, cap, cur, hv, hB g (by rw [hv]; rfl), r⟩
theorem Row.set_ne {w : World} {e size n : Nat} {v : Value} {xs : List Value} (h : Row w e size v n xs) (a : Addr) (u : Value) (hn : ∀ k, v.ownBlock = some k → k ≠ a.block) : Row (w.setCell a u) e size v n xs :=
  h.chg (Chg.setCell (S := [a.block]) w a u (by simp)) (by intro k hk; simpa using hn k hk)
theorem Row.alloc {w : World} {e size n : Nat} {v : Value} {xs : List Value} (h : Row w e size v n xs) (o : Obj) : Row (w.alloc o) e size v n xs := h.chg (Chg.alloc [] w o) (by simp)
theorem cell_set_ne {w : World} {a b : Addr} {u : Value} (v : Value) (h : w.cell? b = some u) (hn : b.block ≠ a.block) : (w.setCell a v).cell? b = some u :=
  (Chg.setCell (S := [a.block]) w a v (by simp)).cell h (by simpa using hn)
theorem Row.drew {w : World} {e size n : Nat} {v : Value} {xs : List Value} (h : Row w e size v n xs) : Row w.drew e size v n xs := h.chg (Chg.drew [] w) (by simp)
theorem _root_.Go.Calls.same {P : Program} {f : FuncId} {a : Array Value} {w : World} {X : Ending} (h : Calls P f a w fun e w' => e = X ∧ w' = w) : Calls P f a w fun e w' => e = X ∧ w = w' :=
  h.mono fun _ _ ⟨a, b⟩ => ⟨a, b.symm⟩
theorem cells_new (w : World) (cs : List Value) (t : TypeId) : ∀ j u, cs[j]? = some u → (w.alloc (.cells cs.toArray t)).cell? ((⟨w.heap.size, 0, none⟩ : Addr).add j) = some u := by
  intro j u hu
  rw [Addr.add_lit, Nat.zero_add, World.cell?_alloc_new]
  simpa using hu
theorem setCell_size (w : World) (a : Addr) (v : Value) : (w.setCell a v).heap.size = w.heap.size := by simp [World.setCell]
end Go.Proofs.YtdcafgpnomcbhaaGreatDoor
