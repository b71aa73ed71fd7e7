/- What came in, opened: texts, bools, records, acts; how long they may be. -/
import Derived.Test.YtdcafgpnomcbhaaGreatDoorBounds
import Derived.Test.YtdcafgpnomcbhaaGreatDoorRows
import Derived.Deep.Strs
import Derived.Deep.Slices
import Derived.Deep.Fields
import Derived.ChangeSame
import Derived.ProofKit
import Derived.OpenShut
namespace Go.Proofs.YtdcafgpnomcbhaaGreatDoor
open Go.RowKit Go.ChangeShapes Go.WideShapes Go.Deep
set_option linter.unusedVariables false

theorem add_off (a : Addr) (n : Nat) : (a.add n).block = a.block ∧ (a.add n).off = a.off + n := by
  unfold Addr.add; split
  · rename_i h; subst h; exact ⟨rfl, rfl⟩
  · exact ⟨rfl, rfl⟩
theorem add_pos (a : Addr) (n k : Nat) (h : 0 < k) : a.add (n + k) = ⟨(a.add n).block, (a.add n).off + k, none⟩ := by
  rw [(add_off a n).1, (add_off a n).2]
  unfold Addr.add; rw [if_neg (by omega)]; rw [Nat.add_assoc]
theorem bulk_one {H : Type} (d : DataW H) : 1 ≤ Rows.uptoBulk d := by
  cases d with
  | lit l => cases l <;> simp [Rows.uptoBulk]
  | nil => simp [Rows.uptoBulk]
  | ptr d => simp [Rows.uptoBulk]
  | slice elems spare => simp [Rows.uptoBulk]
  | agg parts => simp [Rows.uptoBulk]
  | iface t d => simp [Rows.uptoBulk]
  | map entries => simp [Rows.uptoBulk]
  | held h => simp [Rows.uptoBulk]
theorem bulk_part {H : Type} {d : DataW H} {l : List (DataW H)} (h : d ∈ l) : Rows.uptoBulk d ≤ Rows.uptoBulkAll l := by
  induction l with
  | nil => cases h
  | cons x r ih =>
    simp only [Rows.uptoBulkAll]
    cases List.mem_cons.1 h with
    | inl e => subst e; omega
    | inr e => have := ih e; omega
theorem bulk_len {H : Type} (l : List (DataW H)) : l.length ≤ Rows.uptoBulkAll l := by
  induction l with
  | nil => simp [Rows.uptoBulkAll]
  | cons x r ih => have := bulk_one x; simp only [Rows.uptoBulkAll, List.length_cons]; omega
theorem bulk_slice {H : Type} (elems spare : List (DataW H)) : Rows.uptoBulkAll elems + 1 ≤ Rows.uptoBulk (.slice elems spare) := by
  simp only [Rows.uptoBulk]; omega
/-- so many letters, and one a text -/
def sizeT : List ByteArray → Nat
  | [] => 0
  | a :: l => (a.size + 1) + sizeT l
theorem sizeT_word (l : List ByteArray) : wordT l ≤ sizeT l := by
  induction l with
  | nil => simp [sizeT, wordT]
  | cons x l ih => simp only [sizeT, wordT]; omega
theorem sizeT_len (l : List ByteArray) : l.length ≤ sizeT l := by
  induction l with
  | nil => simp
  | cons x l ih => simp only [sizeT, List.length_cons]; omega
theorem sizeT_mem {l : List ByteArray} {s : ByteArray} (h : s ∈ l) : s.size ≤ sizeT l := by
  induction l with
  | nil => cases h
  | cons x l ih =>
    rcases List.mem_cons.1 h with rfl | h
    · rw [sizeT]; omega
    · have := ih h; rw [sizeT]; omega
theorem sizeT_bulk {H : Type} (l : List ByteArray) : Rows.uptoBulkAll (l.map fun s => (DataW.lit (.string s.data.toList) : DataW H)) = sizeT l := by
  induction l with
  | nil => simp [sizeT, Rows.uptoBulkAll]
  | cons x l ih => simp only [List.map_cons, Rows.uptoBulkAll, Rows.uptoBulk, ih, sizeT, list_len]

theorem range_at {n i j : Nat} (h : (List.range n)[j]? = some i) : j < n ∧ j = i := by
  obtain ⟨h1, h2⟩ := List.getElem?_eq_some_iff.1 h
  simp at h1 h2
  exact ⟨h1, h2⟩
theorem bulkN_le {H : Type} {R : Nat → ActT} {D : Nat → DataW H} : ∀ (is : List Nat), (∀ i ∈ is, bulkA (R i) ≤ Rows.uptoBulk (D i)) → bulkN (is.map R) ≤ Rows.uptoBulkAll (is.map D)
  | [], _ => by simp [bulkN]
  | i :: is, h => by
    have h1 := h i (by simp)
    have h2 := bulkN_le is (fun j hj => h j (by simp [hj]))
    simp only [List.map_cons, bulkN, Rows.uptoBulkAll]
    omega
theorem wordN_le {H : Type} {R : Nat → RecT} {D : Nat → DataW H} : ∀ (is : List Nat), (∀ i ∈ is, 5 + wordT (R i).l ≤ 5 * Rows.uptoBulk (D i)) → wordN (is.map R) ≤ 5 * Rows.uptoBulkAll (is.map D)
  | [], _ => by simp [wordN]
  | i :: is, h => by
    have h1 := h i (by simp)
    have h2 := wordN_le is (fun j hj => h j (by simp [hj]))
    simp only [List.map_cons, wordN, Rows.uptoBulkAll]
    omega
instance : Inhabited ActT := ⟨⟨⟨#[]⟩, 0, ⟨#[]⟩, []⟩⟩
instance : Inhabited RecT := ⟨⟨false, []⟩⟩

section
variable {H : Type} {enc : TypeId × Value → H} {w : World} {base : Nat} {spare : Nat → Bool} {held : Bool}
variable {P : Program}
theorem open_slice_fields {t e : TypeId} {fs : Array Field} {fuel : Nat} {cs : List Value} {x : DataW H × List MemPlace} (ht : P.underlying t = some (.slice e)) (he : P.underlying e = some (.struct fs))
    (hone : oneCellFields P fs = true) (hC : P.cellsOf e = fs.size) (h : DataW.trod enc P w base spare held fuel t cs = some x) :
    (cs = [.slice none 0 0] ∧ x = (.nil, [])) ∨
    ∃ (a : Addr) (len cap m : Nat) (D : Nat → DataW H) (Pl : Nat → List MemPlace), cs = [.slice (some a) len cap] ∧ base ≤ a.block ∧ len ≤ cap ∧ cap ≤ maxLen ∧ m = (if spare a.block then cap else len) ∧
      x = (.slice ((List.range len).map D) ((List.range (m - len)).map fun j => D (len + j)), MemPlace.row a (m * fs.size) ++ (List.range m).flatMap Pl) ∧
      ∀ i, i < m → ∃ (ys : List (DataW H × List MemPlace)) (n : Nat), D i = .agg (ys.map (·.1)) ∧ Pl i = ys.flatMap (·.2) ∧ ys.length = fs.size ∧
        ∀ (j : Nat) (f : Field), fs[j]? = some f → ∃ (v : Value) (y : DataW H × List MemPlace), w.cell? (a.add (i * fs.size + j)) = some v ∧ ys[j]? = some y ∧ DataW.trod enc P w base spare held n f.type [v] = some y := by
  rcases open_slice ht h with h0 | ⟨a, len, cap, m, n, D, Pl, hcs, hb, hl, hm, hmm, hx, hi⟩
  · exact .inl h0
  · refine .inr ⟨a, len, cap, m, D, Pl, hcs, hb, hl, hm, hmm, by rw [hC] at hx; exact hx, fun i him => ?_⟩
    obtain ⟨cs', hc, ht'⟩ := hi i him
    rw [hC] at hc
    obtain ⟨ys, n', hn', hy, hlen, hyl, hf⟩ := DataW.trod_struct he ht'
    obtain ⟨_, hcl, hat⟩ := World.cells?_some hc
    simp only [Prod.mk.injEq] at hy
    refine ⟨ys, n', hy.1, hy.2, hyl, fun j f hj => ?_⟩
    obtain ⟨ho, hk⟩ := hone_of hone j f hj
    have hjl : j < fs.size := (Array.getElem?_eq_some_iff.1 hj).1
    have hcell := hat j hjl
    have hv : cs'[j]? = some (cs'[j]'(by omega)) := List.getElem?_eq_getElem (by omega)
    have h1 := hf j f hj
    rw [ho, hk] at h1
    have hone' : (cs'.drop j).take 1 = [cs'[j]'(by omega)] := by
      rw [List.drop_eq_getElem_cons (by omega)]
      rfl
    rw [hone'] at h1
    have hys : ys[j]? = some (ys[j]'(by omega)) := List.getElem?_eq_getElem (by omega)
    refine ⟨_, _, ?_, hys, h1.trans hys⟩
    rw [← Go.Deep.add_add, hcell, hv]

/-- texts -/
theorem texts_of_trod {fuel : Nat} {v : Value} {y : DataW H × List MemPlace} (h : DataW.trod enc Tryz.prog w base spare held fuel 31 [v] = some y) :
    ∃ l, TextsG w v l ∧ sizeT l ≤ Rows.uptoBulk y.1 := by
  rcases open_strs Tryz.underlying31 Tryz.underlying9 (by kernel_rfl) h with ⟨hcs, hx⟩ | ⟨a, len, cap, m, Sx, hcs, _, hl, hm, hmm, hx, hc⟩
  · obtain rfl : v = .slice none 0 0 := by simpa using hcs
    exact ⟨[], .inl ⟨rfl, rfl⟩, by simp [sizeT]⟩
  · obtain rfl : v = .slice (some a) len cap := by simpa using hcs
    subst hx
    dsimp only
    have hlm : len ≤ m := by rw [hmm]; split <;> omega
    refine ⟨(List.range len).map Sx, .inr ⟨a, cap, by simp, by simpa using hl, hm, fun j s hj => ?_⟩, ?_⟩
    · rw [List.getElem?_map] at hj
      obtain ⟨i, hi, rfl⟩ := Option.map_eq_some_iff.1 hj
      obtain ⟨hi1, rfl⟩ := range_at hi
      exact (hc j (by omega)).1
    · refine Nat.le_trans ?_ (Nat.le_trans (Nat.le_succ _) (bulk_slice _ _))
      rw [← sizeT_bulk (H := H), List.map_map]
      exact Nat.le_refl _
/-- bools -/
theorem bools_of_trod {fuel : Nat} {v : Value} {y : DataW H × List MemPlace} (h : DataW.trod enc Tryz.prog w base spare held fuel 38 [v] = some y) :
    ∃ l, BoolsG w v l ∧ l.length ≤ Rows.uptoBulk y.1 := by
  rcases open_slice1 Tryz.underlying38 (by kernel_rfl) h with ⟨hcs, hx⟩ | ⟨a, len, cap, m, n, V, D, Pl, hcs, _, hl, hm, hmm, hx, hc⟩
  · obtain rfl : v = .slice none 0 0 := by simpa using hcs
    exact ⟨[], .inl ⟨rfl, rfl⟩, by simp⟩
  · obtain rfl : v = .slice (some a) len cap := by simpa using hcs
    subst hx
    dsimp only
    have hlm : len ≤ m := by rw [hmm]; split <;> omega
    obtain ⟨Bx, hB⟩ := choose_lt (α := Bool) (p := fun i b => V i = .bool b) (n := m) (fun i hi => by
      obtain ⟨b, h1, -⟩ := DataW.trod_bool Tryz.underlying4 (hc i hi).2
      exact ⟨b, by simpa using h1⟩)
    refine ⟨(List.range len).map Bx, .inr ⟨a, cap, by simp, by simpa using hl, hm, fun j s hj => ?_⟩, ?_⟩
    · rw [List.getElem?_map] at hj
      obtain ⟨i, hi, rfl⟩ := Option.map_eq_some_iff.1 hj
      obtain ⟨hi1, rfl⟩ := range_at hi
      rw [(hc j (by omega)).1, hB j (by omega)]
    · have h1 := bulk_slice ((List.range len).map D) ((List.range (m - len)).map fun j => D (len + j))
      have h2 := bulk_len ((List.range len).map D)
      simp at h2 ⊢
      omega
/-- acts -/
theorem acts_of_trod {fuel : Nat} {v : Value} {y : DataW H × List MemPlace} (h : DataW.trod enc Tryz.prog w base spare held fuel 22 [v] = some y) :
    ∃ l, ActsG w v l ∧ l.length ≤ Rows.uptoBulk y.1 ∧ bulkN l ≤ Rows.uptoBulk y.1 ∧ ∀ a ∈ l, a.s.size ≤ Rows.uptoBulk y.1 ∧ a.keep.length ≤ Rows.uptoBulk y.1 ∧ a.n ≤ 9223372036854775807 := by
  rcases open_slice_fields Tryz.underlying22 Tryz.underlying40 (by kernel_rfl) (by kernel_rfl) h with ⟨hcs, hx⟩ | ⟨a, len, cap, m, D, Pl, hcs, _, hl, hm, hmm, hx, hc⟩
  · obtain rfl : v = .slice none 0 0 := by simpa using hcs
    exact ⟨[], .inl ⟨rfl, rfl⟩, by simp, by simp [bulkN], by simp⟩
  · obtain rfl : v = .slice (some a) len cap := by simpa using hcs
    subst hx
    dsimp only
    have hlm : len ≤ m := by rw [hmm]; split <;> omega
    obtain ⟨R, hR⟩ := choose_lt (α := ActT) (p := fun i r => (w.cell? (a.add (i * 4)) = some (.string r.kind) ∧ w.cell? ⟨(a.add (i * 4)).block, (a.add (i * 4)).off + 1, none⟩ = some (.int .i64 r.n) ∧
        w.cell? ⟨(a.add (i * 4)).block, (a.add (i * 4)).off + 2, none⟩ = some (.string r.s) ∧ ∃ k, w.cell? ⟨(a.add (i * 4)).block, (a.add (i * 4)).off + 3, none⟩ = some k ∧ BoolsG w k r.keep) ∧
        bulkA r ≤ Rows.uptoBulk (D i) ∧ r.s.size ≤ Rows.uptoBulk (D i) ∧ r.keep.length ≤ Rows.uptoBulk (D i) ∧ r.n ≤ 9223372036854775807) (n := m) (fun i hi => by
      obtain ⟨ys, n, hD, -, hyl, hfl⟩ := hc i hi
      obtain ⟨v0, y0, c0, e0, t0⟩ := hfl 0 _ rfl
      obtain ⟨v1, y1, c1, e1, t1⟩ := hfl 1 _ rfl
      obtain ⟨v2, y2, c2, e2, t2⟩ := hfl 2 _ rfl
      obtain ⟨v3, y3, c3, e3, t3⟩ := hfl 3 _ rfl
      obtain ⟨s0, q0, r0, -⟩ := DataW.trod_string Tryz.underlying9 t0
      obtain ⟨z1, q1, r1, wz⟩ := DataW.trod_int Tryz.underlying3 t1
      obtain ⟨s2, q2, r2, -⟩ := DataW.trod_string Tryz.underlying9 t2
      obtain ⟨l3, g3, b3⟩ := bools_of_trod t3
      obtain rfl : v0 = .string s0 := by simpa using q0
      obtain rfl : v1 = .int .i64 z1 := by simpa using q1
      obtain rfl : v2 = .string s2 := by simpa using q2
      rw [show i * _ + 0 = i * 4 from by simp] at c0
      have k1 := add_pos a (i * 4) 1 (by omega)
      have k2 := add_pos a (i * 4) 2 (by omega)
      have k3 := add_pos a (i * 4) 3 (by omega)
      have d2 : Rows.uptoBulk y2.1 ≤ Rows.uptoBulkAll (ys.map (·.1)) := bulk_part (List.mem_map.2 ⟨y2, List.mem_of_getElem? e2, rfl⟩)
      obtain ⟨x0, x1, x2, x3, rfl⟩ : ∃ x0 x1 x2 x3, ys = [x0, x1, x2, x3] := by
        match ys, hyl with
        | [x0, x1, x2, x3], _ => exact ⟨x0, x1, x2, x3, rfl⟩
      · skip
        simp only [List.getElem?_cons_zero, List.getElem?_cons_succ, Option.some.injEq] at e0 e1 e2 e3
        subst e0 e1 e2 e3
        rw [hD]
        simp only [Rows.uptoBulk, Rows.uptoBulkAll, List.map_cons, List.map_nil, r0, r1, r2, list_len]
        have := bulk_one x3.1
        refine ⟨⟨s0, z1, s2, l3⟩, ⟨c0, by rw [← k1]; exact c1, by rw [← k2]; exact c2, v3, by rw [← k3]; exact c3, g3⟩, ?_, ?_, ?_, ?_⟩
        · simp only [bulkA]; omega
        · simp only; omega
        · simp only; omega
        · simp only; exact (bounds_i64 wz).2)
    refine ⟨(List.range len).map R, .inr ⟨a, cap, by simp, by simpa using hl, hm, fun j s hj => ?_⟩, ?_, ?_, ?_⟩
    · rw [List.getElem?_map] at hj
      obtain ⟨i, hi, rfl⟩ := Option.map_eq_some_iff.1 hj
      obtain ⟨hi1, rfl⟩ := range_at hi
      exact (hR j (by omega)).1
    · have h1 := bulk_slice ((List.range len).map D) ((List.range (m - len)).map fun j => D (len + j))
      have h2 := bulk_len ((List.range len).map D)
      simp at h2 ⊢
      omega
    · refine Nat.le_trans ?_ (Nat.le_trans (Nat.le_succ _) (bulk_slice _ _))
      exact bulkN_le _ (fun i hi => (hR i (by have := List.mem_range.1 hi; omega)).2.1)
    · intro x hx
      obtain ⟨i, hi, rfl⟩ := List.mem_map.1 hx
      have hi' := List.mem_range.1 hi
      obtain ⟨-, -, k1, k2, k3⟩ := hR i (by omega)
      have d1 : Rows.uptoBulk (D i) ≤ Rows.uptoBulkAll ((List.range len).map D) := bulk_part (List.mem_map.2 ⟨i, hi, rfl⟩)
      have d2 := bulk_slice ((List.range len).map D) ((List.range (m - len)).map fun j => D (len + j))
      exact ⟨by omega, by omega, k3⟩
/-- records -/
theorem recs_of_trod {fuel : Nat} {v : Value} {y : DataW H × List MemPlace} (h : DataW.trod enc Tryz.prog w base spare held fuel 43 [v] = some y) :
    ∃ l, RecsG w v l ∧ l.length ≤ Rows.uptoBulk y.1 ∧ wordN l ≤ 5 * Rows.uptoBulk y.1 ∧ ∀ a ∈ l, a.l.length ≤ Rows.uptoBulk y.1 ∧ ∀ s ∈ a.l, s.size ≤ Rows.uptoBulk y.1 := by
  rcases open_slice_fields Tryz.underlying43 Tryz.underlying47 (by kernel_rfl) (by kernel_rfl) h with ⟨hcs, hx⟩ | ⟨a, len, cap, m, D, Pl, hcs, _, hl, hm, hmm, hx, hc⟩
  · obtain rfl : v = .slice none 0 0 := by simpa using hcs
    exact ⟨[], .inl ⟨rfl, rfl⟩, by simp, by simp [wordN], by simp⟩
  · obtain rfl : v = .slice (some a) len cap := by simpa using hcs
    subst hx
    dsimp only
    have hlm : len ≤ m := by rw [hmm]; split <;> omega
    obtain ⟨R, hR⟩ := choose_lt (α := RecT) (p := fun i r => (w.cell? (a.add (i * 2)) = some (.bool r.clear) ∧ ∃ k, w.cell? ⟨(a.add (i * 2)).block, (a.add (i * 2)).off + 1, none⟩ = some k ∧ TextsG w k r.l) ∧
        5 + wordT r.l ≤ 5 * Rows.uptoBulk (D i) ∧ sizeT r.l ≤ Rows.uptoBulk (D i)) (n := m) (fun i hi => by
      obtain ⟨ys, n, hD, -, hyl, hfl⟩ := hc i hi
      obtain ⟨v0, y0, c0, e0, t0⟩ := hfl 0 _ rfl
      obtain ⟨v1, y1, c1, e1, t1⟩ := hfl 1 _ rfl
      obtain ⟨b0, q0, r0⟩ := DataW.trod_bool Tryz.underlying4 t0
      obtain ⟨l1, g1, b1⟩ := texts_of_trod t1
      obtain rfl : v0 = .bool b0 := by simpa using q0
      rw [show i * _ + 0 = i * 2 from by simp] at c0
      have k1 := add_pos a (i * 2) 1 (by omega)
      have hw := sizeT_word l1
      obtain ⟨x0, x1, rfl⟩ : ∃ x0 x1, ys = [x0, x1] := by
        match ys, hyl with
        | [x0, x1], _ => exact ⟨x0, x1, rfl⟩
      · skip
        simp only [List.getElem?_cons_zero, List.getElem?_cons_succ, Option.some.injEq] at e0 e1
        subst e0 e1
        rw [hD]
        simp only [Rows.uptoBulk, Rows.uptoBulkAll, List.map_cons, List.map_nil, r0]
        refine ⟨⟨b0, l1⟩, ⟨c0, v1, by rw [← k1]; exact c1, g1⟩, ?_, ?_⟩
        · simp only; omega
        · simp only; omega)
    have hmem : ∀ i, i ∈ List.range len → Rows.uptoBulk (D i) ≤ Rows.uptoBulk (.slice ((List.range len).map D) ((List.range (m - len)).map fun j => D (len + j))) := fun i hi => by
      have d1 : Rows.uptoBulk (D i) ≤ Rows.uptoBulkAll ((List.range len).map D) := bulk_part (List.mem_map.2 ⟨i, hi, rfl⟩)
      have d2 := bulk_slice ((List.range len).map D) ((List.range (m - len)).map fun j => D (len + j))
      omega
    refine ⟨(List.range len).map R, .inr ⟨a, cap, by simp, by simpa using hl, hm, fun j s hj => ?_⟩, ?_, ?_, ?_⟩
    · rw [List.getElem?_map] at hj
      obtain ⟨i, hi, rfl⟩ := Option.map_eq_some_iff.1 hj
      obtain ⟨hi1, rfl⟩ := range_at hi
      exact (hR j (by omega)).1
    · have h1 := bulk_slice ((List.range len).map D) ((List.range (m - len)).map fun j => D (len + j))
      have h2 := bulk_len ((List.range len).map D)
      simp at h2 ⊢
      omega
    · refine Nat.le_trans ?_ (Nat.mul_le_mul_left 5 (Nat.le_trans (Nat.le_succ _) (bulk_slice _ _)))
      exact wordN_le _ (fun i hi => (hR i (by have := List.mem_range.1 hi; omega)).2.1)
    · intro x hx
      obtain ⟨i, hi, rfl⟩ := List.mem_map.1 hx
      have hi' := List.mem_range.1 hi
      obtain ⟨-, -, k1⟩ := hR i (by omega)
      have d1 := hmem i hi
      have d2 := sizeT_len (R i).l
      exact ⟨by omega, fun s hs => by have := sizeT_mem hs; omega⟩
end
end Go.Proofs.YtdcafgpnomcbhaaGreatDoor
