/- coded, own, act. -/
import Derived.Test.YtdcafgpnomcbhaaGreatDoorCode
import Derived.Test.YtdcafgpnomcbhaaGreatDoorLformat
import Derived.Laws.OwnMore
namespace Go.Proofs.YtdcafgpnomcbhaaGreatDoor
open Go.RowKit
set_option linter.unusedVariables false
set_option linter.unusedSimpArgs false

set_option maxHeartbeats 400000 in
theorem Code_nil (w : World) : Calls Tryz.prog 32 #[.nilIface] w fun e w' => e = .returned (.tuple #[.int .i64 0, .int .i64 (-1)]) ∧ w = w' := by
  go_enter Tryz.func32, Tryz.ntmps32
  go_wp2
  go_ret2
  exact ⟨rfl, rfl⟩
theorem Code_any (B : Nat) (E : Nat → Addr) (c : Nat) (w : World) (hE : Env B E w) (h2 : c ≤ 15) :
    Calls Tryz.prog 32 #[errv E c] w fun e w' => e = .returned (.tuple #[.int .i64 c, .int .i64 (-1)]) ∧ Below w.heap.size w w' := by
  by_cases h : c = 0
  · subst h
    refine (Code_nil w).mono ?_
    rintro e w' ⟨rfl, rfl⟩
    exact ⟨rfl, Below.refl _ _⟩
  · rw [errv_some E h]
    exact Code_err B E c w hE (by omega) h2
set_option maxHeartbeats 400000 in
theorem coded_any (B : Nat) (E : Nat → Addr) (c k : Nat) (w : World) (hE : Env B E w) (h2 : c ≤ 15) :
    Calls Tryz.prog 10 #[errv E c, .int .i64 k] w fun e w' => e = .returned (.bool (decide (c = k))) ∧ Below w.heap.size w w' := by
  have HC := Lib.hid (Code_any B E c w hE h2)
  generalize errv E c = v at HC ⊢
  by_cases hck : c = k
  · have hi : ((c : Int) == (k : Int)) = true := by rw [hck]; simp
    rw [decide_eq_true hck]
    clear hE
    go_enter Tryz.func10, Tryz.ntmps10
    go_wp2_with (fail)
    refine HC.out.mono ?_
    rintro e w1 ⟨rfl, hb⟩
    have HB := Lib.hid hb
    have Hck := Lib.hid hck
    clear hb hck
    go_wp2
    go_ret
    exact ⟨by simp [Hck.out], HB.out⟩
  · have hi : ((c : Int) == (k : Int)) = false := by simp; omega
    rw [decide_eq_false hck]
    clear hE
    go_enter Tryz.func10, Tryz.ntmps10
    go_wp2_with (fail)
    refine HC.out.mono ?_
    rintro e w1 ⟨rfl, hb⟩
    have HB := Lib.hid hb
    have Hck := Lib.hid hck
    clear hb hck
    go_wp2
    go_ret
    exact ⟨by simp [Hck.out], HB.out⟩

/-- Texts that came in: wherever they lie. -/
def TextsG (w : World) (v : Value) (l : List ByteArray) : Prop :=
  (l = [] ∧ v = .slice none 0 0) ∨ ∃ (ad : Addr) (c : Nat), v = .slice (some ad) l.length c ∧ l.length ≤ c ∧ c ≤ maxLen ∧ ∀ j s, l[j]? = some s → w.cell? (ad.add j) = some (.string s)
theorem Texts.g {w : World} {v : Value} {l : List ByteArray} (h : Texts w v l) : TextsG w v l := by
  rcases h with h | ⟨g, c, hv, hg, h1, h2, h3⟩
  · exact .inl h
  · exact .inr ⟨⟨g, 0, none⟩, c, hv, h1, h2, fun j s hj => by rw [Addr.add_lit, Nat.zero_add]; exact h3 j s hj⟩
theorem TextsG.len {w : World} {v : Value} {l : List ByteArray} (h : TextsG w v l) : ∃ a c, v = .slice a l.length c ∧ l.length ≤ c ∧ c ≤ maxLen := by
  rcases h with ⟨rfl, rfl⟩ | ⟨ad, c, rfl, h1, h2, -⟩
  · exact ⟨none, 0, rfl, by simp, by simp [maxLen]⟩
  · exact ⟨_, c, rfl, h1, h2⟩
theorem TextsG.chg {w w' : World} {v : Value} {l : List ByteArray} (h : TextsG w v l) (hc : Chg [] w w') : TextsG w' v l := by
  rcases h with h | ⟨ad, c, hv, h1, h2, h3⟩
  · exact .inl h
  · exact .inr ⟨ad, c, hv, h1, h2, fun j s hj => hc.cell (h3 j s hj) (by simp)⟩
/-- append of texts onto texts of the call's own -/
theorem run_append_texts (w : World) (v : Value) (n : Nat) (xs : List ByteArray) (hown : Row w 9 1 v n (xs.map .string)) (x : Value) (l : List ByteArray) (hx : TextsG w x l) (hn : n + l.length ≤ 1000000) :
    ∃ v' w', (Builtin.append_ #[31, 31] 31 #[v, x]).run Tryz.prog w = .ok v' w' ∧ Row w' 9 1 v' (n + l.length) ((xs ++ l).map .string) ∧ Chg v.ownBlock.toList w w' ∧
      (∀ x, v'.ownBlock = some x → v.ownBlock = some x ∨ w.heap.size ≤ x) := by
  obtain ⟨i0, hi, hz0, hz1, hz2⟩ := info_parts infoStr
  rcases hx with ⟨rfl, rfl⟩ | ⟨ad, c, rfl, h1, h2, h3⟩
  · exact ⟨v, w, run_append_owned_none (P := Tryz.prog) (w := w) 0 31 31 9 i0 1 Tryz.underlying31 hi v n _ hown, by simpa using hown, Chg.refl _ _, fun x hx => .inl hx⟩
  · obtain ⟨v', w', hr, ho, hg', hb, -⟩ := run_append_row (P := Tryz.prog) w 31 31 9 i0 _ 1 16 Tryz.underlying31 hi hz0 hz1 hz2 rfl (by decide) v n _ hown ad l.length c (l.map .string) (by simp) (by
      intro j u hu
      rw [List.getElem?_map] at hu
      obtain ⟨s, hs, rfl⟩ := Option.map_eq_some_iff.1 hu
      exact h3 j s hs) (by intro u hu; obtain ⟨s, -, rfl⟩ := List.mem_map.1 hu; rfl) (by unfold maxLen; omega) (by omega)
    exact ⟨v', w', hr, by rw [List.map_append]; exact ho, Chg.of_grown hg', hb⟩
theorem wpList_append_texts {w : World} {ops : Array Oper} {rest : List Oper} {o : Oper} {a : Act} {Q : Exit → Act → World → Prop} (hgd : o.guard = none) (s x : Operand)
    (ho : o.op = .call { callee := .builtin .append, args := #[s, x], argTypes := #[31, 31] }) (hty : o.type = 31)
    (v : Value) (n : Nat) (xs : List ByteArray) (hs : a.eval s = v) (hown : Row w 9 1 v n (xs.map .string))
    (y : Value) (l : List ByteArray) (hx : a.eval x = y) (hy : TextsG w y l) (hn : n + l.length ≤ 1000000)
    (h : ∀ v' w', Row w' 9 1 v' (n + l.length) ((xs ++ l).map .string) → Chg v.ownBlock.toList w w' → (∀ x, v'.ownBlock = some x → v.ownBlock = some x ∨ w.heap.size ≤ x) → wpList Tryz.prog ops Q rest (a.put o.dst v') w') : wpList Tryz.prog ops Q (o :: rest) a w := by
  refine wpList_plain hgd fun K hK => ?_
  obtain ⟨v', w', hr, h2, h3, h4⟩ := run_append_texts w v n xs hown y l hy hn
  unfold Oper.wp execOp
  simp only [ho, hty, resolve, invoke, builtin, Sem.run_bind, Sem.run_pure, Result.andThen_ok, List.map_toArray, List.map_cons, List.map_nil, hs, hx, hr]
  exact hK _ _ (h v' w' h2 h3 h4)

/-- texts of the call's own -/
def OwnTexts (w : World) (w' : World) (v : Value) (l : List ByteArray) : Prop := Row w' 9 1 v l.length (l.map .string) ∧ Below w.heap.size w w' ∧ ∀ x, v.ownBlock = some x → w.heap.size ≤ x
set_option maxHeartbeats 1000000 in
theorem own_any (x : Value) (l : List ByteArray) (w : World) (hx : TextsG w x l) (hn : l.length ≤ 1000000) :
    Calls Tryz.prog 37 #[x] w fun e w' => ∃ v, e = .returned v ∧ OwnTexts w w' v l := by
  go_enter Tryz.func37, Tryz.ntmps37
  go_wp2_with (at_builtin; refine wpList_append_texts rfl _ _ rfl rfl _ 0 [] rfl (Row.nil _ _ _) x l rfl hx (by omega) ?_)
  intro v' w' hr hc hb
  have hp : OwnTexts w w' v' l := ⟨hr, (show Chg [] w w' from hc).below (by simp) (Nat.le_refl _), fun x hx => (hb x hx).elim (fun h => by cases h) id⟩
  clear hr hc hb
  go_wp2
  go_ret
  exact ⟨v', rfl, hp⟩
end Go.Proofs.YtdcafgpnomcbhaaGreatDoor
