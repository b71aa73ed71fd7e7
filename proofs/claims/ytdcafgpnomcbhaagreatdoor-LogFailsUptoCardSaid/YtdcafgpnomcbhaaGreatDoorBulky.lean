/- bulky: acts that came in. -/
import Derived.Test.YtdcafgpnomcbhaaGreatDoorLogged
import Derived.BigQuiet
import Derived.Deep.QuietTactic
namespace Go.Proofs.YtdcafgpnomcbhaaGreatDoor
open Go.RowKit
set_option linter.unusedVariables false

structure ActT where
  kind : ByteArray
  n : Int
  s : ByteArray
  keep : List Bool
/-- bools that came in -/
def BoolsG (w : World) (v : Value) (l : List Bool) : Prop :=
  (l = [] ∧ v = .slice none 0 0) ∨ ∃ (ad : Addr) (c : Nat), v = .slice (some ad) l.length c ∧ l.length ≤ c ∧ c ≤ maxLen ∧ ∀ j s, l[j]? = some s → w.cell? (ad.add j) = some (.bool s)
theorem BoolsG.len {w : World} {v : Value} {l : List Bool} (h : BoolsG w v l) : ∃ a c, v = .slice a l.length c ∧ l.length ≤ c ∧ c ≤ maxLen := by
  rcases h with ⟨rfl, rfl⟩ | ⟨ad, c, rfl, h1, h2, -⟩
  · exact ⟨none, 0, rfl, by simp, by simp [maxLen]⟩
  · exact ⟨_, c, rfl, h1, h2⟩
theorem BoolsG.chg {w w' : World} {v : Value} {l : List Bool} (h : BoolsG w v l) (hc : Chg [] w w') : BoolsG w' v l := by
  rcases h with h | ⟨ad, c, hv, h1, h2, h3⟩
  · exact .inl h
  · exact .inr ⟨ad, c, hv, h1, h2, fun j s hj => hc.cell (h3 j s hj) (by simp)⟩
/-- acts that came in -/
def ActsG (w : World) (v : Value) (l : List ActT) : Prop :=
  (l = [] ∧ v = .slice none 0 0) ∨ ∃ (ad : Addr) (c : Nat), v = .slice (some ad) l.length c ∧ l.length ≤ c ∧ c ≤ maxLen ∧ ∀ j a, l[j]? = some a →
    w.cell? (ad.add (j * 4)) = some (.string a.kind) ∧ w.cell? ⟨(ad.add (j * 4)).block, (ad.add (j * 4)).off + 1, none⟩ = some (.int .i64 a.n) ∧ w.cell? ⟨(ad.add (j * 4)).block, (ad.add (j * 4)).off + 2, none⟩ = some (.string a.s) ∧ ∃ k, w.cell? ⟨(ad.add (j * 4)).block, (ad.add (j * 4)).off + 3, none⟩ = some k ∧ BoolsG w k a.keep
theorem ActsG.len {w : World} {v : Value} {l : List ActT} (h : ActsG w v l) : ∃ a c, v = .slice a l.length c ∧ l.length ≤ c ∧ c ≤ maxLen := by
  rcases h with ⟨rfl, rfl⟩ | ⟨ad, c, rfl, h1, h2, -⟩
  · exact ⟨none, 0, rfl, by simp, by simp [maxLen]⟩
  · exact ⟨_, c, rfl, h1, h2⟩
theorem ActsG.chg {w w' : World} {v : Value} {l : List ActT} (h : ActsG w v l) (hc : Chg [] w w') : ActsG w' v l := by
  rcases h with h | ⟨ad, c, hv, h1, h2, h3⟩
  · exact .inl h
  · refine .inr ⟨ad, c, hv, h1, h2, fun j a hj => ?_⟩
    obtain ⟨k1, k2, k3, k, k4, k5⟩ := h3 j a hj
    exact ⟨hc.cell k1 (by simp), hc.cell k2 (by simp), hc.cell k3 (by simp), k, hc.cell k4 (by simp), k5.chg hc⟩
theorem ActsG.at' {w : World} {a : Option Addr} {n c : Nat} {l : List ActT} (h : ActsG w (.slice a n c) l) (j : Nat) (hj : j < l.length) : ∃ ad, a = some ad ∧
    w.cell? (ad.add (j * 4)) = some (.string l[j].kind) ∧ w.cell? ⟨(ad.add (j * 4)).block, (ad.add (j * 4)).off + 1, none⟩ = some (.int .i64 l[j].n) ∧ w.cell? ⟨(ad.add (j * 4)).block, (ad.add (j * 4)).off + 2, none⟩ = some (.string l[j].s) ∧ ∃ k, w.cell? ⟨(ad.add (j * 4)).block, (ad.add (j * 4)).off + 3, none⟩ = some k ∧ BoolsG w k l[j].keep := by
  rcases h with ⟨rfl, -⟩ | ⟨ad, c, hv, -, -, hc⟩
  · simp at hj
  · injection hv with ha _ _
    exact ⟨ad, ha, hc j _ (List.getElem?_eq_getElem hj)⟩
def bulkA (a : ActT) : Nat := 1 + a.s.size / 20 + a.keep.length / 20
def bulkN : List ActT → Nat
  | [] => 0
  | a :: l => bulkA a + bulkN l
theorem bulkN_append (l m : List ActT) : bulkN (l ++ m) = bulkN l + bulkN m := by
  induction l with
  | nil => simp [bulkN]
  | cons a l ih => simp [bulkN, ih]; omega
theorem bulkN_take (l : List ActT) (j : Nat) (h : j < l.length) : bulkN (l.take (j + 1)) = bulkN (l.take j) + bulkA l[j] := by
  rw [List.take_succ_eq_append_getElem h, bulkN_append]; simp [bulkN]
theorem bulkN_take_le (l : List ActT) (j : Nat) : bulkN (l.take j) ≤ bulkN l := by
  conv => rhs; rw [← List.take_append_drop j l, bulkN_append]
  omega

set_option maxHeartbeats 1000000 in
set_option maxRecDepth 100000 in
theorem bulky_any (v : Value) (l : List ActT) (w : World) (hv : ActsG w v l) (hn : l.length ≤ 10000000) (hb : bulkN l ≤ 1000000000) (hs : ∀ a ∈ l, a.s.size ≤ 10000000 ∧ a.keep.length ≤ 10000000) :
    Calls Tryz.prog 7 #[v] w fun e w' => e = .returned (.bool (decide (200 < bulkN l))) ∧ Chg [] w w' := by
  have HV := Lib.hid hv
  obtain ⟨va, vc, rfl, hv1, hv2⟩ := hv.len
  obtain ⟨n, hnn⟩ : ∃ n, l.length = n := ⟨_, rfl⟩
  have Hn := Lib.hid hnn
  have HS := Lib.hid hs
  have HB := Lib.hid hb
  rw [hnn] at HV hv1 hn ⊢
  clear hv hnn hs hb
  go_enter Tryz.func7, Tryz.ntmps7
  go_wp2
  go_loopw [3, 4] (fun s i wr => ∃ j : Nat, j ≤ n ∧ s = .int .i64 (bulkN (l.take j)) ∧ i = .int .i64 j ∧ Chg [] w wr) (fun _ i _ => n - (intOf i).toNat)
  case atStart => exact ⟨0, Nat.zero_le _, by simp [bulkN], rfl, Chg.refl _ _⟩
  case round =>
    obtain ⟨j, hj, rfl, rfl, hc⟩ := hrel
    by_cases hlt : j < n
    · have hjl : (j : Int) < n := by omega
      have hjl2 : j < l.length := by rw [Hn.out]; exact hlt
      obtain ⟨ad, rfl, -, -, k2, kv, k3, hk⟩ := HV.out.at' j hjl2
      obtain ⟨ka, kc, rfl, -, -⟩ := hk.len
      have k2' := hc.cell k2 (by simp)
      have k3' := hc.cell k3 (by simp)
      have hsm := HS.out l[j] (List.getElem_mem _)
      have ht := bulkN_take l j hjl2
      have hle := Nat.le_trans (bulkN_take_le l (j + 1)) HB.out
      have Ht := Lib.hid ht
      rw [ht] at hle
      unfold bulkA at ht hle
      have hq1 : ((l[j].s.size : Nat) : Int).tdiv 20 = ((l[j].s.size / 20 : Nat) : Int) := by rw [Int.tdiv_eq_ediv_of_nonneg (by omega)]; omega
      have hq2 : ((l[j].keep.length : Nat) : Int).tdiv 20 = ((l[j].keep.length / 20 : Nat) : Int) := by rw [Int.tdiv_eq_ediv_of_nonneg (by omega)]; omega
      have Hc := Lib.hid hc
      unfold bulkA at Ht
      generalize l[j] = act at k2' k3' hsm Ht hle hq1 hq2
      generalize bulkN (l.take j) = bn at Ht hle ⊢
      clear k2 k3 hk hc ht
      go_wp2
      go_region
      all_goals go_wp2
      all_goals
        refine ⟨⟨j + 1, hlt, ?_, by simp, Hc.out.trans (Chg.drew [] _) (by simp)⟩, by simp [intOf]; omega⟩
        rw [Ht.out]
        congr 1
        push_cast
        omega
    · have hjn : j = n := by omega
      subst hjn
      have htl : l.take j = l := List.take_of_length_le (by rw [Hn.out]; exact Nat.le_refl _)
      rw [htl]
      have Hc := Lib.hid hc
      have hbl := HB.out
      clear hc htl HS
      by_cases h2 : 200 < bulkN l
      · have h2i : (200 : Int) < (bulkN l : Int) := by omega
        go_wp2
        go_ret
        exact ⟨by simp [h2], Hc.out⟩
      · have h2i : (bulkN l : Int) ≤ 200 := by omega
        go_wp2
        go_ret
        exact ⟨by simp [h2]; omega, Hc.out⟩
end Go.Proofs.YtdcafgpnomcbhaaGreatDoor
