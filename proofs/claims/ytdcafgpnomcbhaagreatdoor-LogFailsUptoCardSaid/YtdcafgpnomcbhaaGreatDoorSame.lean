/- SameTexts. -/
import Derived.Test.YtdcafgpnomcbhaaGreatDoorAct
namespace Go.Proofs.YtdcafgpnomcbhaaGreatDoor
open Go.RowKit
set_option linter.unusedVariables false

theorem take_succ_eq {l1 l2 : List ByteArray} {j : Nat} (h1 : j < l1.length) (h2 : j < l2.length) (ht : l1.take j = l2.take j) (he : l1[j] = l2[j]) : l1.take (j + 1) = l2.take (j + 1) := by
  rw [List.take_succ_eq_append_getElem h1, List.take_succ_eq_append_getElem h2, ht, he]
theorem Texts.at' {w : World} {a : Option Addr} {n c : Nat} {l : List ByteArray} (h : Texts w (.slice a n c) l) (j : Nat) (hj : j < l.length) : ∃ g, a = some ⟨g, 0, none⟩ ∧ w.cell? ⟨g, j, none⟩ = some (.string l[j]) := by
  rcases h with ⟨rfl, -⟩ | ⟨g, c, hv, hg, -, -, hc⟩
  · simp at hj
  · injection hv with ha _ _
    exact ⟨g, ha, hc j _ (List.getElem?_eq_getElem hj)⟩
set_option maxHeartbeats 1000000 in
set_option maxRecDepth 100000 in
theorem same_len (xa ya : Option Addr) (n xc yc : Nat) (l1 l2 : List ByteArray) (w : World) (hx : Hid (Texts w (.slice xa n xc) l1)) (hy : Hid (Texts w (.slice ya n yc) l2)) (h1 : Hid (l1.length = n)) (h2 : Hid (l2.length = n)) (hn : n ≤ 1000000) :
    Calls Tryz.prog 18 #[.slice xa n xc, .slice ya n yc] w fun e w' => e = .returned (.bool (decide (l1 = l2))) ∧ Chg [] w w' := by
  go_enter Tryz.func18, Tryz.ntmps18
  go_wp2
  go_loopw [5] (fun i wr => ∃ j : Nat, j ≤ n ∧ i = .int .i64 j ∧ l1.take j = l2.take j ∧ Chg [] w wr) (fun i _ => n - (intOf i).toNat)
  case atStart => exact ⟨0, Nat.zero_le _, rfl, rfl, Chg.refl _ _⟩
  case round =>
    obtain ⟨j, hj, rfl, ht, hc⟩ := hrel
    by_cases hlt : j < n
    · have hjl : (j : Int) < n := by omega
      obtain ⟨g, rfl, hcx⟩ := hx.out.at' j (by rw [h1.out]; exact hlt)
      obtain ⟨g', rfl, hcy⟩ := hy.out.at' j (by rw [h2.out]; exact hlt)
      have k1 := hc.cell hcx (by simp)
      have k2 := hc.cell hcy (by simp)
      have hsucc := fun he => take_succ_eq (by rw [h1.out]; exact hlt) (by rw [h2.out]; exact hlt) ht he
      have hne : l1[j]'(by rw [h1.out]; exact hlt) ≠ l2[j]'(by rw [h2.out]; exact hlt) → l1 ≠ l2 := fun h1 h2 => h1 (by subst h2; rfl)
      generalize l1[j]'(by rw [h1.out]; exact hlt) = s1 at k1 hsucc hne
      generalize l2[j]'(by rw [h2.out]; exact hlt) = s2 at k2 hsucc hne
      have Hc := Lib.hid hc
      by_cases hs : s1 = s2
      · have Hs := Lib.hid (hsucc hs)
        subst hs
        clear hc hsucc hne hcx hcy ht
        go_wp2
        go_region
        all_goals go_wp2
        all_goals
          go_roundw
          case rel => exact ⟨j + 1, hlt, by go_num, Hs.out, Hc.out.trans (Chg.drew [] _) (by simp)⟩
          case measure => simp [intOf]; omega
      · have Hs := Lib.hid (hne hs)
        have hsb : (s1.toList == s2.toList) = false := by
          rw [beq_eq_false_iff_ne]
          intro he
          rw [ByteArray.toList_eq, ByteArray.toList_eq] at he
          exact hs (ByteArray.ext (by simpa using he))
        clear hc hsucc hne hcx hcy ht hs
        go_wp2
        go_region
        all_goals go_wp2
        all_goals go_ret
        all_goals exact ⟨by rw [decide_eq_false Hs.out]; rfl, Hc.out.trans (Chg.drew [] _) (by simp)⟩
    · have hjn : j = n := by omega
      subst hjn
      have he : l1 = l2 := by rwa [List.take_of_length_le (by rw [h1.out]; exact Nat.le_refl _), List.take_of_length_le (by rw [h2.out]; exact Nat.le_refl _)] at ht
      have He := Lib.hid he
      have Hc := Lib.hid hc
      clear hc ht he
      go_wp2
      go_ret
      exact ⟨by rw [decide_eq_true He.out]; rfl, Hc.out⟩
set_option maxHeartbeats 400000 in
theorem same_any (x y : Value) (l1 l2 : List ByteArray) (w : World) (hx : Texts w x l1) (hy : Texts w y l2) (hl1 : l1.length ≤ 1000000) (hl2 : l2.length ≤ 1000000) :
    Calls Tryz.prog 18 #[x, y] w fun e w' => e = .returned (.bool (decide (l1 = l2))) ∧ Chg [] w w' := by
  have hx0 := hx
  have hy0 := hy
  obtain ⟨xa, xc, rfl, hx1, hx2⟩ := hx.len
  obtain ⟨ya, yc, rfl, hy1, hy2⟩ := hy.len
  by_cases hlen : l1.length = l2.length
  · rw [← hlen] at hy0 ⊢
    exact same_len xa ya l1.length xc yc l1 l2 w hx0 hy0 rfl hlen.symm hl1
  · have hne : l1 ≠ l2 := fun h => hlen (by rw [h])
    rw [decide_eq_false hne]
    clear hx hy hx0 hy0 hne
    go_enter Tryz.func18, Tryz.ntmps18
    go_wp2
    go_ret
    exact ⟨rfl, Chg.refl _ _⟩
end Go.Proofs.YtdcafgpnomcbhaaGreatDoor
