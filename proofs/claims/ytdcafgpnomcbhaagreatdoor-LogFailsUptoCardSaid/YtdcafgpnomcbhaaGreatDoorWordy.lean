/- wordy: records that came in. -/
import Derived.Test.YtdcafgpnomcbhaaGreatDoorFits
namespace Go.Proofs.YtdcafgpnomcbhaaGreatDoor
open Go.RowKit
set_option linter.unusedVariables false

structure RecT where
  clear : Bool
  l : List ByteArray
/-- records that came in -/
def RecsG (w : World) (v : Value) (l : List RecT) : Prop :=
  (l = [] ∧ v = .slice none 0 0) ∨ ∃ (ad : Addr) (c : Nat), v = .slice (some ad) l.length c ∧ l.length ≤ c ∧ c ≤ maxLen ∧ ∀ j a, l[j]? = some a →
    w.cell? (ad.add (j * 2)) = some (.bool a.clear) ∧ ∃ k, w.cell? ⟨(ad.add (j * 2)).block, (ad.add (j * 2)).off + 1, none⟩ = some k ∧ TextsG w k a.l
theorem RecsG.len {w : World} {v : Value} {l : List RecT} (h : RecsG w v l) : ∃ a c, v = .slice a l.length c ∧ l.length ≤ c ∧ c ≤ maxLen := by
  rcases h with ⟨rfl, rfl⟩ | ⟨ad, c, rfl, h1, h2, -⟩
  · exact ⟨none, 0, rfl, by simp, by simp [maxLen]⟩
  · exact ⟨_, c, rfl, h1, h2⟩
theorem RecsG.chg {w w' : World} {v : Value} {l : List RecT} (h : RecsG w v l) (hc : Chg [] w w') : RecsG w' v l := by
  rcases h with h | ⟨ad, c, hv, h1, h2, h3⟩
  · exact .inl h
  · refine .inr ⟨ad, c, hv, h1, h2, fun j a hj => ?_⟩
    obtain ⟨k1, k, k4, k5⟩ := h3 j a hj
    exact ⟨hc.cell k1 (by simp), k, hc.cell k4 (by simp), k5.chg hc⟩
theorem RecsG.at' {w : World} {a : Option Addr} {n c : Nat} {l : List RecT} (h : RecsG w (.slice a n c) l) (j : Nat) (hj : j < l.length) : ∃ ad, a = some ad ∧
    w.cell? (ad.add (j * 2)) = some (.bool l[j].clear) ∧ ∃ k, w.cell? ⟨(ad.add (j * 2)).block, (ad.add (j * 2)).off + 1, none⟩ = some k ∧ TextsG w k l[j].l := by
  rcases h with ⟨rfl, -⟩ | ⟨ad, c, hv, -, -, hc⟩
  · simp at hj
  · injection hv with ha _ _
    exact ⟨ad, ha, hc j _ (List.getElem?_eq_getElem hj)⟩
theorem TextsG.at' {w : World} {a : Option Addr} {n c : Nat} {l : List ByteArray} (h : TextsG w (.slice a n c) l) (j : Nat) (hj : j < l.length) : ∃ ad, a = some ad ∧ w.cell? (ad.add j) = some (.string l[j]) := by
  rcases h with ⟨rfl, -⟩ | ⟨ad, c, hv, -, -, hc⟩
  · simp at hj
  · injection hv with ha _ _
    exact ⟨ad, ha, hc j _ (List.getElem?_eq_getElem hj)⟩
def wordT : List ByteArray → Nat
  | [] => 0
  | a :: l => (1 + a.size / 10) + wordT l
def wordN : List RecT → Nat
  | [] => 0
  | a :: l => (5 + wordT a.l) + wordN l
theorem wordT_append (l m : List ByteArray) : wordT (l ++ m) = wordT l + wordT m := by
  induction l with
  | nil => simp [wordT]
  | cons a l ih => simp [wordT, ih]; omega
theorem wordT_take (l : List ByteArray) (j : Nat) (h : j < l.length) : wordT (l.take (j + 1)) = wordT (l.take j) + (1 + l[j].size / 10) := by
  rw [List.take_succ_eq_append_getElem h, wordT_append]; simp [wordT]
theorem wordT_take_le (l : List ByteArray) (j : Nat) : wordT (l.take j) ≤ wordT l := by
  conv => rhs; rw [← List.take_append_drop j l, wordT_append]
  omega
theorem wordN_append (l m : List RecT) : wordN (l ++ m) = wordN l + wordN m := by
  induction l with
  | nil => simp [wordN]
  | cons a l ih => simp [wordN, ih]; omega
theorem wordN_take (l : List RecT) (j : Nat) (h : j < l.length) : wordN (l.take (j + 1)) = wordN (l.take j) + (5 + wordT l[j].l) := by
  rw [List.take_succ_eq_append_getElem h, wordN_append]; simp [wordN]
theorem wordN_take_le (l : List RecT) (j : Nat) : wordN (l.take j) ≤ wordN l := by
  conv => rhs; rw [← List.take_append_drop j l, wordN_append]
  omega
set_option maxHeartbeats 2000000 in
set_option maxRecDepth 100000 in
theorem wordy_any (v : Value) (l : List RecT) (w : World) (hv : RecsG w v l) (hn : l.length ≤ 10000000) (hb : wordN l ≤ 1000000000) (hs : ∀ a ∈ l, a.l.length ≤ 10000000 ∧ ∀ s ∈ a.l, s.size ≤ 10000000) :
    Calls Tryz.prog 14 #[v] w fun e w' => e = .returned (.bool (decide (500 < wordN l))) ∧ Chg [] w w' := by
  have HV := Lib.hid hv
  obtain ⟨va, vc, rfl, hv1, hv2⟩ := hv.len
  obtain ⟨n, hnn⟩ : ∃ n, l.length = n := ⟨_, rfl⟩
  have Hn := Lib.hid hnn
  have HS := Lib.hid hs
  have HB := Lib.hid hb
  rw [hnn] at HV hv1 hn ⊢
  clear hv hnn hs hb
  go_enter Tryz.func14, Tryz.ntmps14
  go_wp2
  go_loopw [3, 4] (fun s i wr => ∃ j : Nat, j ≤ n ∧ s = .int .i64 (wordN (l.take j)) ∧ i = .int .i64 j ∧ Chg [] w wr) (fun _ i _ => n - (intOf i).toNat)
  case atStart => exact ⟨0, Nat.zero_le _, by simp [wordN], rfl, Chg.refl _ _⟩
  case round =>
    obtain ⟨j, hj, rfl, rfl, hc⟩ := hrel
    by_cases hlt : j < n
    · have hjl : (j : Int) < n := by omega
      have hjl2 : j < l.length := by rw [Hn.out]; exact hlt
      obtain ⟨ad, rfl, -, kv, k3, hk⟩ := HV.out.at' j hjl2
      obtain ⟨ka, kc, rfl, -, -⟩ := hk.len
      have k3' := hc.cell k3 (by simp)
      have hsm := HS.out l[j] (List.getElem_mem _)
      have ht := wordN_take l j hjl2
      have hle := Nat.le_trans (wordN_take_le l (j + 1)) HB.out
      have Ht := Lib.hid ht
      rw [ht] at hle
      have HK := Lib.hid hk
      have Hc := Lib.hid hc
      generalize l[j].l = tl at k3' hsm Ht hle HK
      generalize wordN (l.take j) = bn at Ht hle ⊢
      obtain ⟨m, hm⟩ : ∃ m, tl.length = m := ⟨_, rfl⟩
      have Hm := Lib.hid hm
      have HSm := Lib.hid hsm.2
      have hm1 : m ≤ 10000000 := by rw [← hm]; exact hsm.1
      rw [hm] at k3' HK
      clear k3 hk hc ht hm hsm
      rename World => w1
      go_wp2
      go_loopw [3, 5] (fun s i w2 => ∃ q : Nat, q ≤ m ∧ s = .int .i64 ((bn + 5 + wordT (tl.take q) : Nat) : Int) ∧ i = .int .i64 q ∧ w2 = w1) (fun _ i _ => m - (intOf i).toNat)
      case atStart => exact ⟨0, Nat.zero_le _, by simp [wordT], rfl, rfl⟩
      case round =>
        obtain ⟨q, hq, rfl, rfl, rfl⟩ := hrel
        by_cases hlq : q < m
        · have hjq : (q : Int) < m := by omega
          have hq2 : q < tl.length := by rw [Hm.out]; exact hlq
          obtain ⟨kd, rfl, kk⟩ := HK.out.at' q hq2
          have kk' := Hc.out.cell kk (by simp)
          have hst := HSm.out tl[q] (List.getElem_mem _)
          have ht := wordT_take tl q hq2
          have hleq := wordT_take_le tl (q + 1)
          have Htq := Lib.hid ht
          rw [ht] at hleq
          generalize tl[q] = t at kk' hst Htq hleq
          generalize wordT (tl.take q) = tn at Htq hleq ⊢
          have hq1 : ((t.size : Nat) : Int).tdiv 10 = ((t.size / 10 : Nat) : Int) := by rw [Int.tdiv_eq_ediv_of_nonneg (by omega)]; omega
          clear kk ht
          go_wp2
          refine ⟨⟨q + 1, hlq, ?_, by simp, by simp⟩, by simp [intOf]; omega⟩
          rw [Htq.out]
          congr 1
          push_cast
          omega
        · have hqm : q = m := by omega
          subst hqm
          have htl : tl.take q = tl := List.take_of_length_le (by rw [Hm.out]; exact Nat.le_refl _)
          rw [htl]
          clear htl
          go_wp2
          refine ⟨⟨j + 1, hlt, ?_, by simp, Hc.out⟩, by simp [intOf]; omega⟩
          rw [Ht.out]
          congr 1
          push_cast
          omega
    · have hjn : j = n := by omega
      subst hjn
      have htl : l.take j = l := List.take_of_length_le (by rw [Hn.out]; exact Nat.le_refl _)
      rw [htl]
      have Hc := Lib.hid hc
      have hbl := HB.out
      clear hc htl HS
      by_cases h2 : 500 < wordN l
      · have h2i : (500 : Int) < (wordN l : Int) := by omega
        have H2 := Lib.hid h2
        clear h2
        go_wp2
        go_ret
        exact ⟨by rw [decide_eq_true H2.out]; first | rfl | (simp; omega), Hc.out⟩
      · have h2i : (wordN l : Int) ≤ 500 := by omega
        have H2 := Lib.hid h2
        clear h2
        go_wp2
        go_ret
        exact ⟨by rw [decide_eq_false H2.out]; first | rfl | (simp; omega), Hc.out⟩
end Go.Proofs.YtdcafgpnomcbhaaGreatDoor
