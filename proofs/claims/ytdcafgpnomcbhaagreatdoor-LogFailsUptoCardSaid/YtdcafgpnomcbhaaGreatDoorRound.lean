/- The plain law: numbers, heads and packs read back. -/
import Derived.Test.YtdcafgpnomcbhaaGreatDoorLformat
import Derived.Lib.AtoiAllCases
namespace Go.Proofs.YtdcafgpnomcbhaaGreatDoor
open Go.RowKit
set_option linter.unusedVariables false

theorem toNat_digit (k : Nat) (h : k < 10) : (UInt8.ofNat (48 + k)).toNat = 48 + k := by
  rw [UInt8.toNat_ofNat']; omega
theorem decDigits_digit : ∀ (n : Nat), ∀ c ∈ Lib.decDigits n, 48 ≤ c.toNat ∧ c.toNat ≤ 57 := by
  intro n
  induction n using Nat.strongRecOn with
  | _ n ih =>
    intro c hc
    rw [Lib.decDigits] at hc
    split at hc
    · rw [List.mem_singleton] at hc; subst hc; rw [toNat_digit n (by omega)]; omega
    · rcases List.mem_append.1 hc with hc | hc
      · exact ih (n / 10) (by omega) c hc
      · rw [List.mem_singleton] at hc; subst hc; rw [toNat_digit (n % 10) (by omega)]; omega
theorem parse_digit (acc k : Nat) (hk : k < 10) (ha : acc < 1844674407370955161) (r : List UInt8) : Lib.parseUint10 acc (UInt8.ofNat (48 + k) :: r) = Lib.parseUint10 (acc * 10 + k) r := by
  rw [Lib.parseUint10, toNat_digit k hk, if_pos (by omega), if_neg (by omega), if_neg (by omega), show 48 + k - 48 = k by omega]
theorem parse_decDigits : ∀ (n : Nat) (r : List UInt8), n < 10 ^ 10 → Lib.parseUint10 0 (Lib.decDigits n ++ r) = Lib.parseUint10 n r := by
  intro n
  induction n using Nat.strongRecOn with
  | _ n ih =>
    intro r hn
    rw [Lib.decDigits]
    split
    · rw [List.singleton_append, parse_digit 0 n (by omega) (by omega)]; simp
    · rw [List.append_assoc, ih (n / 10) (by omega) _ (by omega), List.singleton_append, parse_digit _ _ (by omega) (by omega)]
      congr 1; omega
theorem parse_zeros : ∀ (k : Nat) (r : List UInt8), Lib.parseUint10 0 (Lib.repeatL [48] k ++ r) = Lib.parseUint10 0 r
  | 0, r => rfl
  | k + 1, r => by
    rw [Lib.repeatL, List.append_assoc, List.singleton_append, show (48 : UInt8) = UInt8.ofNat (48 + 0) from rfl, parse_digit 0 0 (by omega) (by omega)]
    exact parse_zeros k r
theorem repeatL_mem {c x : UInt8} : ∀ {k : Nat}, x ∈ Lib.repeatL [c] k → x = c
  | 0, h => by cases h
  | k + 1, h => by
    rw [Lib.repeatL] at h
    rcases List.mem_append.1 h with h | h
    · simpa using h
    · exact repeatL_mem h
theorem numL_digit (n : Nat) : ∀ c ∈ numL n, 48 ≤ c.toNat ∧ c.toNat ≤ 57 := by
  intro c hc
  unfold numL at hc
  rcases List.mem_append.1 hc with h | h
  · rw [repeatL_mem h]; decide
  · exact decDigits_digit n c h
theorem natOf_numL (n : Nat) (h : n < 10 ^ 10) : natOf (numL n) = some n := by
  have hp : Lib.parseMag (numL n) = .ok n := by
    have hl := numL_len n h
    unfold Lib.parseMag
    rw [if_neg (by intro h0; rw [h0] at hl; simp at hl)]
    unfold numL
    rw [parse_zeros]
    have := parse_decDigits n [] h
    rw [List.append_nil] at this
    rw [this, Lib.parseUint10]
  have hd := numL_digit n
  have hl := numL_len n h
  unfold natOf
  generalize numL n = l at hp hd hl
  cases l with
  | nil => simp at hl
  | cons c r =>
    have hc := hd c (by simp)
    have hs : Lib.signless (.ok n) = .ok (n : Int) := by unfold Lib.signless; simp only []; rw [if_neg (by omega)]
    rw [Lib.atoiAll_plain c r (by omega) (by omega), hp, hs]
    simp
theorem numL_ne (n : Nat) (h : n < 10 ^ 10) : ∃ c r, numL n = c :: r ∧ c ≠ 0 := by
  have hl := numL_len n h
  have hd := numL_digit n
  generalize numL n = l at hl hd
  cases l with
  | nil => simp at hl
  | cons c r =>
    refine ⟨c, r, rfl, ?_⟩
    intro h0
    have := hd c (by simp)
    rw [h0] at this
    simp at this
theorem repeatL_append_len (k : Nat) (c : UInt8) : (Lib.repeatL [c] k).length = k := by rw [Lib.repeatL_length]; simp
theorem trim_pad (l z : List UInt8) (c : UInt8) (h0 : l ≠ []) (h : l.getLast h0 ≠ c) (hz : ∀ x ∈ z, x = c) : Lib.trimRightB (l ++ z) c = l := by
  unfold Lib.trimRightB
  rw [List.reverse_append, List.dropWhile_append_of_pos (by intro x hx; simpa using hz x (by simpa using hx))]
  have : l.reverse.dropWhile (· == c) = l.reverse := by
    obtain ⟨y, r, hr⟩ : ∃ y r, l.reverse = y :: r := by
      cases hl : l.reverse with
      | nil => exact absurd (by simpa using hl) h0
      | cons y r => exact ⟨y, r, rfl⟩
    have hy : y = l.getLast h0 := by
      have : l = r.reverse ++ [y] := by have := congrArg List.reverse hr; simpa using this
      subst this; simp
    rw [hr, List.dropWhile_cons_of_neg (by rw [hy]; simpa using h)]
  rw [this, List.reverse_reverse]
theorem getLast_app {l r : List UInt8} (hr : r ≠ []) (h0 : l ++ r ≠ []) : (l ++ r).getLast h0 = r.getLast hr := List.getLast_append_of_ne_nil h0 hr
theorem mid10 (x y z : List UInt8) (n : Nat) (hx : x.length = n) (hy : y.length = 10) : ((x ++ (y ++ z)).drop n).take 10 = y := by
  subst hx
  rw [List.drop_left, ← hy, List.take_left]
theorem headL_last (a b c : Nat) (hc : c < 10 ^ 10) : ∀ h0, (headL a b c).getLast h0 ≠ 0 := by
  intro h0 he
  have hl := numL_len c hc
  have hn : numL c ≠ [] := by intro h; rw [h] at hl; simp at hl
  have : (headL a b c).getLast h0 = (numL c).getLast hn := getLast_app hn h0
  rw [this] at he
  have := numL_digit c _ (List.getLast_mem hn)
  rw [he] at this
  simp at this
theorem padS_list (s : ByteArray) : (padS s).data.toList = s.data.toList ++ Lib.repeatL [0] (64 - s.size) := by
  unfold padS
  rw [ByteArray.data_append]
  simp
theorem headF_headL (a b c : Nat) (ha : a < 10 ^ 10) (hb : b < 2) (hc : c < 10 ^ 10) : headF (padS (bs (headL a b c))).data.toList = some (a, b, c) := by
  have la := numL_len a ha
  have lb := numL_len b (by omega)
  have lc := numL_len c hc
  rw [padS_list, bs_list, bs_size, headL_len a b c ha (by omega) hc]
  have hm : magicL.length = 16 := rfl
  have p0 : partAt (headL a b c ++ Lib.repeatL [0] (64 - 46)) 0 = some a := by
    have := mid10 magicL (numL a) (numL b ++ (numL c ++ Lib.repeatL [0] (64 - 46))) 16 hm la
    unfold partAt headL
    simp only [List.append_assoc]
    rw [this, natOf_numL a ha]
  have p1 : partAt (headL a b c ++ Lib.repeatL [0] (64 - 46)) 1 = some b := by
    have := mid10 (magicL ++ numL a) (numL b) (numL c ++ Lib.repeatL [0] (64 - 46)) 26 (by rw [List.length_append, hm, la]) lb
    unfold partAt headL
    simp only [List.append_assoc] at this ⊢
    rw [this, natOf_numL b (by omega)]
  have p2 : partAt (headL a b c ++ Lib.repeatL [0] (64 - 46)) 2 = some c := by
    have := mid10 (magicL ++ numL a ++ numL b) (numL c) (Lib.repeatL [0] (64 - 46)) 36 (by rw [List.length_append, List.length_append, hm, la, lb]) lc
    unfold partAt headL
    simp only [List.append_assoc] at this ⊢
    rw [this, natOf_numL c hc]
  have ht : Lib.trimRightB (headL a b c ++ Lib.repeatL [0] (64 - 46)) 0 = headL a b c :=
    trim_pad _ _ _ (by unfold headL; simp [magicL]) (headL_last a b c hc _) (fun x hx => repeatL_mem hx)
  unfold headF
  rw [p0, p1, p2]
  simp only
  rw [ht, if_pos (by simp; omega)]
theorem headF_zero (k : Nat) : headF (Lib.repeatL [0] k) = none := by
  have : partAt (Lib.repeatL [0] k) 0 = none := by
    have hz : ∀ x ∈ ((Lib.repeatL [0] k).drop (16 + 10 * 0)).take 10, x = 0 := fun x hx => repeatL_mem (List.mem_of_mem_drop (List.mem_of_mem_take hx))
    unfold partAt
    generalize ((Lib.repeatL [0] k).drop (16 + 10 * 0)).take 10 = l at hz
    cases l with
    | nil => rfl
    | cons c r =>
      have hc := hz c (by simp)
      subst hc
      unfold natOf
      rw [Lib.atoiAll_plain 0 r (by decide) (by decide)]
      simp [Lib.parseMag, Lib.parseUint10, Lib.signless]
  unfold headF
  rw [this]
theorem padS_empty : (padS emptyS).data.toList = Lib.repeatL [0] 64 := by rw [padS_list]; rfl
end Go.Proofs.YtdcafgpnomcbhaaGreatDoor
