/- The log's numbers of ten digits, its heads; half of a disk. -/
import Derived.Test.YtdcafgpnomcbhaaGreatDoorBuilder
import Derived.Test.YtdcafgpnomcbhaaGreatDoorDiskNew
namespace Go.Proofs.YtdcafgpnomcbhaaGreatDoor
open Go.RowKit
set_option linter.unusedVariables false

/-- bytes as a string -/
def bs (l : List UInt8) : ByteArray := ⟨l.toArray⟩
theorem bs_size (l : List UInt8) : (bs l).size = l.length := by show l.toArray.size = _; simp
theorem bs_list (l : List UInt8) : (bs l).data.toList = l := rfl

theorem bs_append (a b : List UInt8) : bs a ++ bs b = bs (a ++ b) := by unfold bs; simp [ByteArray.ext_iff]
/-- ten digits -/
def numL (n : Nat) : List UInt8 := Lib.repeatL [48] (10 - (Lib.decDigits n).length) ++ Lib.decDigits n
theorem decDigits_len (n : Nat) (h : n < 10 ^ 10) : 1 ≤ (Lib.decDigits n).length ∧ (Lib.decDigits n).length ≤ 10 := by
  rw [Lib.decDigits_length]
  refine ⟨Lib.nDigits_pos n, ?_⟩
  rcases Nat.lt_or_ge 10 (Lib.nDigits n) with h1 | h1
  · exfalso
    have h2 := Lib.nDigits_unique (Lib.nDigits n - 1) n
    have : ∀ k, 10 ≤ k → 10 ^ 10 ≤ 10 ^ k := fun k hk => Nat.pow_le_pow_right (by decide) hk
    have hp : ∀ u k, u < 10 ^ k → 1 ≤ k → Lib.nDigits u ≤ k := by
      intro u
      induction u using Nat.strongRecOn with
      | _ u ih =>
        intro k hk h1
        by_cases hu : u < 10
        · rw [Lib.nDigits_small hu]; exact h1
        · rw [Lib.nDigits_big hu]
          obtain ⟨k, rfl⟩ : ∃ m, k = m + 1 := ⟨k - 1, by omega⟩
          rw [Nat.pow_succ] at hk
          rcases Nat.eq_zero_or_pos k with rfl | hk0
          · simp at hk; omega
          · have := ih (u / 10) (by omega) k (by omega) hk0
            omega
    have := hp n 10 h (by decide)
    omega
  · exact h1
theorem numL_len (n : Nat) (h : n < 10 ^ 10) : (numL n).length = 10 := by
  have := decDigits_len n h
  simp [numL, Lib.repeatL_length]; omega

theorem repeat48 (k : Int) (w : World) (h0 : 0 ≤ k) (h : k ≤ 10) :
    Calls Tryz.prog 22 #[.string ⟨#[48]⟩, .int .i64 k] w fun e w' => e = .returned (.string (bs (Lib.repeatL [48] k.toNat))) ∧ Below w.heap.size w w' := by
  obtain ⟨n, rfl⟩ := Int.eq_ofNat_of_zero_le h0
  exact Tryz.strings_Repeat ⟨#[48]⟩ n w (by omega) (by show (1 : Nat) * n ≤ _; omega)
theorem itoa_any (B : Nat) (E : Nat → Addr) (n : Int) (w : World) (hE : Env B E w) (h0 : 0 ≤ n) (h : n ≤ 9223372036854775807) :
    Calls Tryz.prog 69 #[.int .i64 n] w fun e w' => e = .returned (.string (bs (Lib.decDigits n.toNat))) ∧ Below w.heap.size w w' := by
  refine (Tryz.strconv_Itoa n (by omega) h w hE.pow).mono ?_
  rintro e w' ⟨rfl, k, os, rfl⟩
  refine ⟨by rw [Lib.itoa, if_neg (by omega)]; rfl, rfl, rfl, rfl, by simp [World.drewN], fun i hi => ?_⟩
  show ((w.drewN k).heap ++ os)[i]? = _
  rw [Array.getElem?_append_left (show i < (w.drewN k).heap.size from hi)]
  rfl
theorem Below.chg {B : Nat} {w w' : World} (h : Below w.heap.size w w') : Chg [] w w' := Chg.of_below h []
theorem Env.below {B : Nat} {E : Nat → Addr} {w w' : World} (h : Env B E w) (hb : Below w.heap.size w w') : Env B E w' := h.chg (Chg.of_below hb []) (by simp)

set_option maxHeartbeats 400000 in
theorem lnumber_any (B : Nat) (E : Nat → Addr) (n : Int) (w : World) (hE : Env B E w) (h0 : 0 ≤ n) (h : n ≤ 9999999999) :
    Calls Tryz.prog 51 #[.int .i64 n] w fun e w' => e = .returned (.string (bs (numL n.toNat))) ∧ Below w.heap.size w w' := by
  have hd := decDigits_len n.toNat (by omega)
  unfold numL
  generalize hz : Lib.decDigits n.toNat = d at hd ⊢
  have hit := itoa_any B E n w hE h0 (by omega)
  rw [hz] at hit
  have Hit := Lib.hid hit
  clear hz hit
  have hsz := bs_size d
  go_enter Tryz.func51, Tryz.ntmps51
  go_wp2_with (fail)
  refine Hit.out.mono ?_
  rintro e w1 ⟨rfl, hb1⟩
  have hs1 := hb1.size
  have H1 := Lib.hid hb1
  clear hb1
  go_wp2_with (fail)
  refine (repeat48 _ _ (by omega) (by omega)).mono ?_
  rintro e w2 ⟨rfl, hb2⟩
  have ek : (10 - (d.length : Int)).toNat = 10 - d.length := by omega
  rw [ek]
  have hrs := bs_size (Lib.repeatL [48] (10 - d.length))
  rw [Lib.repeatL_length] at hrs
  generalize hz2 : Lib.repeatL [48] (10 - d.length) = z at hrs ⊢
  have Hz2 := Lib.hid hz2
  have H2 := Lib.hid (H1.out.trans (hb2.mono hs1))
  clear ek hz2 hb2
  go_wp2
  go_ret
  refine ⟨?_, H2.out⟩
  show Ending.returned (.string (bs z ++ bs d)) = _
  rw [bs_append, Hz2.out]

set_option maxHeartbeats 400000 in
theorem half_any (b m c : Nat) (w : World) (a : Option Addr) (hc : w.cell? ⟨b, 2, none⟩ = some (.slice a m c)) (hm : m ≤ 4000) :
    Calls Tryz.prog 27 #[.pointer (some ⟨b, 0, none⟩)] w fun e w' => e = .returned (.int .i64 (((m : Int) - 2).tdiv 2)) ∧ w = w' := by
  go_enter Tryz.func27, Tryz.ntmps27
  go_wp2_with (go_at_call 24; refine (dSectors_any b _ _ _ _ hc).mono ?_; rintro e w' ⟨rfl, rfl⟩)
  go_ret
  exact ⟨rfl, rfl⟩

def magicL : List UInt8 := [112, 105, 103, 101, 111, 110, 104, 111, 108, 101, 115, 32, 108, 111, 103, 32]
def headL (a b c : Nat) : List UInt8 := magicL ++ numL a ++ numL b ++ numL c
theorem headL_len (a b c : Nat) (ha : a < 10 ^ 10) (hb : b < 10 ^ 10) (hc : c < 10 ^ 10) : (headL a b c).length = 46 := by
  simp [headL, numL_len, ha, hb, hc, magicL]

set_option maxHeartbeats 400000 in
theorem head_any (B : Nat) (E : Nat → Addr) (a b c : Int) (w : World) (hE : Env B E w) (ha0 : 0 ≤ a) (ha : a ≤ 9999999999) (hb0 : 0 ≤ b) (hb : b ≤ 9999999999) (hc0 : 0 ≤ c) (hc : c ≤ 9999999999) :
    Calls Tryz.prog 45 #[.int .i64 a, .int .i64 b, .int .i64 c] w fun e w' => e = .returned (.string (bs (headL a.toNat b.toNat c.toNat))) ∧ Below w.heap.size w w' := by
  have s1 := bs_size (numL a.toNat)
  have s2 := bs_size (numL b.toNat)
  have s3 := bs_size (numL c.toNat)
  rw [numL_len _ (by omega)] at s1 s2 s3
  have HE := Lib.hid hE
  unfold headL
  generalize hz1 : numL a.toNat = x at s1 ⊢
  generalize hz2 : numL b.toNat = y at s2 ⊢
  generalize hz3 : numL c.toNat = z at s3 ⊢
  have c1 := fun w hE => lnumber_any B E a w hE ha0 ha
  have c2 := fun w hE => lnumber_any B E b w hE hb0 hb
  have c3 := fun w hE => lnumber_any B E c w hE hc0 hc
  rw [hz1] at c1
  rw [hz2] at c2
  rw [hz3] at c3
  have C1 := Lib.hid c1
  have C2 := Lib.hid c2
  have C3 := Lib.hid c3
  clear hz1 hz2 hz3 c1 c2 c3 hE
  go_enter Tryz.func45, Tryz.ntmps45
  go_wp2_with (fail)
  refine (C1.out _ HE.out).mono ?_
  rintro e w1 ⟨rfl, hb1⟩
  have hs1 := hb1.size
  have HE1 := Lib.hid (HE.out.below hb1)
  have H1 := Lib.hid hb1
  clear hb1
  go_wp2_with (fail)
  refine (C2.out _ HE1.out).mono ?_
  rintro e w2 ⟨rfl, hb2⟩
  have hs2 := hb2.size
  have HE2 := Lib.hid (HE1.out.below hb2)
  have H2 := Lib.hid (H1.out.trans (hb2.mono hs1))
  clear hb2
  go_wp2_with (fail)
  refine (C3.out _ HE2.out).mono ?_
  rintro e w3 ⟨rfl, hb3⟩
  have H3 := Lib.hid (H2.out.trans (hb3.mono (Nat.le_trans hs1 hs2)))
  clear hb3
  go_wp2
  go_ret
  exact ⟨rfl, H3.out⟩
end Go.Proofs.YtdcafgpnomcbhaaGreatDoor
