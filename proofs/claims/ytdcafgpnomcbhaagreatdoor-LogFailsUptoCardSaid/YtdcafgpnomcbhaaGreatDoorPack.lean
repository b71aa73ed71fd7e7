/- log.pack: records as bytes. -/
import Derived.Test.YtdcafgpnomcbhaaGreatDoorLog1
namespace Go.Proofs.YtdcafgpnomcbhaaGreatDoor
open Go.RowKit
set_option linter.unusedVariables false

theorem i64_and63 (n : Int) : bits .and .i64 n 63 = n % 64 := by
  have h63 : (BitVec.ofInt 64 63).toNat = 2 ^ 6 - 1 := by decide
  have key : (BitVec.ofInt 64 n &&& BitVec.ofInt 64 63).toNat = (n % ((2 ^ 64 : Nat) : Int)).toNat % 2 ^ 6 := by
    rw [BitVec.toNat_and, BitVec.toNat_ofInt, h63, Nat.and_two_pow_sub_one_eq_mod]
  show IntKind.i64.wrap ((BitVec.ofInt 64 n &&& BitVec.ofInt 64 63).toNat : Nat) = n % 64
  rw [key, IntKind.wrap_i64]
  omega
def recL (r : ByteArray) : List UInt8 := numL r.size ++ r.data.toList
def bodyL (rs : List ByteArray) : List UInt8 := rs.flatMap recL
def packL (rs : List ByteArray) : List UInt8 := bodyL rs ++ Lib.repeatL [0] ((64 - (bodyL rs).length % 64) % 64)
theorem bodyL_take (rs : List ByteArray) (j : Nat) (h : j < rs.length) : bodyL (rs.take (j + 1)) = bodyL (rs.take j) ++ recL rs[j] := by
  rw [List.take_succ_eq_append_getElem h]; simp only [bodyL, List.flatMap_append, List.flatMap_cons, List.flatMap_nil, List.append_nil]
theorem bodyL_le (rs : List ByteArray) (j : Nat) : (bodyL (rs.take j)).length ≤ (bodyL rs).length := by
  conv => rhs; rw [← List.take_append_drop j rs]
  simp [bodyL, -List.take_append_drop]
theorem rec_le (rs : List ByteArray) (r : ByteArray) (h : r ∈ rs) : (recL r).length ≤ (bodyL rs).length := by
  induction rs with
  | nil => cases h
  | cons x l ih =>
    rcases List.mem_cons.1 h with rfl | h
    · simp [bodyL]
    · have := ih h; simp [bodyL] at this ⊢; omega
theorem recL_len (r : ByteArray) : (recL r).length ≥ r.size := by
  unfold recL
  rw [List.length_append]
  show r.data.size ≤ _
  have : r.data.toList.length = r.data.size := Array.length_toList
  omega

set_option maxHeartbeats 1000000 in
set_option maxRecDepth 100000 in
theorem pack_any (B : Nat) (E : Nat → Addr) (v : Value) (rs : List ByteArray) (w : World) (hE : Env B E w) (hv : Row w 9 1 v rs.length (rs.map .string)) (hb : (bodyL rs).length ≤ 1000000) (hn : rs.length ≤ 1000000) :
    Calls Tryz.prog 38 #[v] w fun e w' => e = .returned (.string (bs (packL rs))) ∧ Below w.heap.size w w' := by
  obtain ⟨va, vc, rfl, hv1, hv2⟩ := hv.len
  have HE := Lib.hid hE
  clear hE
  go_enter Tryz.func38, Tryz.ntmps38
  go_wp2
  go_loopw [8] (fun i wr => ∃ j : Nat, j ≤ rs.length ∧ i = .int .i64 j ∧ Lib.IsBuilderF 74 5 w.heap.size w.heap.size (Lib.byteCells (bodyL (rs.take j))) wr ∧ Below w.heap.size w wr) (fun i _ => rs.length - (intOf i).toNat)
  case atStart => exact ⟨0, Nat.zero_le _, rfl, Lib.IsBuilderF.of (Lib.fresh_isBuilder _ _ _), (Below.refl _ _).alloc (Nat.le_refl _) _⟩
  case round =>
    obtain ⟨j, hj, rfl, hB, hb1⟩ := hrel
    have hsz := hb1.size
    by_cases hlt : j < rs.length
    · obtain ⟨g, c, hvv, -, -⟩ := hv.pos (by omega)
      injection hvv with hv3 hv4 hv5
      subst hv3
      have hlen := rec_le rs rs[j] (List.getElem_mem hlt)
      have hrl := recL_len rs[j]
      have hc := (hv.chg (Chg.of_below hb1 []) (by simp)).cell j (u := .string rs[j]) (by simp [hlt])
      have HE1 := Lib.hid (HE.out.below hb1)
      have HB := Lib.hid hB
      have H1 := Lib.hid hb1
      have htk := bodyL_take rs j hlt
      have hle := bodyL_le rs (j + 1)
      rw [htk, List.length_append] at hle
      have Htk := Lib.hid htk
      clear htk hB hb1 hv4 hv5 hv
      unfold recL at hle
      generalize hr : rs[j] = r at hlen hrl hc hle
      have Hr := Lib.hid hr
      clear hr
      have hr2 : r.size ≤ 1000000 := by omega
      go_wp2_with (fail)
      refine (lnumber_any B E _ _ HE1.out (by omega) (by omega)).mono ?_
      rintro e w2 ⟨rfl, hb2⟩
      have hs2 := hb2.size
      rw [show ((r.size : Nat) : Int).toNat = r.size from rfl]
      have hnl := numL_len r.size (by omega)
      have hnb := bs_size (numL r.size)
      generalize hnn : numL r.size = nn at hnl hnb hle ⊢
      have Hnn := Lib.hid hnn
      have HB2 : Hid (Lib.IsBuilderF 74 5 w.heap.size w.heap.size (Lib.byteCells (bodyL (rs.take j))) w2) := builder_below HB.out hb2
      have H2 := Lib.hid (H1.out.trans (hb2.mono hsz))
      clear hnn hb2
      have hrs : r.data.toList.length = r.size := by simp
      rw [List.length_append, hrs] at hle
      clear hrs
      go_wp2_with (fail)
      refine (writeString_any w.heap.size w.heap.size _ (bs nn ++ r) _ HB2.out ?_ (by omega)).mono ?_
      · rw [Lib.byteCells_length]
        rw [show (bs nn ++ r).size = nn.length + r.size from by rw [ByteArray.size_append, hnb]]
        omega
      rintro e w3 ⟨rfl, hB3, hb3⟩
      have HB3 : Hid (Lib.IsBuilderF 74 5 w.heap.size w.heap.size (Lib.byteCells (bodyL (rs.take (j + 1)))) w3) := by
        rw [Htk.out, Hr.out]
        unfold recL
        rw [Hnn.out]
        have e1 : Lib.strCells (bs nn ++ r) = Lib.byteCells (nn ++ r.data.toList) := by
          rw [Lib.strCells_eq]
          simp [bs]
        rw [e1, ← Lib.byteCells_append] at hB3
        exact hB3
      have H3 := Lib.hid (H2.out.trans hb3)
      clear hB3 hb3
      go_wp2
      go_roundw
      case rel => exact ⟨j + 1, by omega, by go_num, HB3.out, H3.out⟩
      case measure => simp [intOf]; omega
    · have hj' : j = rs.length := by omega
      subst hj'
      rw [List.take_length] at hB
      have H1 := Lib.hid hb1
      clear hb1 hv
      have hbl := Lib.hid (bodyL_le rs 0)
      generalize hbd : bodyL rs = bd at hb hB
      have Hbd := Lib.hid hbd
      clear hbd hbl
      go_wp2_with (fail)
      refine (Tryz.Builder_String_any_f _ _ bd wr hB hsz).mono ?_
      rintro e w2 ⟨rfl, hB2, hb2⟩
      have hs2 := hb2.size
      have H2 := Lib.hid (H1.out.trans hb2)
      clear hb2
      go_wp2_with (fail)
      refine (Tryz.Builder_Len_f _ _ _ w2 hB2).mono ?_
      rintro e w3 ⟨rfl, hw3⟩
      obtain rfl := hw3.symm
      rw [Lib.byteCells_length]
      clear hw3
      go_wp2_with (fail)
      have e1 : bits BinOp.and .i64 (-(bd.length : Int)) 63 = (((64 - bd.length % 64) % 64 : Nat) : Int) := by rw [i64_and63]; omega
      rw [e1]
      refine (repeat0 _ _ (by omega) (by omega)).mono ?_
      rintro e w4 ⟨rfl, hb4⟩
      rw [Int.toNat_natCast]
      have hz := zeroS_size ((64 - bd.length % 64) % 64)
      have hk : (64 - bd.length % 64) % 64 < 64 := Nat.mod_lt _ (by decide)
      generalize hzz : zeroS ((64 - bd.length % 64) % 64) = z at hz ⊢
      have Hzz := Lib.hid hzz
      have H4 := Lib.hid (H2.out.trans (hb4.mono (Nat.le_trans hsz hs2)))
      have hbs : (⟨bd.toArray⟩ : ByteArray).size = bd.length := bs_size bd
      clear hzz hb4 hB2 hB e1
      go_wp2
      go_ret
      refine ⟨?_, H4.out⟩
      unfold packL
      rw [Hbd.out, ← bs_append]
      show Ending.returned (.string (bs bd ++ z)) = _
      rw [← Hzz.out]
      rfl
end Go.Proofs.YtdcafgpnomcbhaaGreatDoor
