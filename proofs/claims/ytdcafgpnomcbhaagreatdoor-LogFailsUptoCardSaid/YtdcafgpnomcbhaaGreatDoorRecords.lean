/- log.records: bytes as records. -/
import Derived.Test.YtdcafgpnomcbhaaGreatDoorHeadBad
namespace Go.Proofs.YtdcafgpnomcbhaaGreatDoor
open Go.RowKit
set_option linter.unusedVariables false

/-- how many bytes 0 up to the next sector -/
def skipN (n : Nat) : Nat := if n % 64 = 0 then 64 else n % 64
def parseF : Nat → List UInt8 → Option (List (List UInt8))
  | 0, _ => some []
  | f + 1, l =>
    if l = [] then some [] else
    if l.head? = some 0 then parseF f (l.drop (skipN l.length)) else
    if l.length < 10 then none else
    match natOf (l.take 10) with
    | some n => if n + 10 ≤ l.length then (parseF f (l.drop (10 + n))).map (((l.drop 10).take n) :: ·) else none
    | none => none
theorem parseF_more : ∀ (f g : Nat) (l : List UInt8), l.length ≤ f → l.length ≤ g → parseF f l = parseF g l
  | 0, 0, l, _, _ => rfl
  | 0, g + 1, l, h, _ => by
    have : l = [] := List.eq_nil_of_length_eq_zero (by omega)
    subst this; simp [parseF]
  | f + 1, 0, l, _, h => by
    have : l = [] := List.eq_nil_of_length_eq_zero (by omega)
    subst this; simp [parseF]
  | f + 1, g + 1, l, h1, h2 => by
    by_cases h0 : l = []
    · subst h0; simp [parseF]
    have hp : 0 < l.length := List.length_pos_iff.2 h0
    simp only [parseF, if_neg h0]
    have e1 : parseF f (l.drop (skipN l.length)) = parseF g (l.drop (skipN l.length)) :=
      parseF_more f g _ (by simp [skipN]; split <;> omega) (by simp [skipN]; split <;> omega)
    have e2 : ∀ n, parseF f (l.drop (10 + n)) = parseF g (l.drop (10 + n)) := fun n =>
      parseF_more f g _ (by simp; omega) (by simp; omega)
    rw [e1]
    simp only [e2]
def parse (l : List UInt8) : Option (List (List UInt8)) := parseF l.length l
theorem parse_nil : parse [] = some [] := rfl
theorem parse_skip (l : List UInt8) (h : l.head? = some 0) : parse l = parse (l.drop (skipN l.length)) := by
  cases l with
  | nil => cases h
  | cons c r =>
    unfold parse
    rw [List.length_cons, parseF, if_neg (by simp), if_pos h]
    exact parseF_more _ _ _ (by simp [skipN]; split <;> omega) (Nat.le_refl _)
theorem parse_short (l : List UInt8) (h0 : l ≠ []) (h : l.head? ≠ some 0) (h1 : l.length < 10) : parse l = none := by
  cases l with
  | nil => exact absurd rfl h0
  | cons c r => unfold parse; rw [List.length_cons, parseF, if_neg h0, if_neg h, if_pos (by simpa using h1)]
theorem parse_bad (l : List UInt8) (h : l.head? ≠ some 0) (h1 : 10 ≤ l.length) (h2 : natOf (l.take 10) = none) : parse l = none := by
  cases l with
  | nil => simp at h1
  | cons c r => unfold parse; rw [List.length_cons, parseF, if_neg (by simp), if_neg h, if_neg (by simpa using h1), h2]
theorem parse_far (l : List UInt8) (h : l.head? ≠ some 0) (h1 : 10 ≤ l.length) (n : Nat) (h2 : natOf (l.take 10) = some n) (h3 : l.length < n + 10) : parse l = none := by
  cases l with
  | nil => simp at h1
  | cons c r =>
    unfold parse; rw [List.length_cons, parseF, if_neg (by simp), if_neg h, if_neg (by simpa using h1), h2]
    simp only []
    rw [if_neg (by omega)]
theorem parse_one (l : List UInt8) (h : l.head? ≠ some 0) (h1 : 10 ≤ l.length) (n : Nat) (h2 : natOf (l.take 10) = some n) (h3 : n + 10 ≤ l.length) :
    parse l = (parse (l.drop (10 + n))).map (((l.drop 10).take n) :: ·) := by
  cases l with
  | nil => simp at h1
  | cons c r =>
    unfold parse; rw [List.length_cons, parseF, if_neg (by simp), if_neg h, if_neg (by simpa using h1), h2]
    simp only []
    rw [if_pos h3]
    rw [parseF_more _ ((c :: r).drop (10 + n)).length _ (by simp; omega) (Nat.le_refl _)]

/-- a text's length -/
def strLen : Value → Nat | .string s => s.size | _ => 0
def RecRel (w : World) (s : ByteArray) (sv v : Value) (wr : World) : Prop :=
  ∃ (S : ByteArray) (acc : List (List UInt8)), sv = .string S ∧ parse s.data.toList = (parse S.data.toList).map (acc ++ ·) ∧ Row wr 9 1 v acc.length (acc.map fun l => Value.string (bs l)) ∧
    (∀ x, v.ownBlock = some x → w.heap.size ≤ x) ∧ Below w.heap.size w wr ∧ acc.length * 10 + S.size ≤ s.size

def RecPost (w : World) (s : ByteArray) (e : Ending) (w' : World) : Prop :=
  Below w.heap.size w w' ∧ ((parse s.data.toList = none ∧ e = .returned (.tuple #[.slice none 0 0, .bool false])) ∨
    ∃ l v, parse s.data.toList = some l ∧ e = .returned (.tuple #[v, .bool true]) ∧ Row w' 9 1 v l.length (l.map fun l => Value.string (bs l)) ∧ ∀ x, v.ownBlock = some x → w.heap.size ≤ x)
theorem extract_bs (s : ByteArray) (a b : Nat) : s.extract a b = bs ((s.data.toList.drop a).take (b - a)) := by
  unfold bs
  rw [← extract_list]
theorem list_len (s : ByteArray) : s.data.toList.length = s.size := by simp

set_option maxHeartbeats 1000000 in
set_option maxRecDepth 100000 in
theorem records_any (B : Nat) (E : Nat → Addr) (s : ByteArray) (w : World) (hE : Env B E w) (hs : s.size ≤ 1000000) :
    Calls Tryz.prog 29 #[.string s] w fun e w' => RecPost w s e w' := by
  have HE := Lib.hid hE
  clear hE
  obtain ⟨i0, hi, hz0, hz1, hz2⟩ := info_parts infoStr
  go_enter Tryz.func29, Tryz.ntmps29
  go_wp2
  go_loopw [0, 4] (fun sv v wr => RecRel w s sv v wr) (fun sv _ _ => strLen sv)
  case atStart => exact ⟨s, [], rfl, by simp, Row.nil _ _ _, by simp [Value.ownBlock], Below.refl _ _, by simp⟩
  case round =>
    obtain ⟨S, acc, rfl, hp, hR, hF, hb, hle⟩ := hrel
    have HP := Lib.hid hp
    have HF := Lib.hid hF
    have HB := Lib.hid hb
    have HR := Lib.hid hR
    have hsz := hb.size
    have HL := Lib.hid (list_len S)
    clear hp hF hb
    by_cases h0 : S.size = 0
    · have hnil : S.data.toList = [] := List.eq_nil_of_length_eq_zero (by rw [HL.out]; exact h0)
      have he : (!S.toList.isEmpty) = false := by simp [show S.toList = [] from by rw [ByteArray.toList_eq]; exact hnil]
      have hp := HP.out
      rw [hnil, parse_nil] at hp
      have HQ := Lib.hid hp
      clear hnil hp hR h0 hi hz0 hz1 hz2
      go_wp2
      go_ret2
      exact ⟨HB.out, .inr ⟨acc, _, by simpa using HQ.out, rfl, HR.out, HF.out⟩⟩
    have h1 : 0 < S.size := by omega
    have h1' : (0 : Int) < S.size := by omega
    have hd0 : S.data.toList.head? = some S[0] := by
      rw [List.head?_eq_getElem?]
      simp [h1]
      rfl
    have hne : S.data.toList ≠ [] := by intro hh; rw [hh] at hd0; cases hd0
    have he : (!S.toList.isEmpty) = true := by
      have : S.toList ≠ [] := by rw [ByteArray.toList_eq]; exact hne
      simpa using this
    by_cases hz : S.data.toList.head? = some 0
    · have hz' : S[0] = 0 := by rw [hd0] at hz; exact Option.some.inj hz
      have hzz : ((S[0].toNat : Int) == 0) = true := by rw [hz']; rfl
      have hp := HP.out
      rw [parse_skip _ hz, HL.out] at hp
      have HQ := Lib.hid hp
      have hbt : bits BinOp.and .i64 (S.size : Int) 63 = ((S.size % 64 : Nat) : Int) := by rw [i64_and63]; omega
      have hlist : ∀ k, (S.extract k S.size).data.toList = S.data.toList.drop k := fun k => by
        rw [extract_list, List.take_of_length_le]
        rw [List.length_drop, HL.out]; omega
      have Hlist := Lib.hid hlist
      have hsx : ∀ k, (S.extract k S.size).size = S.size - k := fun k => by rw [ByteArray.size_extract]; omega
      have Hsx := Lib.hid hsx
      clear hp hlist hsx hd0 hz hz' hne hi hz0 hz1 hz2 hR
      by_cases hm : S.size % 64 = 0
      · have hm' : (((S.size % 64 : Nat) : Int) == 0) = true := by simp [hm]
        have h64 : (64 : Int) ≤ S.size := by omega
        have Hm := Lib.hid hm
        clear hm
        go_wp2
        go_roundw
        case rel =>
          refine ⟨_, acc, rfl, ?_, HR.out, HF.out, HB.out, by rw [Hsx.out]; omega⟩
          rw [Hlist.out, HQ.out, skipN, if_pos Hm.out]
        case measure => simp only [strLen]; rw [Hsx.out]; omega
      · have hm' : (((S.size % 64 : Nat) : Int) == 0) = false := by simp; omega
        have Hm := Lib.hid hm
        have hml : S.size % 64 ≤ S.size := Nat.mod_le _ _
        have hmp : 0 < S.size % 64 := by omega
        clear hm
        go_wp2
        go_roundw
        case rel =>
          refine ⟨_, acc, rfl, ?_, HR.out, HF.out, HB.out, by rw [Hsx.out]; omega⟩
          rw [Hlist.out, HQ.out, skipN, if_neg Hm.out]
        case measure => simp only [strLen]; rw [Hsx.out]; omega
    · have hz' : S[0] ≠ 0 := by intro hh; rw [hd0, hh] at hz; exact hz rfl
      have hzz : ((S[0].toNat : Int) == 0) = false := by
        have : S[0].toNat ≠ 0 := fun hh => hz' (by apply UInt8.toNat_inj.1; simpa using hh)
        simp; omega
      by_cases h10 : S.size < 10
      · have hp := HP.out
        rw [parse_short _ hne hz (by rw [HL.out]; exact h10)] at hp
        have HQ := Lib.hid hp
        clear hp hd0 hz hz' hne hi hz0 hz1 hz2 hR
        go_wp2
        go_ret2
        exact ⟨HB.out, .inl ⟨by simpa using HQ.out, rfl⟩⟩
      · have h10' : 10 ≤ S.size := by omega
        have h10i : (10 : Int) ≤ S.size := by omega
        have hx10 : (S.extract 0 10).data.toList = S.data.toList.take 10 := by rw [extract_list]; rfl
        have hz10 : (S.extract 0 10).size ≤ 1000000 := by rw [ByteArray.size_extract]; omega
        have hEr := HE.out.below HB.out
        have hSs : S.size ≤ 1000000 := by omega
        cases hn : natOf (S.data.toList.take 10) with
        | none =>
          have hp := HP.out
          rw [parse_bad _ hz (by rw [HL.out]; exact h10') hn] at hp
          have HQ := Lib.hid hp
          have A : ∃ Z : Unit, Hid (Calls Tryz.prog 43 #[.string (S.extract 0 10)] wr fun e w' => ∃ (n : Int) (ev : Value), e = .returned (.tuple #[.int .i64 n, ev]) ∧ ((∃ N, ev = .iface 140 (.pointer (some ⟨N, 0, none⟩))) ∨ (ev = .nilIface ∧ n < 0)) ∧ Below wr.heap.size wr w') := by
            refine ⟨(), Lib.hid ?_⟩
            rcases natOf_none hn with h | ⟨v, hv, h⟩
            · refine (atoi_bad B E _ (by rw [hx10]; exact h) wr hEr hz10).mono ?_
              rintro e w' ⟨n, N, rfl, hb⟩
              exact ⟨n, _, rfl, .inl ⟨N, rfl⟩, hb⟩
            · refine (atoi_ok _ v (by rw [hx10]; exact h) wr hz10).mono ?_
              rintro e w' ⟨rfl, hb⟩
              exact ⟨v, _, rfl, .inr ⟨rfl, hv⟩, hb⟩
          obtain ⟨-, A⟩ := A
          clear hp hd0 hz hz' hne hi hz0 hz1 hz2 hR hx10 hz10 hEr hn
          go_wp2_with (fail)
          refine A.out.mono ?_
          rintro e w1 ⟨n, ev, rfl, hev, hb1⟩
          have hb2 : Below w.heap.size w w1 := HB.out.trans (hb1.mono hsz)
          have HB2 := Lib.hid hb2
          clear hb1 hb2
          rcases hev with ⟨N, rfl⟩ | ⟨rfl, hneg⟩
          all_goals
            go_wp2
            go_ret2
            exact ⟨HB2.out, .inl ⟨by simpa using HQ.out, rfl⟩⟩
        | some n =>
          have A := Lib.hid (atoi_ok (S.extract 0 10) n (by rw [hx10]; exact natOf_some hn) wr hz10)
          by_cases hfar : S.size < n + 10
          · have hp := HP.out
            rw [parse_far _ hz (by rw [HL.out]; exact h10') n hn (by rw [HL.out]; exact hfar)] at hp
            have HQ := Lib.hid hp
            have hfi : (S.size : Int) - 10 < n := by omega
            clear hp hd0 hz hz' hne hi hz0 hz1 hz2 hR hx10 hz10 hEr hn hfar
            go_wp2_with (fail)
            refine A.out.mono ?_
            rintro e w1 ⟨rfl, hb1⟩
            have hb2 : Below w.heap.size w w1 := HB.out.trans (hb1.mono hsz)
            have HB2 := Lib.hid hb2
            clear hb1 hb2
            go_wp2
            go_ret2
            exact ⟨HB2.out, .inl ⟨by simpa using HQ.out, rfl⟩⟩
          · have hp := HP.out
            rw [parse_one _ hz (by rw [HL.out]; exact h10') n hn (by rw [HL.out]; omega)] at hp
            have HQ := Lib.hid hp
            have hlist : (S.extract (10 + n) S.size).data.toList = S.data.toList.drop (10 + n) := by
              rw [extract_list, List.take_of_length_le]
              rw [List.length_drop, HL.out]; omega
            have hrec : S.extract 10 (10 + n) = bs ((S.data.toList.drop 10).take n) := by rw [extract_bs, show 10 + n - 10 = n by omega]
            have hsx : (S.extract (10 + n) S.size).size = S.size - (10 + n) := by rw [ByteArray.size_extract]; omega
            have Hlist := Lib.hid hlist
            have Hrec := Lib.hid hrec
            have Hsx := Lib.hid hsx
            have hfi : (n : Int) ≤ S.size - 10 := by omega
            have hfn : n + 10 ≤ S.size := by omega
            clear hp hd0 hz hz' hne hx10 hz10 hEr hn hfar hlist hrec hsx hR
            go_wp2_with (fail)
            refine A.out.mono ?_
            rintro e w1 ⟨rfl, hb1⟩
            have hb2 : Below w.heap.size w w1 := HB.out.trans (hb1.mono hsz)
            have hR1 := HR.out.chg (S := []) (Chg.of_below hb1 []) (by simp)
            have hs1 := hb1.size
            have HB2 := Lib.hid hb2
            clear hb1 hb2
            have hal := hR1.alloc (.cells #[.string (S.extract 10 (10 + n))] 9)
            go_wp2_with (at_builtin; refine wpList_append_row _ rfl _ _ 31 rfl 9 i0 _ 1 16 Tryz.underlying31 hi hz0 hz1 hz2 rfl (by decide) _ _ _ rfl hal ⟨w1.heap.size, 0, none⟩ 1 1 [.string (S.extract 10 (10 + n))] rfl rfl ?c1 ?c2 ?c3 ?c4 ?_)
            case c1 => exact cells_new _ [_] _
            case c2 => simp [Value.oneCell']
            case c3 => unfold maxLen; omega
            case c4 => omega
            intro v5 w5 hown hgr hblk5 _
            have hF5 : ∀ x, v5.ownBlock = some x → w.heap.size ≤ x := fun x hx => by
              rcases hblk5 x hx with h | h
              · exact HF.out x h
              · have : (w1.alloc (.cells #[.string (S.extract 10 (10 + n))] 9)).heap.size = w1.heap.size + 1 := by simp
                omega
            have hB5 : Below w.heap.size w w5 := by
              have c1 := (Chg.of_below HB2.out []).trans (Chg.alloc [] w1 (.cells #[.string (S.extract 10 (10 + n))] 9)) (by simp)
              refine (c1.trans (Chg.of_grown hgr) ?_).below (by simp) (Nat.le_refl _)
              intro x hx
              exact .inr (HF.out x (by simpa using hx))
            have H5 := Lib.hid (And.intro hown (And.intro hF5 hB5))
            clear hown hF5 hB5 hgr hblk5 hal hR1 hi hz0 hz1 hz2
            go_wp2
            go_roundw
            case rel =>
              refine ⟨_, acc ++ [(S.data.toList.drop 10).take n], rfl, ?_, ?_, H5.out.2.1, H5.out.2.2, ?_⟩
              · rw [Hlist.out, HQ.out]; cases parse (List.drop (10 + n) S.data.toList) <;> simp
              · have := H5.out.1
                rw [Hrec.out] at this
                simpa using this
              · rw [Hsx.out]; simp; omega
            case measure => simp only [strLen]; rw [Hsx.out]; omega
end Go.Proofs.YtdcafgpnomcbhaaGreatDoor
