/- log.Open. -/
import Derived.Test.YtdcafgpnomcbhaaGreatDoorOpen1
import Derived.Deep.RegionHeld3
namespace Go.Proofs.YtdcafgpnomcbhaaGreatDoor
open Go.RowKit
set_option linter.unusedVariables false

/-- A slice of texts that is only read. -/
def Texts (w : World) (v : Value) (l : List ByteArray) : Prop :=
  (l = [] ∧ v = .slice none 0 0) ∨ ∃ g c, v = .slice (some ⟨g, 0, none⟩) l.length c ∧ g < w.heap.size ∧ l.length ≤ c ∧ c ≤ maxLen ∧ ∀ j s, l[j]? = some s → w.cell? ⟨g, j, none⟩ = some (.string s)
theorem Texts.len {w : World} {v : Value} {l : List ByteArray} (h : Texts w v l) : ∃ a c, v = .slice a l.length c ∧ l.length ≤ c ∧ c ≤ maxLen := by
  rcases h with ⟨rfl, rfl⟩ | ⟨g, c, rfl, -, h1, h2, -⟩
  · exact ⟨none, 0, rfl, by simp, by simp [maxLen]⟩
  · exact ⟨_, c, rfl, h1, h2⟩
theorem Texts.chg {w w' : World} {v : Value} {l : List ByteArray} {S : List Nat} (h : Texts w v l) (hc : Chg S w w') (hn : ∀ k, v.ownBlock = some k → k ∉ S) : Texts w' v l := by
  rcases h with ⟨rfl, rfl⟩ | ⟨g, c, rfl, hg, h1, h2, h3⟩
  · exact .inl ⟨rfl, rfl⟩
  · exact .inr ⟨g, c, rfl, Nat.lt_of_lt_of_le hg hc.size, h1, h2, fun j s hj => hc.cell (h3 j s hj) (hn g rfl)⟩
theorem Texts.lt {w : World} {v : Value} {l : List ByteArray} (h : Texts w v l) (k : Nat) (hk : v.ownBlock = some k) : k < w.heap.size := by
  rcases h with ⟨rfl, rfl⟩ | ⟨g, c, rfl, hg, -⟩
  · cases hk
  · cases hk; exact hg
theorem Row.texts {w : World} {v : Value} {n : Nat} {l : List ByteArray} (h : Row w 9 1 v n (l.map .string)) : Texts w v l := by
  have hn : n = l.length := by have := h.1; simp at this; exact this.symm
  subst hn
  by_cases h0 : 0 < l.length
  · obtain ⟨g, c, rfl, h1, h2⟩ := h.pos h0
    exact .inr ⟨g, c, rfl, h.lt g rfl, h1, h2, fun j s hj => h.cell j (by simp [hj])⟩
  · have : l = [] := List.eq_nil_of_length_eq_zero (by omega)
    subst this
    rcases h.2 with ⟨h1, -⟩ | ⟨g, cap, cur, hv, hg, hh, h1, h2, -⟩
    · exact .inl ⟨rfl, h1⟩
    · subst hv
      exact .inr ⟨g, cap, rfl, h.lt g rfl, h1, h2, by simp⟩
set_option maxHeartbeats 400000 in
theorem clip_none (w : World) : Calls Tryz.prog 31 #[.slice none 0 0] w fun e w' => e = .returned (.slice none 0 0) ∧ w = w' := by
  go_enter Tryz.func31, Tryz.ntmps31
  go_wp2
  go_ret
  exact ⟨rfl, rfl⟩
set_option maxHeartbeats 400000 in
theorem clip_some (g n c : Nat) (w : World) (h : n ≤ c) (h2 : c ≤ maxLen) : Calls Tryz.prog 31 #[.slice (some ⟨g, 0, none⟩) n c] w fun e w' => e = .returned (.slice (some ⟨g, 0, none⟩) n n) ∧ w = w' := by
  have hi : (n : Int) ≤ c := by omega
  go_enter Tryz.func31, Tryz.ntmps31
  go_wp2
  go_ret
  exact ⟨rfl, rfl⟩
theorem dataF_len {D : DSt} {b : Nat} (fu : ∀ s ∈ D.now, s.size = 64) : ∀ n, (2 + b * hN D.now.length + n ≤ D.now.length ∨ n = 0) → (dataF D b n).length = 64 * n
  | 0, _ => by simp [dataF]
  | n + 1, h => by
    rw [dataF_succ D b n (by omega), List.length_append, dataF_len fu n (by omega)]
    have := fu _ (List.getElem_mem (l := D.now) (n := 2 + b * hN D.now.length + n) (by omega))
    have h2 : D.now[2 + b * hN D.now.length + n].data.toList.length = 64 := by simpa using this
    omega
theorem parseF_len : ∀ (f : Nat) (l : List UInt8) (r : List (List UInt8)), parseF f l = some r → r.length * 10 ≤ l.length
  | 0, l, r, h => by simp [parseF] at h; subst h; simp
  | f + 1, l, r, h => by
    rw [parseF] at h
    split at h
    · cases h; simp
    · split at h
      · have := parseF_len f _ _ h
        simp at this
        omega
      · split at h
        · cases h
        · split at h
          · split at h
            · rename_i n hn hle
              obtain ⟨r', hr, rfl⟩ := Option.map_eq_some_iff.1 h
              have := parseF_len f _ _ hr
              simp at this ⊢
              omega
            · cases h
          · cases h
theorem parse_len {l : List UInt8} {r : List (List UInt8)} (h : parse l = some r) : r.length * 10 ≤ l.length := parseF_len _ _ _ h
theorem wrap3 (P q : Int) (h0 : 0 ≤ P) (h1 : P ≤ 4000) (h2 : 0 ≤ q) (h3 : q ≤ 4000) : IntKind.i64.wrap (IntKind.i64.wrap (2 + IntKind.i64.wrap P) + q) = 2 + P + q := by
  simp only [IntKind.wrap_i64]; omega
def OpenPost (b : Nat) (E : Nat → Addr) (D : DSt) (w : World) (e : Ending) (w' : World) : Prop :=
  Below w.heap.size w w' ∧ match openF D with
  | none => e = .returned (.tuple #[.pointer none, .slice none 0 0, errv E 1])
  | some (x, l) => ∃ g v, e = .returned (.tuple #[.pointer (some ⟨g, 0, none⟩), v, .nilIface]) ∧ w.heap.size ≤ g ∧ LogBlk w' g b x false ∧ Texts w' v (l.map bs) ∧ ∀ y, v.ownBlock = some y → w.heap.size ≤ y

set_option maxHeartbeats 4000000 in
set_option maxRecDepth 100000 in
theorem open_any (B b : Nat) (E : Nat → Addr) (F : List Nat) (D : DSt) (w : World) (hE : Env B E w) (hd : Disk B w b D F) (ok : D.Ok) (fu : D.Full) :
    Calls Tryz.prog 9 #[.pointer (some ⟨b, 0, none⟩)] w fun e w' => OpenPost b E D w e w' := by
  have HE := Lib.hid hE
  have HD := Lib.hid hd
  have c2 : ∃ a c, w.cell? ⟨b, 2, none⟩ = some (.slice a D.now.length c) := by
    obtain ⟨k, n, kc, nc, wv, rfl, hB, hat⟩ := hd
    exact ⟨_, _, hat.blk.cell 2 rfl⟩
  obtain ⟨sa, sc, c2⟩ := c2
  have mlen := ok.len
  have mpos := ok.pos
  have hFu := Lib.hid fu
  have Hok := Lib.hid ok
  have hmin : ∃ m : Nat, min 2 D.now.length = m ∧ m ≤ 2 ∧ m ≤ D.now.length := ⟨_, rfl, by omega, by omega⟩
  obtain ⟨m, hm, hm2, hmn⟩ := hmin
  clear hE hd ok fu
  go_enter Tryz.func9, Tryz.ntmps9
  go_wp2_with (go_at_call 24; refine (dSectors_any b _ _ _ _ c2).mono ?_; rintro e w' ⟨rfl, rfl⟩)
  have hmi : min (2 : Int) D.now.length = (m : Int) := by omega
  rw [hmi]
  have Hm := Lib.hid hm
  clear hm hmi
  go_loopw [5, 22] (fun bv i wr => ∃ j : Nat, j ≤ m ∧ i = .int .i64 j ∧ BestAt wr w.heap.size b bv (bestF D j) ∧ Below w.heap.size w wr) (fun _ i _ => m - (intOf i).toNat)
  case atStart => exact ⟨0, Nat.zero_le _, rfl, rfl, Below.refl _ _⟩
  case round =>
    obtain ⟨j, hj, rfl, hBA, hb⟩ := hrel
    have HB := Lib.hid hb
    have hsz := hb.size
    by_cases hlt : j < m
    · have hltI : (j : Int) < m := by omega
      have hjl : j < D.now.length := by omega
      have hrd : D.read (j : Int) = (D.now[j], 0) := by
        unfold DSt.read
        rw [if_neg (by omega)]
        simp [hjl]
      have hs64 : D.now[j].size = 64 := hFu.out.now _ (List.getElem_mem _)
      have hbs := Lib.hid (bestF_succ D j hjl)
      have hgd := Lib.hid (bestF_good D j)
      generalize D.now[j] = s at hrd hs64 hbs
      have HR := Lib.hid hrd
      have HE1 := Lib.hid (HE.out.below hb)
      have HD1 := Lib.hid (HD.out.chg (Chg.of_below hb []) (by simp))
      have HBA := Lib.hid hBA
      clear hrd hBA hb
      go_wp2_with (fail)
      refine (dRead_any B b E F D j _ HE1.out HD1.out Hok.out).mono ?_
      rw [HR.out]
      rintro e w1 ⟨rfl, hC1⟩
      have HE2 := Lib.hid (HE1.out.chg hC1 (by simp))
      have HD2 := Lib.hid (HD1.out.chg hC1 (by simp))
      have HB2 := Lib.hid (HB.out.trans (hC1.below (B := w.heap.size) (by simp) hsz))
      have HBA2 := Lib.hid (HBA.out.chg hC1)
      have hsz1 := hC1.size
      clear hC1 HE1 HD1 HB HBA
      go_wp2_with (fail)
      refine (headOf_any B E s _ HE2.out hs64).mono ?_
      rintro e w2 ⟨x, y, z, okv, rfl, hb2, hh⟩
      have HE3 := Lib.hid (HE2.out.below hb2)
      have HD3 := Lib.hid (HD2.out.chg (Chg.of_below hb2 []) (by simp))
      have HB3 := Lib.hid (HB2.out.trans (hb2.mono (by omega)))
      have HBA3 := Lib.hid (HBA2.out.chg (Chg.of_below hb2 []))
      have hsz2 := hb2.size
      clear hb2 HE2 HD2 HB2 HBA2
      rcases hh with ⟨hF, rfl⟩ | ⟨a, b', c, hF, rfl, rfl, rfl, rfl⟩
      · have hnx := hbs.out
        unfold better at hnx
        rw [hF] at hnx
        simp only at hnx
        have Hnx := Lib.hid hnx
        clear hF hnx
        go_wp2
        exact ⟨⟨j + 1, hlt, by simp, by rw [Hnx.out]; exact HBA3.out, HB3.out⟩, by simp [intOf]; omega⟩
      · have hcb : ∃ a c, w2.cell? ⟨b, 2, none⟩ = some (.slice a D.now.length c) := by
          obtain ⟨k, n, kc, nc, wv, rfl, hB, hat⟩ := HD3.out
          exact ⟨_, _, hat.blk.cell 2 rfl⟩
        obtain ⟨ra, rc, hcb⟩ := hcb
        have hnx := hbs.out
        unfold better at hnx
        rw [hF] at hnx
        simp only at hnx
        have Hnx := Lib.hid hnx
        have hlt3 := headF_lt hF
        obtain ⟨la, lb, lc⟩ := hlt3
        have HH := Lib.hid (half_any b D.now.length rc w2 ra hcb mlen)
        rw [hN_eq _ mpos] at HH
        have hHle : hN D.now.length ≤ 2000 := by unfold hN; omega
        generalize hN D.now.length = H at Hnx hgd HH hHle
        have hmod : ((c : Int)).tmod 64 = ((c % 64 : Nat) : Int) := by rw [Int.tmod_eq_emod_of_nonneg (by omega)]; omega
        clear hF hnx hcb
        by_cases hc0 : c % 64 = 0
        · have hci : (c : Int) % 64 = 0 := by omega
          by_cases hcH : c ≤ H * 64
          · have hcHi : (c : Int) ≤ H * 64 := by omega
            cases hbb : bestF D j with
            | none =>
              have hBA := HBA3.out
              rw [hbb] at hBA
              have hbv := hBA
              unfold BestAt at hbv
              subst hbv
              have hnx := Hnx.out
              rw [hbb, if_pos ⟨hc0, hcH, rfl⟩] at hnx
              have Hnx2 := Lib.hid hnx
              have HB4 := Lib.hid (HB3.out.alloc (by have := HB3.out.size; omega) (.cells #[.pointer (some ⟨b, 0, none⟩), .int .i64 a, .int .i64 b', .int .i64 c, .bool false] 70))
              have HN := Lib.hid (Blk.new w2 70 [.pointer (some ⟨b, 0, none⟩), .int .i64 a, .int .i64 b', .int .i64 c, .bool false])
              clear hBA hnx Hnx hc0 hcH hbb hgd
              go_wp2_with (fail)
              refine HH.out.mono ?_
              rintro e w3 ⟨rfl, rfl⟩
              go_wp2
              refine ⟨⟨j + 1, hlt, by simp, ?_, ?_⟩, by simp [intOf]; omega⟩
              · rw [Hnx2.out]
                exact ⟨w2.heap.size, rfl, by have := HB3.out.size; omega, HN.out⟩
              · exact HB4.out
            | some y =>
              obtain ⟨a', b2, c2'⟩ := y
              have hBA := HBA3.out
              rw [hbb] at hBA
              obtain ⟨g, hbv, hgw, hgb⟩ := hBA
              subst hbv
              have k1 := Blk.cell hgb 1 rfl
              have hnx := Hnx.out
              have hgd' := hgd.out a' b2 c2' hbb
              rw [hbb] at hnx
              have HBAk := Lib.hid HBA3.out
              by_cases haa : a' < a
              · have haai : (a' : Int) < a := by omega
                rw [if_pos ⟨hc0, hcH, by simp [haa]⟩] at hnx
                have Hnx2 := Lib.hid hnx
                have HB4 := Lib.hid (HB3.out.alloc (by have := HB3.out.size; omega) (.cells #[.pointer (some ⟨b, 0, none⟩), .int .i64 a, .int .i64 b', .int .i64 c, .bool false] 70))
                have HN := Lib.hid (Blk.new w2 70 [.pointer (some ⟨b, 0, none⟩), .int .i64 a, .int .i64 b', .int .i64 c, .bool false])
                clear hnx Hnx hc0 hcH hbb hgd hgd' haa hgb hgw
                go_wp2_with (fail)
                refine HH.out.mono ?_
                rintro e w3 ⟨rfl, rfl⟩
                go_wp2
                refine ⟨⟨j + 1, hlt, by simp, ?_, ?_⟩, by simp [intOf]; omega⟩
                · rw [Hnx2.out]
                  exact ⟨w2.heap.size, rfl, by have := HB3.out.size; omega, HN.out⟩
                · exact HB4.out
              · have haai : (a : Int) ≤ a' := by omega
                rw [if_neg (by simp; omega), ← hbb] at hnx
                have Hnx2 := Lib.hid hnx
                clear hnx Hnx hc0 hcH hbb hgd hgd' haa hgb hgw
                go_wp2_with (fail)
                refine HH.out.mono ?_
                rintro e w3 ⟨rfl, rfl⟩
                go_wp2
                refine ⟨⟨j + 1, hlt, by simp, ?_, HB3.out⟩, by simp [intOf]; omega⟩
                rw [Hnx2.out]; exact HBAk.out
          · have hcHi : (H : Int) * 64 < c := by omega
            have hnx := Hnx.out
            rw [if_neg (by omega)] at hnx
            have Hnx2 := Lib.hid hnx
            clear hnx Hnx hc0 hcH hgd
            go_wp2_with (fail)
            refine HH.out.mono ?_
            rintro e w3 ⟨rfl, rfl⟩
            go_wp2
            refine ⟨⟨j + 1, hlt, by simp, ?_, HB3.out⟩, by simp [intOf]; omega⟩
            rw [Hnx2.out]; exact HBA3.out
        · have hci : ¬ (c : Int) % 64 = 0 := by omega
          have hnx := Hnx.out
          rw [if_neg (by omega)] at hnx
          have Hnx2 := Lib.hid hnx
          clear hnx Hnx hc0 hgd
          go_wp2
          refine ⟨⟨j + 1, hlt, by simp, ?_, HB3.out⟩, by simp [intOf]; omega⟩
          rw [Hnx2.out]; exact HBA3.out
    · have hjm : j = m := by omega
      have hltI : (m : Int) ≤ j := by omega
      have HE1 := Lib.hid (HE.out.below hb)
      have HD1 := Lib.hid (HD.out.chg (Chg.of_below hb []) (by simp))
      cases hbb : bestF D j with
      | none =>
        rw [hbb] at hBA
        have hbv := hBA
        unfold BestAt at hbv
        subst hbv
        have hof : openF D = none := by unfold openF; rw [Hm.out, ← hjm, hbb]
        have hg := HE1.out.glob (1, 1) (by simp [errTab])
        clear hBA hb hbb
        go_wp2
        go_region
        all_goals go_wp2
        all_goals
          refine bodyPost_ret (v := .tuple #[.pointer none, .slice none 0 0, errv E 1]) (by simp [results, Tryz.results9, go_sem]) rfl ⟨HB.out.drew, ?_⟩
          rw [hof]
      | some y =>
        obtain ⟨a, b', c⟩ := y
        rw [hbb] at hBA
        obtain ⟨g, hbv, hgw, hgb⟩ := hBA
        subst hbv
        have hgd := bestF_good D j a b' c hbb
        have hof : openF D = (parse (dataF D b' (c / 64))).map fun l => ((a, b', c), l) := by unfold openF; rw [Hm.out, ← hjm, hbb]
        have Hof := Lib.hid hof
        have hn : ∃ n : Nat, c / 64 = n ∧ n ≤ hN D.now.length := ⟨_, rfl, by omega⟩
        obtain ⟨n, hn, hnH⟩ := hn
        have hq : ((c : Int)).tdiv 64 = (n : Int) := by rw [Int.tdiv_eq_ediv_of_nonneg (by omega)]; omega
        rw [hn] at Hof
        have hH : hN D.now.length ≤ 2000 := by unfold hN; omega
        have hgl := Blk.lt hgb
        have k3 := Blk.cell hgb 3 rfl
        have k3' : ∀ o, (wr.alloc o).cell? ⟨g, 3, none⟩ = some (.int .i64 c) := fun o => (Blk.alloc hgb o).cell 3 rfl
        have hbase := Lib.IsBuilderF.of (Lib.fresh_isBuilder 74 5 wr)
        have HGB := Lib.hid hgb
        obtain ⟨-, hb2, -, hcH⟩ := hgd
        have HN := Lib.hid (hN_eq D.now.length mpos)
        have hHm : b' * hN D.now.length + n + 2 ≤ D.now.length ∨ n = 0 := by
          rcases Nat.eq_zero_or_pos n with h0 | h0
          · exact .inr h0
          · refine .inl ?_
            have h1 : b' = 0 ∨ b' = 1 := by omega
            have h2 : 2 * hN D.now.length + 2 ≤ D.now.length := by unfold hN at hnH ⊢; omega
            rcases h1 with rfl | rfl <;> omega
        clear hof hbb hb hgb
        rename World => w1
        go_wp2
        go_loopw [78] (fun i w2 => ∃ q : Nat, q ≤ n ∧ i = .int .i64 q ∧ Lib.IsBuilderF 74 5 w1.heap.size w1.heap.size (Lib.byteCells (dataF D b' q)) w2 ∧ Below w1.heap.size w1 w2) (fun i _ => n - (intOf i).toNat)
        case atStart => exact ⟨0, Nat.zero_le _, rfl, by rw [show dataF D b' 0 = [] from by simp [dataF]]; exact hbase, (Below.refl _ _).alloc (Nat.le_refl _) _⟩
        case round =>
          obtain ⟨q, hqn, rfl, hBu, hb3⟩ := hrel
          have HB3 := Lib.hid hb3
          have HBu := Lib.hid hBu
          have hs3 := hb3.size
          have HE4 := Lib.hid (HE1.out.below (hb3))
          have HD4 := Lib.hid (HD1.out.chg (Chg.of_below hb3 []) (by simp))
          have hgb := HGB.out.chg (Chg.of_below hb3 []) (by simp)
          have HG4 := Lib.hid hgb
          have k2 := Blk.cell hgb 2 rfl
          clear hBu hb3 hgb
          by_cases hlt : q < n
          · have hltI : (q : Int) < n := by omega
            have hil : 2 + b' * hN D.now.length + q < D.now.length := by omega
            have hsu := dataF_succ D b' q hil
            have hrd0 : ∀ (i : Nat) (hi : i < D.now.length), D.read (i : Int) = (D.now[i], 0) := fun i hi => by
              unfold DSt.read
              rw [if_neg (by omega)]
              simp [hi]
            have hrd := hrd0 _ hil
            clear hrd0
            have hs64 : D.now[2 + b' * hN D.now.length + q].size = 64 := hFu.out.now _ (List.getElem_mem _)
            generalize D.now[2 + b' * hN D.now.length + q] = s at hrd hs64 hsu
            have HR := Lib.hid hrd
            have Hsu := Lib.hid hsu
            have hlenq : (dataF D b' q).length = 64 * q := dataF_len hFu.out.now q (by omega)
            have hcb : ∃ a c, wr.cell? ⟨b, 2, none⟩ = some (.slice a D.now.length c) := by
              obtain ⟨k, n, kc, nc, wv, rfl, hB, hat⟩ := HD4.out
              exact ⟨_, _, hat.blk.cell 2 rfl⟩
            obtain ⟨ra, rc, hcb⟩ := hcb
            have hcb' : wr.drew.cell? ⟨b, 2, none⟩ = some (.slice ra D.now.length rc) := hcb
            have HH := Lib.hid (half_any b D.now.length rc wr.drew ra hcb' mlen)
            rw [HN.out] at HH
            have hHm2 : b' * hN D.now.length + q + 2 < D.now.length := by omega
            have hix : Hid ((2 : Int) + (b' : Int) * (hN D.now.length : Int) + (q : Int) = ((2 + b' * hN D.now.length + q : Nat) : Int)) := Lib.hid (by push_cast; rfl)
            have hb'h : b' * hN D.now.length ≤ 4000 := by omega
            have hbh1 : (b' : Int) * (hN D.now.length : Int) ≤ 4000 := by exact_mod_cast hb'h
            have hbh0 : 0 ≤ (b' : Int) * (hN D.now.length : Int) := by exact_mod_cast Nat.zero_le (b' * hN D.now.length)
            have HD5 := Lib.hid (HD4.out.chg (Chg.drew [] _) (by simp))
            have HE5 := Lib.hid (HE4.out.chg (Chg.drew [] _) (by simp))
            clear hrd hsu hcb
            go_wp2_with (fail)
            refine wp_region_held_drew (S := fun W : World => W.cell? ⟨g, 2, none⟩ = some (.int .i64 b')) (by kernel_rfl) k2 (fun hS => ?_)
            refine wpAnyH_take (i := 0) (v := ?_) rfl (by kernel_rfl) (by kernel_rfl) (by kernel_rfl) (fun _ _ _ h => h) (Or.inl ⟨by rfl, ?_⟩) hS ?_
            rotate_left
            · intro W hSw
              go_simp
              try with_reducible rfl
            refine wpAnyH_take (i := 1) (v := ?_) rfl (by kernel_rfl) (by kernel_rfl) (by kernel_rfl) (fun _ _ _ h => h) (Or.inl ⟨by rfl, ?_⟩) hS ?_
            rotate_left
            · intro W hSw
              go_simp
              try with_reducible rfl
            refine wpAnyH_take (i := 2) (v := ?_) rfl (by kernel_rfl) (by kernel_rfl) (by kernel_rfl) (fun _ _ _ h => h) (Or.inl ⟨by rfl, ?_⟩) hS ?_
            rotate_left
            · intro W hSw
              go_simp
              try with_reducible rfl
            refine wpAnyH_take (i := 3) (v := ?_) rfl (by kernel_rfl) (by kernel_rfl) (by kernel_rfl) (fun _ _ _ h => h) (Or.inl ⟨by rfl, ?_⟩) hS ?_
            rotate_left
            · intro W hSw
              go_simp
              try with_reducible rfl
            refine wpAnyH_take (i := 4) (v := ?_) rfl (by kernel_rfl) (by kernel_rfl) (by kernel_rfl) (fun _ _ _ h => h) (Or.inl ⟨by rfl, ?_⟩) hS ?_
            rotate_left
            · intro W hSw
              go_simp
              try with_reducible rfl
            refine wpAnyH_take (i := 5) (v := ?_) rfl (by kernel_rfl) (by kernel_rfl) (by kernel_rfl) (fun _ _ _ h => h) (Or.inl ⟨by rfl, ?_⟩) hS ?_
            rotate_left
            · intro W hSw
              go_simp
              try with_reducible rfl
            refine wpAnyH_take (i := 9) (v := ?_) rfl (by kernel_rfl) (by kernel_rfl) (by kernel_rfl) (fun _ _ _ h => h) (Or.inl ⟨by rfl, ?_⟩) hS ?_
            rotate_left
            · intro W hSw
              go_simp
              try with_reducible rfl
            refine wpAnyH_ready (rs := [6]) (by kernel_rfl) (by simp) ?_
            refine AllReadyH.cons (o := _) rfl (fun K hK => ?_) AllReadyH.nil
            go_simp
            refine HH.out.mono ?_
            rintro e w4 ⟨rfl, rfl⟩
            refine hK.out _ _ hS (fun _ => ?_)
            clear hK K
            refine wpAnyH_take (i := 7) (v := ?_) rfl (by kernel_rfl) (by kernel_rfl) (by kernel_rfl) (fun _ _ _ h => h) (Or.inl ⟨by rfl, ?_⟩) hS ?_
            rotate_left
            · intro W hSw
              go_simp
              try with_reducible rfl
            refine wpAnyH_take (i := 8) (v := ?_) rfl (by kernel_rfl) (by kernel_rfl) (by kernel_rfl) (fun _ _ _ h => h) (Or.inl ⟨by rfl, ?_⟩) hS ?_
            rotate_left
            · intro W hSw
              go_simp
              try with_reducible rfl
            refine wpAnyH_take (i := 10) (v := ?_) rfl (by kernel_rfl) (by kernel_rfl) (by kernel_rfl) (fun _ _ _ h => h) (Or.inl ⟨by rfl, ?_⟩) hS ?_
            rotate_left
            · intro W hSw
              go_simp
              try with_reducible rfl
            refine wpAnyH_ready (rs := [11]) (by kernel_rfl) (by simp) ?_
            refine AllReadyH.cons (o := _) rfl (fun K hK => ?_) AllReadyH.nil
            go_simp
            rw [wrap3 _ _ hbh0 hbh1 (by omega) (by omega), hix.out]
            refine (dRead_any B b E F D _ _ HE5.out HD5.out Hok.out).mono ?_
            rw [HR.out]
            rintro e w5 ⟨rfl, hC5⟩
            have HE6 := Lib.hid (HE5.out.chg hC5 (by simp))
            have HD6 := Lib.hid (HD5.out.chg hC5 (by simp))
            have hs6 : wr.heap.size ≤ w5.heap.size := hC5.size
            have hb6 : Below wr.heap.size wr w5 := ((Chg.drew [] wr).trans hC5 (by simp)).below (by simp) (Nat.le_refl _)
            have hBu6 : Lib.IsBuilderF 74 5 w1.heap.size w1.heap.size (Lib.byteCells (dataF D b' q)) w5 := builder_below HBu.out hb6
            have HB6 := Lib.hid (HB3.out.trans (hb6.mono hs3))
            have HBu6 := Lib.hid hBu6
            have hS6 : w5.cell? ⟨g, 2, none⟩ = some (.int .i64 b') := hC5.cell hS (by simp)
            refine hK.out _ _ hS6 (fun _ => ?_)
            clear hK K hS hC5 hb6 hBu6 HD5 HE5 HB3 HBu HH k2
            refine wpAnyH_take (i := 12) (v := ?_) rfl (by kernel_rfl) (by kernel_rfl) (by kernel_rfl) (fun _ _ _ h => h) (Or.inl ⟨by rfl, ?_⟩) hS6 ?_
            rotate_left
            · intro W hSw
              go_simp
              try with_reducible rfl
            refine wpAnyH_take (i := 13) (v := ?_) rfl (by kernel_rfl) (by kernel_rfl) (by kernel_rfl) (fun _ _ _ h => h) (Or.inl ⟨by rfl, ?_⟩) hS6 ?_
            rotate_left
            · intro W hSw
              go_simp
              try with_reducible rfl
            refine wpAnyH_take (i := 14) (v := ?_) rfl (by kernel_rfl) (by kernel_rfl) (by kernel_rfl) (fun _ _ _ h => h) (Or.inl ⟨by rfl, ?_⟩) hS6 ?_
            rotate_left
            · intro W hSw
              go_simp
              try with_reducible rfl
            refine wpAnyH_take (i := 15) (v := ?_) rfl (by kernel_rfl) (by kernel_rfl) (by kernel_rfl) (fun _ _ _ h => h) (Or.inl ⟨by rfl, ?_⟩) hS6 ?_
            rotate_left
            · intro W hSw
              go_simp
              try with_reducible rfl
            refine wpAnyH_take (i := 16) (v := ?_) rfl (by kernel_rfl) (by kernel_rfl) (by kernel_rfl) (fun _ _ _ h => h) (Or.inl ⟨by rfl, ?_⟩) hS6 ?_
            rotate_left
            · intro W hSw
              go_simp
              try with_reducible rfl
            refine wpAnyH_done (by kernel_rfl) ?_ _
            clear hS6
            go_wp2_with (fail)
            refine (writeString_any w1.heap.size w1.heap.size _ s _ HBu6.out ?_ (by omega)).mono ?_
            · rw [Lib.byteCells_length, hlenq, hs64]
              omega
            rintro e w6 ⟨rfl, hBu7, hb7⟩
            have HBu7 : Hid (Lib.IsBuilderF 74 5 w1.heap.size w1.heap.size (Lib.byteCells (dataF D b' (q + 1))) w6) := by
              rw [Hsu.out, Lib.byteCells_append]
              rw [Lib.strCells_eq] at hBu7
              exact hBu7
            have HB7 := Lib.hid (HB6.out.trans hb7)
            clear hBu7 hb7
            go_wp2
            go_roundw
            case rel => exact ⟨q + 1, hlt, by go_num, HBu7.out, HB7.out⟩
            case measure => simp [intOf]; omega
          · have hqn' : q = n := by omega
            subst hqn'
            have hlenq : (dataF D b' q).length = 64 * q := dataF_len hFu.out.now q (by omega)
            have hlt' : (q : Int) ≤ q := by omega
            go_wp2_with (fail)
            refine (Tryz.Builder_String_any_f _ _ _ wr HBu.out hs3).mono ?_
            rintro e w5 ⟨rfl, -, hb5⟩
            have hs5 := hb5.size
            have hb15 : Below w1.heap.size w1 w5 := HB3.out.trans hb5
            have HB5 := Lib.hid hb15
            have HE5 := Lib.hid (HE1.out.below hb15)
            clear hb5 hb15
            have hz5 : (⟨(dataF D b' q).toArray⟩ : ByteArray).size ≤ 1000000 := by
              show (dataF D b' q).toArray.size ≤ _
              rw [List.size_toArray, hlenq]; omega
            go_wp2_with (fail)
            refine (records_any B E _ _ HE5.out hz5).mono ?_
            rintro e w6 ⟨hb6, hpost⟩
            rw [show (⟨(dataF D b' q).toArray⟩ : ByteArray).data.toList = dataF D b' q from by simp] at hpost
            have hs56 := HB5.out.size
            have hb16 : Below w1.heap.size w1 w6 := HB5.out.trans (hb6.mono hs56)
            have HE6 := Lib.hid (HE1.out.below hb16)
            have HW6 := Lib.hid (HB.out.trans (hb16.mono hsz))
            have HG6 := Lib.hid (HGB.out.chg (Chg.of_below hb16 []) (by simp))
            have hof := Hof.out
            clear hb6 hb16 HE5 HG4 HD4 HE4 hcH k2
            rcases hpost with ⟨hpn, rfl⟩ | ⟨l, v, hpl, rfl, hrow, hown⟩
            · rw [hpn] at hof
              have Hof2 := Lib.hid hof
              have hg := HE6.out.glob (1, 1) (by simp [errTab])
              clear hof hpn
              go_wp2
              go_region
              all_goals go_wp2
              all_goals
                refine bodyPost_ret (v := .tuple #[.pointer none, .slice none 0 0, errv E 1]) (by simp [results, Tryz.results9, go_sem]) rfl ⟨HW6.out.drew, ?_⟩
                rw [Hof2.out]
                rfl
            · rw [hpl] at hof
              have Hof2 := Lib.hid hof
              have htx : Texts w6 v (l.map bs) := Row.texts (by simpa [Function.comp_def] using hrow)
              have hlen := parse_len hpl
              rw [hlenq] at hlen
              clear hof hpl hrow
              have Hown := Lib.hid hown
              clear hown
              have HT := Lib.hid htx
              rcases htx with ⟨hnil, rfl⟩ | ⟨g2, c2', rfl, hg2, hn1, hn2, hcells⟩
              · go_wp2_with (fail)
                refine (clip_none _).mono ?_
                rintro e w7 ⟨rfl, rfl⟩
                go_wp2
                refine bodyPost_ret (v := .tuple #[.pointer (some ⟨g, 0, none⟩), .slice none 0 0, .nilIface]) (by simp [results, Tryz.results9, go_sem]) rfl ⟨HW6.out, ?_⟩
                rw [Hof2.out]
                exact ⟨g, _, rfl, hgw, HG6.out, HT.out, fun y hy => Nat.le_trans (by omega) (Hown.out y hy)⟩
              · go_wp2_with (fail)
                refine (clip_some g2 l.length c2' _ (by simpa using hn1) hn2).mono ?_
                rintro e w7 ⟨rfl, rfl⟩
                go_wp2
                refine bodyPost_ret (v := .tuple #[.pointer (some ⟨g, 0, none⟩), .slice (some ⟨g2, 0, none⟩) l.length l.length, .nilIface]) (by simp [results, Tryz.results9, go_sem]) rfl ⟨HW6.out, ?_⟩
                rw [Hof2.out]
                refine ⟨g, _, rfl, hgw, HG6.out, .inr ⟨g2, l.length, by rw [List.length_map], hg2, by rw [List.length_map]; exact Nat.le_refl _, ?_, hcells⟩, fun y hy => Nat.le_trans (by omega) (Hown.out y hy)⟩
                unfold maxLen; omega
end Go.Proofs.YtdcafgpnomcbhaaGreatDoor
