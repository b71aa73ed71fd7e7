/- slices.Repeat of one text; disk.New. -/
import Derived.Test.YtdcafgpnomcbhaaGreatDoorCrash
import Derived.Laws.CopyOwn
import Derived.Deep.RegionLaw
namespace Go.Proofs.YtdcafgpnomcbhaaGreatDoor
open Go.RowKit
set_option linter.unusedVariables false

theorem infoStr : (Tryz.prog.info? 9).map (fun i => (i.zero, i.size, i.bytes)) = some (some (.string ⟨#[]⟩), 1, 16) := by kernel_rfl
theorem sizeStr : (Tryz.prog.info? 9).map (·.size) = some 1 := by kernel_rfl

/-- the first k of N are v -/
def partly (v z : Value) (N k : Nat) : List Value := List.replicate k v ++ List.replicate (N - k) z
theorem partly_len (v z : Value) (N k : Nat) (h : k ≤ N) : (partly v z N k).length = N := by simp [partly]; omega
theorem partly_get (v z : Value) (N k j : Nat) (h : j < k) : (partly v z N k)[j]? = some v := by
  unfold partly
  rw [List.getElem?_append_left (by simpa using h)]
  simp [h]
theorem partly_splice (v z : Value) (N k m : Nat) (h : k + m ≤ N) : splice (partly v z N k) k (List.replicate m v) = partly v z N (k + m) := by
  unfold splice partly
  have e1 : (List.replicate k v ++ List.replicate (N - k) z).take k = List.replicate k v := by simp
  have e2 : (List.replicate k v ++ List.replicate (N - k) z).drop (k + (List.replicate m v).length) = List.replicate (N - (k + m)) z := by
    rw [List.drop_append]
    simp
    omega
  rw [e1, e2, ← List.append_assoc, List.replicate_append_replicate]

set_option maxHeartbeats 1000000 in
set_option maxRecDepth 100000 in
theorem slRepeat_one (g0 c0 N : Nat) (s : ByteArray) (w : World) (hc : w.cell? ⟨g0, 0, none⟩ = some (.string s)) (h1 : 1 ≤ N) (hN : N ≤ 4000) :
    Calls Tryz.prog 21 #[.slice (some ⟨g0, 0, none⟩) 1 c0, .int .i64 N] w fun e w' => ∃ g, e = .returned (.slice (some ⟨g, 0, none⟩) N N) ∧ Row w' 9 1 (.slice (some ⟨g, 0, none⟩) N N) N (List.replicate N (.string s)) ∧ w.heap.size ≤ g ∧ Below w.heap.size w w' := by
  obtain ⟨i0, hi, hz0, hz1, hz2⟩ := info_parts infoStr
  have hlt : g0 < w.heap.size := World.block_lt_of_cell? w _ hc
  go_enter Tryz.func21, Tryz.ntmps21
  go_wp2_with (fail)
  refine (Calls.same (Tryz.bits_Mul 1 N (by omega) (by omega) _)).mono ?_
  rintro e w' ⟨rfl, rfl⟩
  have e1 : (1 * N / 18446744073709551616 : Nat) = 0 := by omega
  have e2 : (1 * N % 18446744073709551616 : Nat) = N := by omega
  rw [e1, e2]
  clear e1 e2
  go_wp2_with (at_make; refine wpList_make_full _ rfl _ _ 31 rfl w.heap.size 9 i0 (.string ⟨#[]⟩) 1 Tryz.underlying31 hi hz0 hz1 .i64 .i64 N N N rfl rfl rfl rfl ?c1 ?c2 ?c3 ?_)
  case c1 => rw [hz2]; omega
  case c2 => unfold maxLen; omega
  case c3 => exact Nat.le_refl _
  intro w1 hown hgr
  generalize hg : w.heap.size = g at hown hlt ⊢
  obtain ⟨hl1, h2 | ⟨g', cap, cur, hv, hbg, hh, hcap, hm, hsz, htk⟩⟩ := hown
  · cases h2.1
  cases hv
  rw [toList_madeCells_one] at htk
  have hcur : cur = (partly (.string s) (.string ⟨#[]⟩) N 0).toArray := by
    apply Array.toList_inj.1
    rw [List.take_of_length_le (by simp; omega)] at htk
    rw [htk]; simp [partly]
  subst hcur
  have hb1 : Below g w w1 := ⟨hgr.os, hgr.tape, hgr.output, hgr.size, fun k hk => hgr.block k (by omega) (by simp)⟩
  have hs1 : w1.cell? ⟨g0, 0, none⟩ = some (.string s) := (hb1.cell (p := ⟨g0, 0, none⟩) hlt).trans hc
  have HH := Lib.hid hh
  have HG := Lib.hid hg
  have hs1' : ∀ j v, [Value.string s][j]? = some v → w1.cell? ((⟨g0, 0, none⟩ : Addr).add j) = some v := by
    intro j v hv
    cases j with
    | zero => simp at hv; subst hv; simpa [Addr.add] using hs1
    | succ j => simp at hv
  have HS := Lib.hid hs1'
  clear hh hs1' hg hl1 hsz htk hgr hz0 hz1 hz2 hi hm hcap hbg hc hs1
  go_wp2_with (with_reducible refine wpList_copy_splice rfl _ _ 31 31 rfl 9 Tryz.underlying31 sizeStr (some ⟨g, 0, none⟩) (some ⟨g0, 0, none⟩) N N 1 c0 rfl rfl g 0 _ 9 HH.out [.string s] ?d1 ?d2 ?d3 ?d4 g w hb1 (Nat.le_refl _) ?_)
  case d1 => show 1 = min 1 N; omega
  case d2 =>
    have := HS.out
    simpa [Addr.add_lit] using this
  case d3 => rw [partly_len _ _ _ _ (by omega)]; simp; omega
  case d4 => simp [Value.oneCell']
  intro w2 h2 hb2
  rw [show ([Value.string s] : List Value) = List.replicate 1 (Value.string s) from rfl, partly_splice _ _ _ _ _ (by omega), Nat.zero_add] at h2
  clear HS HH hb1
  go_wp2
  go_loopw [8] (fun n wr => ∃ k : Nat, 1 ≤ k ∧ k ≤ N ∧ n = .int .i64 k ∧ Hid (wr.heap[g]? = some (.cells (partly (.string s) (.string ⟨#[]⟩) N k).toArray 9 (0, 0))) ∧ Below g w wr) (fun n _ => N - (intOf n).toNat)
  case atStart => exact ⟨1, by omega, by omega, rfl, h2, hb2⟩
  case round =>
    obtain ⟨k, hk1, hk2, rfl, hh, hb⟩ := hrel
    by_cases hlt2 : k < N
    · obtain ⟨m, hm, hm1, hm2, hm3⟩ : ∃ m, Hid (m = Nat.min k (N - k)) ∧ 1 ≤ m ∧ k + m ≤ N ∧ m ≤ k := ⟨min k (N - k), rfl, by omega, by omega, by omega⟩
      have s1 : Hid ((List.replicate m (Value.string s)).length = Nat.min k (N - k)) := by simp [Hid]; exact hm
      have hsum : IntKind.i64.wrap ((k : Int) + (m : Int)) = (k : Int) + (m : Int) := IntWalk.i64_in _ (by omega)
      have hrow : ∀ j, j < k → wr.cell? ⟨g, j, none⟩ = some (.string s) := by
        intro j hj
        rw [cell_of_row wr g j _ _ _ hh.out]
        simpa using partly_get (.string s) (.string ⟨#[]⟩) N k j hj
      have s2 : Hid (∀ j v, (List.replicate m (Value.string s))[j]? = some v → wr.drew.cell? ((⟨g, 0, none⟩ : Addr).add j) = some v) := by
        intro j v hv
        rw [List.getElem?_replicate] at hv
        split at hv
        · cases hv
          rw [Addr.add_lit, Nat.zero_add]
          exact hrow j (by omega)
        · cases hv
      have s3 : Hid (k + (List.replicate m (Value.string s)).length ≤ (partly (.string s) (.string ⟨#[]⟩) N k).length) := by
        unfold Hid
        rw [partly_len _ _ _ _ hk2]; simp; omega
      have s4 : Hid (∀ v ∈ List.replicate m (Value.string s), v.oneCell' = true) := by
        intro v hv
        rw [List.eq_of_mem_replicate hv]; rfl
      have hh' : Hid (wr.drew.heap[g]? = some (.cells (partly (.string s) (.string ⟨#[]⟩) N k).toArray 9 (0, 0))) := hh.out
      have hNk : ¬ N = k := by omega
      clear hrow
      go_wp2_with (fail)
      go_region_law ((refine step_copy_splice rfl (.tmp 41) (.tmp 44) 31 31 rfl 9 Tryz.underlying31 sizeStr (some ⟨g, k, none⟩) (some ⟨g, 0, none⟩) (N - k) (N - k) k N (by simp [Act.eval, Act.put]) (by simp [Act.eval, Act.put]) g k _ 9 hh'.out (List.replicate m (.string s)) s1.out (fun _ => ⟨rfl, _, rfl, s2.out⟩) s3.out s4.out g w hb.drew (Nat.le_refl _) ?_; intro w3 hh3 hb3))
      rw [partly_splice _ _ _ _ _ hm2] at hh3
      simp only [Act.put, List.getElem_toArray, List.getElem_cons_zero, List.getElem_cons_succ, List.setIfInBounds_toArray, List.set_cons_succ, List.set_cons_zero]
      go_wp2
      go_roundw
      case rel => exact ⟨k + m, by omega, by omega, by go_num, hh3, hb3⟩
      case measure => simp [intOf]; omega
    · have hkN : k = N := by omega
      subst hkN
      go_wp2
      go_ret
      refine ⟨g, rfl, ?_, by have := HG.out; omega, by have := HG.out; rw [this]; exact hb⟩
      refine ⟨by simp, .inr ⟨g, k, _, rfl, Nat.zero_le _, hh.out, Nat.le_refl _, by unfold maxLen; omega, by simp [partly], by simp [partly]⟩⟩

theorem dNew_out (E : Nat → Addr) (B : Nat) (n : Int) (w : World) (hE : Env B E w) (h : n < 1 ∨ 4000 < n) :
    Calls Tryz.prog 8 #[.int .i64 n] w fun e w' => e = .returned (.tuple #[.pointer none, errv E 2]) ∧ w.drew = w' := by
  have hg := hE.glob (2, 0) (by simp [errTab])
  by_cases h1 : n < 1
  · go_enter Tryz.func8, Tryz.ntmps8
    go_wp2
    go_region
    all_goals go_wp2
    all_goals go_ret2
    all_goals exact ⟨rfl, rfl⟩
  · have h2 : 4000 < n := by omega
    go_enter Tryz.func8, Tryz.ntmps8
    go_wp2
    go_region
    all_goals go_wp2
    all_goals go_ret2
    all_goals exact ⟨rfl, rfl⟩
end Go.Proofs.YtdcafgpnomcbhaaGreatDoor
