/- What the rows' list of package-level variables gives: the package's error values in memory. -/
import Derived.Test.YtdcafgpnomcbhaaGreatDoorEnv
import Derived.Test.YtdcafgpnomcbhaaGreatDoorRows
import Derived.LaidSub
import Derived.Stop.LaidErr
import Derived.Lib.LaidTab
namespace Go.Proofs.YtdcafgpnomcbhaaGreatDoor
open Go.RowKit
set_option linter.unusedVariables false

theorem star : "*" ++ "errors.errorString" = "*errors.errorString" := by decide
theorem rowErrStr (u : TypeId) (h : Tryz.prog.typeName? 3 u = some "*errors.errorString") : u = 171 :=
  typeName_ptr_named (nm := "errors.errorString") (by rw [star]; kernel_rfl) (by kernel_rfl) (by decide) u (by rw [star]; exact h)
theorem cellsErrStr : Tryz.prog.cellsOf 173 = 1 := by kernel_rfl
theorem cellsStr : Tryz.prog.cellsOf 9 = 1 := by kernel_rfl
def sentD (t : List UInt8) : DataW Unit := .iface "*errors.errorString" (.ptr (.agg [.lit (.string t)]))

set_option maxRecDepth 100000 in
/-- Sentinels, so many, one behind the other: where each one's text lies; no two at one place. -/
theorem sents_of_laid {W : World} : ∀ (L : List (String × List UInt8)) (ps : List MemPlace),
    (L.all fun x => match Tryz.prog.globalNamed x.1 with | some g => (Tryz.prog.globals[g]?).map (·.type) == some 27 | none => false) = true →
    DataW.LaidVars Tryz.prog W (L.map fun x => (x.1, sentD x.2)) ps →
    (∀ b off, MemPlace.cell b off ∈ ps → (∃ c t, W.heap[b]? = some (.cells c t (0, 0))) ∧ ∀ u v, W.cell? ⟨b, off, none⟩ = some (.iface u v) → Value.okWide Tryz.prog W .any 0 u v) →
    ∃ As : List Addr, As.length = L.length ∧ (As.map fun a => MemPlace.cell a.block a.off).Sublist ps ∧
      ∀ (i : Nat) (x : String × List UInt8), L[i]? = some x → ∃ (a : Addr) (g : Nat), As[i]? = some a ∧ Tryz.prog.globalNamed x.1 = some g ∧ W.cell? ⟨g, 0, none⟩ = some (.iface 171 (.pointer (some a))) ∧ (∃ s, W.cell? a = some (.string s)) ∧ ∃ c t, W.heap[a.block]? = some (.cells c t (0, 0))
  | [], ps, _, h, _ => ⟨[], rfl, by simp, by simp⟩
  | x :: L, ps, hall, h, hrows => by
    obtain ⟨n, t⟩ := x
    obtain ⟨g, ti, cs, fuel, p, q, hg, ht, hv, hd, hr, rfl⟩ := h
    simp only [List.all_cons, Bool.and_eq_true, hg] at hall
    obtain ⟨h1, h2⟩ := hall
    obtain rfl : ti = 27 := by
      rw [ht] at h1
      simpa using h1
    obtain ⟨As, hl, hs, hat⟩ := sents_of_laid L q h2 hr (fun b off hm => hrows b off (List.mem_append_right _ hm))
    obtain ⟨l0⟩ := cs
    have ok0 : ∀ u v, l0 = [.iface u v] → Value.okWide Tryz.prog W .any 0 u v := fun u v e => by
      subst e
      exact (hrows g 0 (by simp [MemPlace.row])).2 u v (by simpa using World.var?_cell hg hv 0)
    obtain ⟨a0, s0, rfl, hc0, hs0, hz0, rfl⟩ := errorString_of_trod Tryz.underlying27 rowErrStr Tryz.underlying171 Tryz.underlying173 rfl rfl Tryz.underlying9 cellsErrStr cellsStr hd ok0
    refine ⟨a0 :: As, by simp [hl], ?_, fun i x hx => ?_⟩
    · have e : MemPlace.row a0 1 = [MemPlace.cell a0.block a0.off] := by simp [MemPlace.row]
      rw [e, List.map_cons, List.append_assoc]
      exact List.Sublist.trans (List.Sublist.cons_cons _ hs) (by
        rw [List.singleton_append]
        exact List.sublist_append_right _ _)
    · cases i with
      | zero =>
        simp only [List.getElem?_cons_zero, Option.some.injEq] at hx
        subst hx
        exact ⟨a0, g, rfl, hg, by simpa using World.var?_cell hg hv 0, ⟨s0, hc0⟩, (hrows a0.block a0.off (by simp [MemPlace.row])).1⟩
      | succ i => exact hat i x (by simpa using hx)

def errNames : List (String × List UInt8) := (Rows.logNoneRow.laid.filterMap fun x => match x.2 with | .iface _ (.ptr (.agg [.lit (.string t)])) => some (x.1, t) | _ => none).take 15
theorem errNames_laid : (Rows.logNoneRow.laid.filter fun x => x.2.handleName?.isNone).filter (fun x => (errNames.map (·.1)).contains x.1) = errNames.map fun x => (x.1, sentD x.2) := by kernel_rfl
theorem errNames_glob : errNames.map (fun x => Tryz.prog.globalNamed x.1) = errTab.map fun p => some p.2 := by kernel_rfl
theorem errNames_type : (errNames.all fun x => match Tryz.prog.globalNamed x.1 with | some g => (Tryz.prog.globals[g]?).map (·.type) == some 27 | none => false) = true := by kernel_rfl
theorem errNames_len : errNames.length = 15 := by kernel_rfl
theorem errTab_num : ∀ i, i < 15 → (errTab[i]?).map (·.1) = some (i + 1) := by decide
theorem rt : (Tryz.prog.cutTypes.find? (·.1 == "internal/reflectlite.rtype")).map (·.2) = some 148 := by kernel_rfl
theorem oneErr : ((List.range 221).filter fun t => Tryz.prog.rowNamed t [101, 114, 114, 111, 114]) = [27] := by kernel_rfl
theorem typesSize : Tryz.prog.types.size = 221 := by kernel_rfl
theorem hndErr : typeHandle Tryz.prog 27 = .pointer (some ⟨24, 27, none⟩) := by kernel_rfl
theorem etNamed : Tryz.prog.globalNamed "errors.errorType" = some 15 := by kernel_rfl

theorem handle_of_laid {W : World} (h : laidMetH Tryz.prog Rows.logNoneRow.laid W) : W.cell? ⟨15, 0, none⟩ = some (.iface 148 (.agg #[.pointer (some ⟨24, 27, none⟩)])) := by
  have h' := (laidMetH_iff.1 h).2
  obtain ⟨name, u, ty, e1, e2, e3, e4, e5⟩ := h' ("errors.errorType", Rows.laid_errors_errorType) (by
    have : (Rows.logNoneRow.laid.filter fun x => x.2.handleName?.isSome) = [("errors.errorType", Rows.laid_errors_errorType)] := by kernel_rfl
    rw [this]; exact List.mem_singleton.2 rfl)
  have en : name = [101, 114, 114, 111, 114] := (Option.some.inj e1).symm
  subst en
  obtain rfl := Option.some.inj (rt.symm.trans e2)
  have hm : ty ∈ (List.range 221).filter fun t => Tryz.prog.rowNamed t [101, 114, 114, 111, 114] := List.mem_filter.2 ⟨List.mem_range.2 (by rw [← typesSize]; exact e3), e4⟩
  rw [oneErr] at hm
  obtain rfl := List.mem_singleton.1 hm
  rw [hndErr] at e5
  simpa using World.var?_cell etNamed e5 0
theorem one_sent {W : World} (h : laidMetH Tryz.prog Rows.logNoneRow.laid W) (n : String) (t : List UInt8) (g : Nat)
    (hf : (Rows.logNoneRow.laid.filter fun x => x.2.handleName?.isNone).filter (fun x => x.1 == n) = [(n, sentD t)]) (hg : Tryz.prog.globalNamed n = some g) (ht : (Tryz.prog.globals[g]?).map (·.type) = some 27) :
    ∃ te pe, W.cell? ⟨g, 0, none⟩ = some (.iface te pe) := by
  have h1 := (laidMetH_iff.1 h).1.filter (fun x => x.1 == n)
  rw [hf] at h1
  obtain ⟨a, s, hv, -, -, -⟩ := laid_sentinel h1 hg ht Tryz.underlying27 rowErrStr Tryz.underlying171 Tryz.underlying173 rfl rfl Tryz.underlying9 cellsErrStr cellsStr
  exact ⟨_, _, by simpa using World.var?_cell hg hv 0⟩
theorem pow_laid : (Rows.logNoneRow.laid.filter fun x => x.2.handleName?.isNone).filter (fun x => x.1 == "internal/strconv.uint64pow10") = [("internal/strconv.uint64pow10", Lib.tabData .u64 Lib.pow10Tab)] := by kernel_rfl
theorem powType : ((Tryz.prog.globals[21]?).map (·.type)).bind (fun t => Tryz.prog.underlying t) = some (.array 20 110) := by kernel_rfl
theorem powCells : ((Tryz.prog.globals[21]?).map (·.type)).map (fun t => Tryz.prog.cellsOf t) = some 20 := by kernel_rfl

/-- start-up's cells, out of the rows' list -/
theorem env_of_laid {W : World} (h : laidMetH Tryz.prog Rows.logNoneRow.laid W) : ∃ E, Env W.heap.size E W := by
  obtain ⟨ps, hl, hnd, hrows⟩ := (laidMetH_iff.1 h).1.filter (fun x => (errNames.map (·.1)).contains x.1)
  rw [errNames_laid] at hl
  obtain ⟨As, hlen, hsub, hat⟩ := sents_of_laid errNames ps errNames_type hl hrows
  have hnd2 : As.Pairwise (· ≠ ·) := (List.pairwise_map.1 (List.Nodup.sublist hsub hnd)).imp (fun h e => h (by rw [e]))
  rw [errNames_len] at hlen
  have hE : ∀ i, i < 15 → ∃ g, errTab[i]? = some (i + 1, g) ∧ W.cell? ⟨g, 0, none⟩ = some (.iface 171 (.pointer (some (As.getD i ⟨0, 0, none⟩)))) ∧ (∃ s, W.cell? (As.getD i ⟨0, 0, none⟩) = some (.string s)) ∧ ∃ c t, W.heap[(As.getD i ⟨0, 0, none⟩).block]? = some (.cells c t (0, 0)) := by
    intro i hi
    obtain ⟨x, hx⟩ : ∃ x, errNames[i]? = some x := ⟨_, List.getElem?_eq_getElem (by rw [errNames_len]; exact hi)⟩
    obtain ⟨a, g, ha, hg, hc, hs, hb⟩ := hat i x hx
    have e1 : (errNames.map (fun x => Tryz.prog.globalNamed x.1))[i]? = some (some g) := by rw [List.getElem?_map, hx]; simp [hg]
    rw [errNames_glob, List.getElem?_map] at e1
    obtain ⟨p, hp, hpg⟩ := Option.map_eq_some_iff.1 e1
    have e2 := errTab_num i hi
    rw [hp] at e2
    have hp' : p = (i + 1, g) := by
      obtain ⟨p1, p2⟩ := p
      simp only [Option.map_some, Option.some.injEq] at e2 hpg
      rw [e2, hpg]
    rw [hp'] at hp
    have hget : As.getD i ⟨0, 0, none⟩ = a := by rw [List.getD, ha]; rfl
    rw [hget]
    exact ⟨g, hp, hc, hs, hb⟩
  have lt : ∀ {a : Addr} {v : Value}, W.cell? a = some v → a.block < W.heap.size := fun h => World.block_lt_of_cell? W _ h
  have hpow : Lib.TabIs Tryz.prog W "internal/strconv.uint64pow10" .u64 Lib.pow10Tab := by
    have h1 := (laidMetH_iff.1 h).1.filter (fun x => x.1 == "internal/strconv.uint64pow10")
    rw [pow_laid] at h1
    obtain ⟨t, ht, hu⟩ := Option.bind_eq_some_iff.1 powType
    have hc := powCells
    rw [ht] at hc
    exact Lib.tabIs_of_head (rest := []) powNamed ht hu Tryz.underlying110 (by kernel_rfl) (Option.some.inj hc) h1
  refine ⟨fun c => As.getD (c - 1) ⟨0, 0, none⟩, ?_, ?_, Nat.le_refl _, ?_, ?_, ?_, handle_of_laid h, lt (handle_of_laid h), hpow, ?_, ?_, ?_, ?_, ?_⟩
  · intro p hp
    obtain ⟨i, hi⟩ := List.getElem?_of_mem hp
    have hi15 : i < 15 := by
      have := (List.getElem?_eq_some_iff.1 hi).1
      simpa [errTab] using this
    obtain ⟨g, h1, h2, -⟩ := hE i hi15
    rw [h1] at hi
    obtain rfl := Option.some.inj hi
    rw [h2]
    show _ = some (errv _ (i + 1))
    unfold errv
    rw [if_neg (by omega)]
    simp
  · intro p hp
    obtain ⟨i, hi⟩ := List.getElem?_of_mem hp
    have hi15 : i < 15 := by
      have := (List.getElem?_eq_some_iff.1 hi).1
      simpa [errTab] using this
    obtain ⟨g, h1, h2, -⟩ := hE i hi15
    rw [h1] at hi
    obtain rfl := Option.some.inj hi
    exact lt h2
  · intro c h1 h2
    obtain ⟨g, -, -, ⟨s, hs⟩, -⟩ := hE (c - 1) (by omega)
    exact lt hs
  · intro c d h1 h2 h3 h4 he
    have hc : c - 1 < As.length := by omega
    have hd : d - 1 < As.length := by omega
    simp only [List.getD, List.getElem?_eq_getElem hc, List.getElem?_eq_getElem hd, Option.getD_some] at he
    have hp := List.pairwise_iff_getElem.1 hnd2
    rcases Nat.lt_trichotomy (c - 1) (d - 1) with h | h | h
    · exact absurd he (hp _ _ hc hd h)
    · omega
    · exact absurd he.symm (hp _ _ hd hc h)
  · intro c h1 h2
    obtain ⟨g, -, -, -, hb⟩ := hE (c - 1) (by omega)
    exact hb
  · have := hpow.cell powNamed 0 (by decide)
    exact lt this
  · exact one_sent h "strconv.ErrSyntax" [105, 110, 118, 97, 108, 105, 100, 32, 115, 121, 110, 116, 97, 120] 17 (by kernel_rfl) (by kernel_rfl) (by kernel_rfl)
  · obtain ⟨te, pe, h1⟩ := one_sent h "strconv.ErrSyntax" [105, 110, 118, 97, 108, 105, 100, 32, 115, 121, 110, 116, 97, 120] 17 (by kernel_rfl) (by kernel_rfl) (by kernel_rfl)
    exact lt h1
  · exact one_sent h "strconv.ErrRange" [118, 97, 108, 117, 101, 32, 111, 117, 116, 32, 111, 102, 32, 114, 97, 110, 103, 101] 18 (by kernel_rfl) (by kernel_rfl) (by kernel_rfl)
  · obtain ⟨te, pe, h1⟩ := one_sent h "strconv.ErrRange" [118, 97, 108, 117, 101, 32, 111, 117, 116, 32, 111, 102, 32, 114, 97, 110, 103, 101] 18 (by kernel_rfl) (by kernel_rfl) (by kernel_rfl)
    exact lt h1
end Go.Proofs.YtdcafgpnomcbhaaGreatDoor
