/- LogFails: for every input (of bulk at most 1048576): the power goes behind so many acts of the disk, and any of the waiting writes are kept: the records are those of the last call that answered, or of the one behind it, and it goes on from there: the law returns true and leaves its arguments as they were. The row, and its card (tied to the program's text). -/
import Derived.Test.YtdcafgpnomcbhaaGreatDoorFails
import Derived.Test.YtdcafgpnomcbhaaGreatDoorOpeners
import Derived.Test.YtdcafgpnomcbhaaGreatDoorRowKit
namespace Go.Proofs.YtdcafgpnomcbhaaGreatDoor.logFails
open Go.ChangeShapes Go.WideShapes Go.ChangeAt Go.RowKit Go.Deep
set_option linter.unusedVariables false

theorem fails_any (B : Nat) (E : Nat → Addr) (v v2 kv : Value) (l more : List RecT) (kl : List Bool) (after : Int) (w : World) (hE : Env B E w) (hv : RecsG w v l) (hn : l.length ≤ 10000000) (hb : wordN l ≤ 1000000000) (hs : ∀ a ∈ l, a.l.length ≤ 10000000 ∧ ∀ s ∈ a.l, s.size ≤ 10000000)
    (hv2 : RecsG w v2 more) (hn2 : more.length ≤ 10000000) (hb2 : wordN more ≤ 1000000000) (hs2 : ∀ a ∈ more, a.l.length ≤ 10000000 ∧ ∀ s ∈ a.l, s.size ≤ 10000000) (hk : BoolsG w kv kl) (ha : after ≤ 9223372036854775807) :
    Calls Tryz.prog 5 #[v, .int .i64 after, kv, v2] w fun e w' => e = .returned (.bool true) ∧ Chg [] w w' := by
  by_cases h1 : 500 < wordN l
  · exact fails_wordy B E v v2 kv l after w hE hv hn hb h1 hs
  by_cases h2 : 500 < wordN more
  · exact fails_wordy2 B E v v2 kv l more after w hE hv hn (by omega) hs hv2 hn2 hb2 h2 hs2
  by_cases h3 : after < 0 ∨ 500 < kl.length
  · exact fails_out B E v v2 kv l more kl after w hE hv hn (by omega) hs hv2 hn2 (by omega) hs2 hk h3
  obtain ⟨m, rfl⟩ : ∃ m : Nat, after = m := ⟨after.toNat, by omega⟩
  exact fails_run B E v v2 kv l more kl m w hE hv (by omega) hv2 (by omega) hk (by omega) (by omega)
theorem readable : ([43, 3, 38, 43].all fun t => Tryz.prog.readableRec t && decide (t < Tryz.prog.types.size)) = true := by kernel_rfl
set_option maxRecDepth 100000 in
theorem contract (H : Type) (enc : TypeId × Value → H) (W : World) (base : Nat) (args : Array Value) (ds gs : List (DataW H)) (before : List MemPlace)
    (hval : ∀ (j : Nat) t v, Tryz.f5.params[j]? = some t → args[j]? = some v → Value.okWide Tryz.prog W .any base t v)
    (hW : DataW.Whole enc Tryz.prog Tryz.f5.params.toList Rows.logFailsSpec.vars false W args.toList ds gs before) (hL : laidMetH Tryz.prog Rows.logFailsRow.laid W)
    (hk : Rows.uptoSmall H (ds ++ gs) = true) :
    Calls Tryz.prog 5 args W fun e W' => ∃ v, e = .returned v ∧ Rows.logFailsSpec.post enc Tryz.prog Tryz.f5 false true false false W args v W' := by
  have hW' := hW
  obtain ⟨p, q, hA0, hV, rfl, hfz, hnd⟩ := hW
  have hA : DataW.TrodAll enc Tryz.prog W 0 (fun _ => true) true Tryz.f5.params.toList args.toList ds p := hA0
  rw [Tryz.params5] at hA hval
  have hA1 := hA
  obtain ⟨v0, vs0, d0, ds0, p0, q0, hargs, rfl, rfl, h0, r0⟩ := trodAll_cons hA
  obtain ⟨v1, vs1, d1, ds1, p1, q1, rfl, rfl, rfl, h1, r1⟩ := trodAll_cons r0
  obtain ⟨v2, vs2, d2, ds2, p2, q2, rfl, rfl, rfl, h2, r2⟩ := trodAll_cons r1
  obtain ⟨v3, vs3, d3, ds3, p3, q3, rfl, rfl, rfl, h3, r3⟩ := trodAll_cons r2
  obtain ⟨rfl, rfl, rfl⟩ := trodAll_nil r3
  obtain rfl : args = #[v0, v1, v2, v3] := by cases args; simp_all
  obtain ⟨rfl, rfl⟩ := trodVars_none hV
  obtain ⟨n, rfl, rfl, rfl, wn⟩ := open_int Tryz.underlying3 (hval 1 3 v1 rfl rfl) h1
  obtain ⟨a0, len, cap, rfl⟩ := okWide_slice Tryz.underlying43 (hval 0 43 v0 rfl rfl)
  obtain ⟨a2, len2, cap2, rfl⟩ := okWide_slice Tryz.underlying38 (hval 2 38 v2 rfl rfl)
  obtain ⟨a3, len3, cap3, rfl⟩ := okWide_slice Tryz.underlying43 (hval 3 43 v3 rfl rfl)
  obtain ⟨fuel, hf⟩ := h0
  obtain ⟨fuel2, hf2⟩ := h2
  obtain ⟨fuel3, hf3⟩ := h3
  obtain ⟨l, hG, hlen, hbulk, hsm⟩ := recs_of_trod hf
  obtain ⟨kl, hK, hklen⟩ := bools_of_trod hf2
  obtain ⟨more, hG3, hlen3, hbulk3, hsm3⟩ := recs_of_trod hf3
  have hb : Rows.uptoBulk d0 ≤ 1048576 ∧ Rows.uptoBulk d3 ≤ 1048576 := by
    have h := of_decide_eq_true hk
    simp only [List.cons_append, Rows.uptoBulkAll] at h
    omega
  simp only at hlen hbulk hsm hlen3 hbulk3 hsm3
  obtain ⟨E, hE⟩ := env_of_laid hL
  have walk := fails_any W.heap.size E _ _ _ l more kl n W hE hG (by omega) (by omega) (fun a ha => by
    have := hsm a ha
    exact ⟨by omega, fun s hs => by have := this.2 s hs; omega⟩) hG3 (by omega) (by omega) (fun a ha => by
    have := hsm3 a ha
    exact ⟨by omega, fun s hs => by have := this.2 s hs; omega⟩) hK (bounds_i64 wn).2
  refine walk.mono fun e W' ⟨he, hg⟩ => ?_
  subst he
  have hlt : ∀ x ∈ p0 ++ ([] ++ (p2 ++ (p3 ++ []))), x.block < W.heap.size := fun x hx => by
    have := hW'.lt x (List.mem_append_left _ hx)
    exact this
  exact ⟨_, rfl, post_of_below (pa := p0 ++ ([] ++ (p2 ++ (p3 ++ [])))) (pv := []) hW' (fun _ _ _ => trodAll_cons_mk (shut_bool Tryz.underlying4 _) trodAll_mk0)
    (fun sp hsp => stays_all laidOut (hg.below (by simp) (Nat.le_refl _)) readable hA1 hlt (fun x hx => hsp x (List.mem_append_left _ hx)))
    (fun _ _ => rfl) rfl (hg.below (by simp) (Nat.le_refl _)) (ok_one (by kernel_rfl) rfl (okWide_bool_mk Tryz.underlying4 _))⟩

theorem reads (os : Os) {H : Type} (enc : TypeId × Value → H) : ∃ places, DataW.whole enc Tryz.prog ((laidWorld os).forCall (fun _ _ => 0) ⟨#[], #[.slice none 0 0, .int .i64 0, .slice none 0 0, .slice none 0 0], []⟩).memory Tryz.f5.params.toList Rows.logFailsSpec.vars false #[Value.slice none 0 0, .int .i64 0, .slice none 0 0, .slice none 0 0].toList 8 = some ([.nil, .lit (.int .i64 0), .nil, .nil], [], places) :=
  ⟨[], by kernel_rfl⟩

set_option maxRecDepth 100000 in
theorem liftedUpto (os : Os) (started : os.Started) (H : Type) (enc : TypeId × Value → H) (F : Stop.Interp) :
    ReturnsInHanded {} Tryz.checked os 5 .any ((Rows.OpenSpec.upto Rows.logFailsSpec).preRow enc Tryz.prog Tryz.f5 Rows.logFailsUptoRow.domain false Rows.logFailsUptoRow.laid) (((Rows.OpenSpec.upto Rows.logFailsSpec).at F).post enc Tryz.prog Tryz.f5 false true false false) := by
  obtain ⟨places, hx⟩ := reads os enc
  refine returnsInHanded_of_row (C := Tryz.checked) (s := Rows.OpenSpec.upto Rows.logFailsSpec) own started (by kernel_rfl) Tryz.func5
    (witness_row_atRef (enc := enc) (C := Tryz.checked) false (laidWorld os) #[.slice none 0 0, .int .i64 0, .slice none 0 0, .slice none 0 0] (laidWorld_os os) (by kernel_rfl) (by kernel_rfl) (by kernel_rfl)
      (OpenSpec.preRow_of_cond 8 hx (by kernel_rfl) (fun k hk => by cases hk; kernel_rfl) (by kernel_rfl) (laid_met os _))) ?_
  intro W base args ds gs before hval hW _ hcond _ hL _ _
  exact contract H enc W base args ds gs before hval hW hL (hcond _ rfl)

theorem saidUpto : Rows.LogFailsUptoSaid :=
  OpenClaim.holds_of_cond 5 Tryz.f5 rfl rfl rfl rfl rfl rfl rfl ⟨rfl, rfl, rfl, rfl, rfl⟩ rfl rfl rfl rfl rfl (by kernel_rfl) Tryz.func5 (by kernel_rfl)
    (of_decide_eq_true (by kernel_rfl)) (by unfold Func.isWrapper; first | (rw [if_pos (by decide +kernel)]; kernel_rfl) | (rw [if_neg (by decide +kernel)]; exact ⟨rfl, rfl⟩))
    (fun os started H enc _ F => by rw [OpenClaim.pre_eq_preRow]; exact liftedUpto os started H enc F)

/-- No parameter wants a stand-in; the program's own looks: what the card asks. -/
theorem plain (f : FuncId) (fn : Func) (hf : Tryz.pinned.checked.prog.funcNamed "pigeonholes/pigeonholeslaw4.LogFails" = some f) (hfn : Tryz.pinned.checked.prog.funcs[f]? = some fn) :
    true = Tryz.pinned.checked.prog.looks [] ∧ ∀ (j : Nat) t, fn.params[j]? = some t → Tryz.pinned.checked.prog.wantsStandIn t = false := by
  obtain rfl : f = 5 := Option.some.inj ((show Tryz.prog.funcNamed "pigeonholes/pigeonholeslaw4.LogFails" = some 5 by kernel_rfl).symm.trans hf) |>.symm
  obtain rfl : fn = Tryz.f5 := (Option.some.inj (Tryz.func5.symm.trans hfn)).symm
  refine ⟨by kernel_rfl, fun j t ht => ?_⟩
  rw [Tryz.params5] at ht
  have hall : ([43, 3, 38, 43].all fun t => Tryz.prog.wantsStandIn t == false) = true := by kernel_rfl
  have hm : t ∈ [43, 3, 38, 43] := by simpa using Array.mem_of_getElem? ht
  have h1 := List.all_eq_true.1 hall t hm
  have h2 : Tryz.prog.wantsStandIn t = false := by simpa using h1
  exact h2

theorem cardUpto : Rows.LogFailsUptoCardSaid :=
  Claim7.holds_tied_plain_at .later [] _ _ _ _ saidUpto (fun _ h => by cases h) (by kernel_rfl) (fun _ h => by cases h) logFailsUpto_row_tie rfl ⟨rfl, rfl⟩ (by kernel_rfl) rfl plain (by kernel_rfl)
end Go.Proofs.YtdcafgpnomcbhaaGreatDoor.logFails
