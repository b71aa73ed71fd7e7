/- doAct: an act on a disk. -/
import Derived.Test.YtdcafgpnomcbhaaGreatDoorBulky
import Derived.StillTailTactics
namespace Go.Proofs.YtdcafgpnomcbhaaGreatDoor
open Go.RowKit
set_option linter.unusedVariables false

theorem infoBool' : (Tryz.prog.info? 4).map (fun i => (i.zero, i.size, i.bytes)) = some (some (.bool false), 1, 1) := by kernel_rfl
theorem run_append_bools (w : World) (x : Value) (l : List Bool) (hx : BoolsG w x l) (hn : l.length ≤ 10000000) :
    ∃ v' w', (Builtin.append_ #[38, 38] 38 #[.slice none 0 0, x]).run Tryz.prog w = .ok v' w' ∧ Row w' 4 1 v' l.length (l.map .bool) ∧ Chg [] w w' ∧ (∀ x, v'.ownBlock = some x → w.heap.size ≤ x) := by
  obtain ⟨i0, hi, hz0, hz1, hz2⟩ := info_parts infoBool'
  rcases hx with ⟨rfl, rfl⟩ | ⟨ad, c, rfl, h1, h2, h3⟩
  · exact ⟨.slice none 0 0, w, run_append_owned_none (P := Tryz.prog) (w := w) 0 38 38 4 i0 1 Tryz.underlying38 hi _ 0 [] (Row.nil _ _ _), Row.nil _ _ _, Chg.refl _ _, fun x hx => by cases hx⟩
  · obtain ⟨v', w', hr, ho, hg', hb, -⟩ := run_append_row (P := Tryz.prog) w 38 38 4 i0 _ 1 1 Tryz.underlying38 hi hz0 hz1 hz2 rfl (by decide) (.slice none 0 0) 0 [] (Row.nil _ _ _) ad l.length c (l.map .bool) (by simp) (by
      intro j u hu
      rw [List.getElem?_map] at hu
      obtain ⟨s, hs, rfl⟩ := Option.map_eq_some_iff.1 hu
      exact h3 j s hs) (by intro u hu; obtain ⟨s, -, rfl⟩ := List.mem_map.1 hu; rfl) (by unfold maxLen; omega) (by omega)
    exact ⟨v', w', hr, by simpa using ho, Chg.of_grown hg', fun x hx => (hb x hx).elim (fun h => by cases h) id⟩
theorem wpList_append_bools {w : World} {ops : Array Oper} {rest : List Oper} {o : Oper} {a : Act} {Q : Exit → Act → World → Prop} (hgd : o.guard = none) (s x : Operand)
    (ho : o.op = .call { callee := .builtin .append, args := #[s, x], argTypes := #[38, 38] }) (hty : o.type = 38) (hs : a.eval s = .slice none 0 0)
    (y : Value) (l : List Bool) (hx : a.eval x = y) (hy : BoolsG w y l) (hn : l.length ≤ 10000000)
    (h : ∀ v' w', Row w' 4 1 v' l.length (l.map .bool) → Chg [] w w' → (∀ x, v'.ownBlock = some x → w.heap.size ≤ x) → wpList Tryz.prog ops Q rest (a.put o.dst v') w') : wpList Tryz.prog ops Q (o :: rest) a w := by
  refine wpList_plain hgd fun K hK => ?_
  obtain ⟨v', w', hr, h2, h3, h4⟩ := run_append_bools w y l hy hn
  unfold Oper.wp execOp
  simp only [ho, hty, resolve, invoke, builtin, Sem.run_bind, Sem.run_pure, Result.andThen_ok, List.map_toArray, List.map_cons, List.map_nil, hs, hx, hr]
  exact hK _ _ (h v' w' h2 h3 h4)
def wWrite : ByteArray := ⟨#[119, 114, 105, 116, 101]⟩
def wFlush : ByteArray := ⟨#[102, 108, 117, 115, 104]⟩
def wFail : ByteArray := ⟨#[102, 97, 105, 108]⟩
def wCrash : ByteArray := ⟨#[99, 114, 97, 115, 104]⟩
def DSt.doAct (D : DSt) (a : ActT) : DSt × Nat :=
  if a.kind = wWrite then D.write a.n a.s else if a.kind = wFlush then D.flush else if a.kind = wFail then D.fail a.n else if a.kind = wCrash then (D.crash a.keep, 0) else (D, 0)
theorem str_eq (a b : ByteArray) : (a.toList == b.toList) = decide (a = b) := by
  by_cases h : a = b
  · subst h; simp
  · rw [decide_eq_false h, beq_eq_false_iff_ne]
    intro he
    rw [ByteArray.toList_eq, ByteArray.toList_eq] at he
    exact h (ByteArray.ext (by simpa using he))

set_option maxHeartbeats 1000000 in
set_option maxRecDepth 100000 in
theorem doAct_any (B b : Nat) (E : Nat → Addr) (F : List Nat) (D : DSt) (a : ActT) (kv : Value) (w : World) (hE : Env B E w) (hd : Disk B w b D F) (ok : D.Ok) (f : D.Full) (hk : BoolsG w kv a.keep) (hkn : a.keep.length ≤ 10000000) :
    Calls Tryz.prog 12 #[.pointer (some ⟨b, 0, none⟩), .agg #[.string a.kind, .int .i64 a.n, .string a.s, kv]] w fun e w' => e = .returned (errv E (D.doAct a).2) ∧ DW B b F w (D.doAct a).1 w' := by
  have hca : Chg [] w (w.alloc (.cells #[.string a.kind, .int .i64 a.n, .string a.s, kv] 40)) := Chg.alloc [] _ _
  have HD := Lib.hid (hd.chg hca (by simp))
  have HE := Lib.hid (hE.chg hca (by simp))
  have HK := Lib.hid (hk.chg hca)
  have HC := Lib.hid hca
  obtain ⟨ka, kc, rfl, -, -⟩ := hk.len
  have q1 : (a.kind.toList == [119, 114, 105, 116, 101]) = decide (a.kind = wWrite) := by rw [← str_eq]; rw [ByteArray.toList_eq wWrite]; rfl
  have q2 : (a.kind.toList == [102, 108, 117, 115, 104]) = decide (a.kind = wFlush) := by rw [← str_eq]; rw [ByteArray.toList_eq wFlush]; rfl
  have q3 : (a.kind.toList == [102, 97, 105, 108]) = decide (a.kind = wFail) := by rw [← str_eq]; rw [ByteArray.toList_eq wFail]; rfl
  have q4 : (a.kind.toList == [99, 114, 97, 115, 104]) = decide (a.kind = wCrash) := by rw [← str_eq]; rw [ByteArray.toList_eq wCrash]; rfl
  unfold DSt.doAct
  generalize hV : (w.alloc (.cells #[.string a.kind, .int .i64 a.n, .string a.s, .slice ka a.keep.length kc] 40)) = W at HD HE HK HC
  have hWs : w.heap.size ≤ W.heap.size := HC.out.size
  have fin : ∀ (D' : DSt) (w' : World), DW B b F W D' w' → DW B b F w D' w' := fun D' w' h => DW.trans (HC.out.mono (by simp)) (fun x hx => .inl hx) h
  have Fin := Lib.hid fin
  have kb : Blk W w.heap.size 40 [.string a.kind, .int .i64 a.n, .string a.s, .slice ka a.keep.length kc] := by rw [← hV]; exact Blk.new w 40 _
  have j0 := kb.cell 0 rfl
  have j1 := kb.cell 1 rfl
  have j2 := kb.cell 2 rfl
  have j3 := kb.cell 3 rfl
  clear kb
  have HV := Lib.hid hV
  clear fin
  by_cases h1 : a.kind = wWrite
  · rw [if_pos h1]
    rw [decide_eq_true h1] at q1
    clear hE hd hk hca h1 q2 q3 q4
    have HW := Lib.hid (dWrite_any B b E F D a.n a.s _ HE.out HD.out ok)
    go_enter Tryz.func12, Tryz.ntmps12
    go_wp2_with (fail)
    refine HW.out.mono ?_
    rintro e w1 hp
    obtain ⟨rfl, hdw⟩ := hp.dw
    have HF := Lib.hid (Fin.out _ _ hdw)
    clear hp hdw hV
    go_wp2
    go_ret
    exact ⟨rfl, HF.out⟩
  rw [if_neg h1]
  rw [decide_eq_false h1] at q1
  by_cases h2 : a.kind = wFlush
  · rw [if_pos h2]
    rw [decide_eq_true h2] at q2
    clear hE hd hk hca h1 h2 q3 q4
    have HW := Lib.hid (dFlush_any B b E F D _ HE.out HD.out ok)
    go_enter Tryz.func12, Tryz.ntmps12
    go_wp2_with (fail)
    refine HW.out.mono ?_
    rintro e w1 hp
    obtain ⟨rfl, hdw⟩ := hp.dw
    have HF := Lib.hid (Fin.out _ _ hdw)
    clear hp hdw hV
    go_wp2
    go_ret
    exact ⟨rfl, HF.out⟩
  rw [if_neg h2]
  rw [decide_eq_false h2] at q2
  by_cases h3 : a.kind = wFail
  · rw [if_pos h3]
    rw [decide_eq_true h3] at q3
    clear hE hd hk hca h1 h2 h3 q4
    have HW := Lib.hid (pFail_any B b E F D a.n W.drew (HE.out.chg (Chg.drew [] _) (by simp)) (HD.out.chg (Chg.drew [] _) (by simp)))
    have k1 : W.drew.cell? ⟨w.heap.size, 1, none⟩ = some (.int .i64 a.n) := j1
    go_enter Tryz.func12, Tryz.ntmps12
    go_wp2_with (fail)
    refine wp_region_still_tail 5 (by kernel_rfl) (by kernel_rfl) ?_
    simp only [List.take_succ_cons, List.take_zero, List.drop_succ_cons, List.drop_zero]
    rw [show ({ W with drawn := W.drawn + 1 } : World) = W.drew from rfl]
    generalize hW2 : W.drew = W2 at k1 HW ⊢
    have HW2 := Lib.hid hW2
    clear hW2
    repeat still_step
    refine wpStill_nil ?_
    go_wp2_with (fail)
    refine HW.out.mono ?_
    rintro e w1 hp
    obtain ⟨rfl, hdw⟩ := hp.dw
    have HF := Lib.hid (Fin.out _ _ (DW.trans (by rw [← HW2.out]; exact Chg.drew _ _) (fun x hx => .inl hx) hdw))
    clear hp hdw hV
    go_wp2
    go_ret
    exact ⟨rfl, HF.out⟩
  rw [if_neg h3]
  rw [decide_eq_false h3] at q3
  by_cases h4 : a.kind = wCrash
  · rw [if_pos h4]
    rw [decide_eq_true h4] at q4
    have hB : B ≤ W.heap.size := HE.out.le
    clear hE hd hk hca h1 h2 h3 h4
    go_enter Tryz.func12, Tryz.ntmps12
    have hkk := HK.out
    clear hV
    go_wp2_with (at_builtin; refine wpList_append_bools rfl _ _ rfl rfl rfl _ a.keep rfl ?_ hkn ?_)
    · first | exact hkk | (rw [HV.out]; exact hkk)
    rw [HV.out]
    intro v1 w1 hr hc hb
    have hWz : W.heap.size = w.heap.size + 1 := by rw [← HV.out]; simp
    have hdk := HD.out.chg hc (by simp)
    have hlt := HD.out.lt
    have HW := Lib.hid (crash_any B b F v1 a.keep D w1 hdk ok (Nat.le_trans hB hc.size) f hr (fun x hx hm => by have := hlt x hm; have := hb x hx; omega))
    have HC1 := Lib.hid hc
    clear hr hb hdk hlt hc hkk hWz
    go_wp2_with (fail)
    refine HW.out.mono ?_
    rintro e w2 hp
    obtain ⟨rfl, hdw⟩ := hp.dw
    have HF := Lib.hid (Fin.out _ _ (DW.trans (HC1.out.mono (by simp)) (fun x hx => .inl hx) hdw))
    clear hp hdw
    go_wp2
    go_ret
    exact ⟨rfl, HF.out⟩
  · rw [if_neg h4]
    rw [decide_eq_false h4] at q4
    clear hE hd hk hca h1 h2 h3 h4
    go_enter Tryz.func12, Tryz.ntmps12
    go_wp2
    go_ret
    exact ⟨rfl, Fin.out _ _ (DW.refl HD.out)⟩
end Go.Proofs.YtdcafgpnomcbhaaGreatDoor
