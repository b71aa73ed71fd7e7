/- (*Log).put, Clear. -/
import Derived.Test.YtdcafgpnomcbhaaGreatDoorLwrite
namespace Go.Proofs.YtdcafgpnomcbhaaGreatDoor
open Go.RowKit
set_option linter.unusedVariables false

def LW (B b g : Nat) (F : List Nat) (w : World) (D' : DSt) (x : Nat × Nat × Nat) (lost : Bool) (w' : World) : Prop :=
  ∃ F', Disk B w' b D' F' ∧ Chg (g :: F) w w' ∧ (∀ x ∈ F', x ∈ F ∨ w.heap.size ≤ x) ∧ LogBlk w' g b x lost
def putF (D : DSt) (a k size : Nat) (s : ByteArray) (x : Nat × Nat × Nat) : (Nat × Nat × Nat) × Bool :=
  if (lwriteF D a k size s).2 = 0 then ((a + 1, k, size + s.size), false) else (x, true)

set_option maxHeartbeats 1000000 in
set_option maxRecDepth 100000 in
theorem lput_any (B b g : Nat) (E : Nat → Addr) (F : List Nat) (D : DSt) (a h c : Nat) (k size : Nat) (s : ByteArray) (w : World) (hE : Env B E w) (hd : Disk B w b D F) (ok : D.Ok) (hw : D.wait.length ≤ 100000)
    (hl : LogBlk w g b (a, h, c) false) (hg : g ∉ F) (ha : a ≤ 1000000) (hk : k < 2) (hsz : size ≤ 1000000) (hs : s.size ≤ 1000000) (hsm : s.size % 64 = 0) :
    Calls Tryz.prog 35 #[.pointer (some ⟨g, 0, none⟩), .int .i64 k, .int .i64 size, .string s] w fun e w' =>
      e = .returned (errv E (lwriteF D a k size s).2) ∧ LW B b g F w (lwriteF D a k size s).1 (putF D a k size s (a, h, c)).1 (putF D a k size s (a, h, c)).2 w' := by
  have HC := Lib.hid (lwrite_any B b g E F D a h c k size s w hE hd ok hw hl hg ha hk hsz hs hsm)
  have HD := Lib.hid hd
  have HL := Lib.hid hl
  have HG := Lib.hid hg
  have hgl := Blk.lt hl
  unfold putF
  generalize lwriteF D a k size s = R at HC ⊢
  obtain ⟨D1, e1⟩ := R
  clear hd hl hE ok
  go_enter Tryz.func35, Tryz.ntmps35
  go_wp2_with (fail)
  refine HC.out.mono ?_
  rintro e w1 hp
  obtain ⟨rfl, hdw⟩ := hp.dw
  have hl1 := DW.blk hdw HL.out HG.out
  obtain ⟨F1, hd1, hc1, hf1⟩ := hdw
  have hg1 : g ∉ F1 := by
    intro hx
    rcases hf1 g hx with h | h
    · exact hg h
    · omega
  have HL1 := Lib.hid hl1
  have HD1 := Lib.hid (And.intro hd1 (And.intro hc1 (And.intro hf1 hg1)))
  clear hp hd1 hc1 hf1 hg1 HC hg
  by_cases hc : e1 = 0
  · subst hc
    have c1 := Blk.cell hl1 1 rfl
    have f1 := Blk.froz hl1 1
    have hb2 := Blk.set hl1 1 (.int .i64 ((a : Int) + 1))
    have f2 := Blk.froz hb2 2
    have c2 := Blk.cell hb2 2 rfl
    have hb3 := Blk.set hb2 2 (.int .i64 (k : Int))
    have f3 := Blk.froz hb3 3
    have c3 := Blk.cell hb3 3 rfl
    have hb4 := Blk.set hb3 3 (.int .i64 ((size : Int) + (s.size : Int)))
    have HB4 := Lib.hid hb4
    rw [errv_zero]
    clear hb4 hb2 hb3 hl1
    go_wp2
    go_ret
    refine ⟨rfl, F1, ?_, ?_, HD1.out.2.2.1, ?_⟩
    · refine Disk.chg (S := [g]) (Disk.chg (S := [g]) (Disk.chg (S := [g]) HD1.out.1 (Chg.setCell _ _ _ (by simp)) ?_) (Chg.setCell _ _ _ (by simp)) ?_) (Chg.setCell _ _ _ (by simp)) ?_
      all_goals
        intro x hx hxg
        have : x = g := by simpa using hxg
        subst this
        exact HD1.out.2.2.2 hx
    · refine Chg.trans (Chg.trans (Chg.trans (HD1.out.2.1.mono (T := g :: F) (fun x hx => .inl (by simp [hx]))) (Chg.setCell (S := [g]) _ _ _ (by simp)) ?_) (Chg.setCell (S := [g]) _ _ _ (by simp)) ?_) (Chg.setCell (S := [g]) _ _ _ (by simp)) ?_
      all_goals
        intro x hx
        have : x = g := by simpa using hx
        exact .inl (by simp [this])
    · have := HB4.out
      simp only [List.set_cons_succ, List.set_cons_zero] at this
      unfold LogBlk
      push_cast
      exact this
  · have c4 := Blk.cell hl1 4 rfl
    have f4 := Blk.froz hl1 4
    have hb4 := Blk.set hl1 4 (.bool true)
    have HB4 := Lib.hid hb4
    rw [errv_some E hc]
    have Hc := Lib.hid hc
    clear hb4 hl1 hc
    go_wp2
    go_ret
    rw [errv_some E Hc.out]
    refine ⟨rfl, F1, ?_, ?_, HD1.out.2.2.1, ?_⟩
    · refine Disk.chg (S := [g]) HD1.out.1 (Chg.setCell _ _ _ (by simp)) ?_
      intro x hx hxg
      have : x = g := by simpa using hxg
      subst this
      exact HD1.out.2.2.2 hx
    · refine Chg.trans (HD1.out.2.1.mono (T := g :: F) (fun x hx => .inl (by simp [hx]))) (Chg.setCell (S := [g]) _ _ _ (by simp)) ?_
      intro x hx
      have : x = g := by simpa using hx
      exact .inl (by simp [this])
    · have := HB4.out
      simp only [List.set_cons_succ, List.set_cons_zero] at this
      exact this

/-- what a call of a log answers -/
def actF (D : DSt) (x : Nat × Nat × Nat) (lost : Bool) (clear : Bool) (s : ByteArray) : DSt × (Nat × Nat × Nat) × Bool × Nat :=
  if lost = true then (D, x, lost, 15)
  else if hN D.now.length * 64 < (if clear = true then 0 else x.2.2) + s.size then (D, x, lost, 9)
  else if clear = false ∧ s.size = 0 then (D, x, lost, 0)
  else
    let k := if clear = true then 1 - x.2.1 else x.2.1
    let z := if clear = true then 0 else x.2.2
    ((lwriteF D x.1 k z s).1, (putF D x.1 k z s x).1, (putF D x.1 k z s x).2, (lwriteF D x.1 k z s).2)
theorem LW.refl {B b g : Nat} {F : List Nat} {w : World} {D : DSt} {x : Nat × Nat × Nat} {lost : Bool} (hd : Disk B w b D F) (hl : LogBlk w g b x lost) : LW B b g F w D x lost w :=
  ⟨F, hd, Chg.refl _ _, fun x hx => .inl hx, hl⟩
theorem LW.pre {B b g : Nat} {F : List Nat} {w0 w w' : World} {D : DSt} {x : Nat × Nat × Nat} {lost : Bool} (hc : Chg [] w0 w) (h : LW B b g F w D x lost w') : LW B b g F w0 D x lost w' := by
  obtain ⟨F', h1, h2, h3, h4⟩ := h
  exact ⟨F', h1, (hc.mono (by simp)).trans h2 (by intro y hy; exact .inl hy), fun y hy => (h3 y hy).imp id (fun h => by have := hc.size; omega), h4⟩
theorem LW.post {B b g : Nat} {F : List Nat} {w w1 w' : World} {D : DSt} {x : Nat × Nat × Nat} {lost : Bool} (h : LW B b g F w D x lost w1) (hc : Chg [] w1 w') : LW B b g F w D x lost w' := by
  obtain ⟨F', h1, h2, h3, h4⟩ := h
  exact ⟨F', h1.chg hc (by simp), h2.trans hc (by simp), h3, h4.chg hc (by simp)⟩
theorem packL_mod (rs : List ByteArray) : (packL rs).length % 64 = 0 := by
  unfold packL
  rw [List.length_append, Lib.repeatL_length]
  simp
  omega
theorem packL_le (rs : List ByteArray) : (packL rs).length ≤ (bodyL rs).length + 63 := by
  unfold packL
  rw [List.length_append, Lib.repeatL_length]
  simp
  omega

set_option maxHeartbeats 1000000 in
set_option maxRecDepth 100000 in
theorem lClear_any (B b g : Nat) (E : Nat → Addr) (F : List Nat) (D : DSt) (a h c : Nat) (lost : Bool) (v : Value) (rs : List ByteArray) (w : World) (hE : Env B E w) (hd : Disk B w b D F) (ok : D.Ok) (hw : D.wait.length ≤ 100000)
    (hl : LogBlk w g b (a, h, c) lost) (hg : g ∉ F) (ha : a ≤ 1000000) (hh : h < 2) (hv : Row w 9 1 v rs.length (rs.map .string)) (hb : (bodyL rs).length ≤ 900000) (hn : rs.length ≤ 1000000) :
    Calls Tryz.prog 36 #[.pointer (some ⟨g, 0, none⟩), v] w fun e w' =>
      e = .returned (errv E (actF D (a, h, c) lost true (bs (packL rs))).2.2.2) ∧ LW B b g F w (actF D (a, h, c) lost true (bs (packL rs))).1 (actF D (a, h, c) lost true (bs (packL rs))).2.1 (actF D (a, h, c) lost true (bs (packL rs))).2.2.1 w' := by
  have hp1 := packL_mod rs
  have hp2 := packL_le rs
  have HP := Lib.hid (pack_any B E v rs w hE hv (by omega) hn)
  have hsz := bs_size (packL rs)
  generalize bs (packL rs) = s at HP hsz ⊢
  have HE := Lib.hid hE
  have HD := Lib.hid hd
  have HL := Lib.hid hl
  have HG := Lib.hid hg
  have Hok := Lib.hid ok
  have mlen := ok.len
  have mpos := ok.pos
  have hs1 : s.size ≤ 1000000 := by omega
  have hs2 : s.size % 64 = 0 := by omega
  have hH : hN D.now.length ≤ 2000 := by unfold hN; omega
  obtain ⟨va, vc, rfl, hv1, hv2⟩ := hv.len
  clear hE hd hl hg ok hv hb hn hp1 hp2 hsz
  go_enter Tryz.func36, Tryz.ntmps36
  go_wp2_with (fail)
  refine HP.out.mono ?_
  rintro e w1 ⟨rfl, hb1⟩
  have HC1 := Lib.hid (Chg.of_below hb1 [])
  have HL1 := HL.out.chg HC1.out (by simp)
  have c4 := Blk.cell HL1 4 rfl
  cases lost with
  | true =>
    have hg := (HE.out.chg HC1.out (by simp)).glob (15, 3) (by simp [errTab])
    have HLL := Lib.hid HL1
    clear HL1 hb1
    go_wp2
    go_ret
    exact ⟨rfl, LW.pre HC1.out (LW.refl (HD.out.chg HC1.out (by simp)) HLL.out)⟩
  | false =>
    have c0 := Blk.cell HL1 0 rfl
    have c2 := Blk.cell HL1 2 rfl
    have hcb : ∃ a c, w1.cell? ⟨b, 2, none⟩ = some (.slice a D.now.length c) := by
      obtain ⟨k, n, kc, nc, wv, rfl, hB, hat⟩ := HD.out.chg HC1.out (by simp)
      exact ⟨_, _, hat.blk.cell 2 rfl⟩
    obtain ⟨ra, rc, hcb⟩ := hcb
    have HH := Lib.hid (half_any b D.now.length rc w1 ra hcb mlen)
    rw [hN_eq _ mpos] at HH
    have HE1 := Lib.hid (HE.out.chg HC1.out (by simp))
    have HD1 := Lib.hid (HD.out.chg HC1.out (by simp))
    have HLL := Lib.hid HL1
    have hg := HE1.out.glob (9, 2) (by simp [errTab])
    clear hb1 HL1 hcb HP
    by_cases hbig : hN D.now.length * 64 < s.size
    · have hbi : (hN D.now.length : Int) * 64 < s.size := by omega
      have hact : actF D (a, h, c) false true s = (D, (a, h, c), false, 9) := by
        unfold actF
        rw [if_neg (by simp), if_pos (by simpa using hbig)]
      have Hact := Lib.hid hact
      clear hact hbig
      go_wp2_with (fail)
      refine HH.out.mono ?_
      rintro e w2 ⟨rfl, rfl⟩
      go_wp2
      go_ret
      rw [Hact.out]
      exact ⟨rfl, LW.pre HC1.out (LW.refl HD1.out HLL.out)⟩
    · have hbi : (s.size : Int) ≤ (hN D.now.length : Int) * 64 := by omega
      have hact : actF D (a, h, c) false true s = ((lwriteF D a (1 - h) 0 s).1, (putF D a (1 - h) 0 s (a, h, c)).1, (putF D a (1 - h) 0 s (a, h, c)).2, (lwriteF D a (1 - h) 0 s).2) := by
        unfold actF
        rw [if_neg (by simp), if_neg (by simpa using hbig), if_neg (by simp)]
        rfl
      have Hact := Lib.hid hact
      have HPut := Lib.hid (lput_any B b g E F D a h c (1 - h) 0 s w1 HE1.out HD1.out Hok.out hw HLL.out HG.out ha (by omega) (by omega) hs1 hs2)
      have hki : (1 : Int) - (h : Int) = ((1 - h : Nat) : Int) := by omega
      clear hact hbig
      go_wp2_with (fail)
      refine HH.out.mono ?_
      rintro e w2 ⟨rfl, rfl⟩
      go_wp2_with (fail)
      refine HPut.out.mono ?_
      rintro e w3 ⟨rfl, hlw⟩
      have HLW := Lib.hid hlw
      clear hlw
      go_wp2
      go_ret
      rw [Hact.out]
      exact ⟨rfl, LW.pre HC1.out HLW.out⟩
end Go.Proofs.YtdcafgpnomcbhaaGreatDoor
