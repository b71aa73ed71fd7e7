/- A call of a log, told for the laws' loops: it is full; it is done; the power is gone. -/
import Derived.Test.YtdcafgpnomcbhaaGreatDoorState
namespace Go.Proofs.YtdcafgpnomcbhaaGreatDoor
open Go.RowKit
set_option linter.unusedVariables false

theorem actF_same (D : DSt) (x : Nat × Nat × Nat) (lost clear : Bool) (s : ByteArray) (h : (actF D x lost clear s).2.2.2 ≠ 0) : (actF D x lost clear s).2.1 = x := by
  revert h
  unfold actF
  by_cases h1 : lost = true
  · rw [if_pos h1]; intro _; rfl
  rw [if_neg h1]
  by_cases h2 : hN D.now.length * 64 < (if clear = true then 0 else x.2.2) + s.size
  · rw [if_pos h2]; intro _; rfl
  rw [if_neg h2]
  by_cases h3 : clear = false ∧ s.size = 0
  · rw [if_pos h3]; intro _; rfl
  rw [if_neg h3]
  intro h
  simp only at h ⊢
  unfold putF
  rw [if_neg h]
theorem lwriteF_wait (D : DSt) (a k size : Nat) (s : ByteArray) : (lwriteF D a k size s).1.wait.length ≤ D.wait.length + s.size / 64 + 1 := by
  have h1 : ∀ n, (wrF D (2 + k * hN D.now.length + size / 64) s n).1.wait.length ≤ D.wait.length + n := by
    intro n
    induction n with
    | zero => exact Nat.le_refl _
    | succ n ih =>
      rw [wrF]
      split
      · have := write_wait (wrF D (2 + k * hN D.now.length + size / 64) s n).1 ((2 + k * hN D.now.length + size / 64 + n : Nat) : Int) (s.extract (64 * n) (64 * n + 64))
        omega
      · omega
  have h1 := h1 (s.size / 64)
  unfold lwriteF
  generalize wrF D (2 + k * hN D.now.length + size / 64) s (s.size / 64) = R at h1
  obtain ⟨D1, e1⟩ := R
  simp only at h1 ⊢
  have h4 := flush_wait D1
  have h5 := write_wait D1.flush.1 (((a + 1) % 2 : Nat) : Int) (bs (headL (a + 1) k (size + s.size)))
  have h6 := flush_wait (D1.flush.1.write (((a + 1) % 2 : Nat) : Int) (bs (headL (a + 1) k (size + s.size)))).1
  split
  · split
    · split
      · omega
      · omega
    · omega
  · show D1.wait.length ≤ _
    omega
theorem actF_wait (D : DSt) (x : Nat × Nat × Nat) (lost clear : Bool) (s : ByteArray) : (actF D x lost clear s).1.wait.length ≤ D.wait.length + s.size / 64 + 1 := by
  unfold actF
  by_cases h1 : lost = true
  · rw [if_pos h1]; simp only; omega
  rw [if_neg h1]
  by_cases h2 : hN D.now.length * 64 < (if clear = true then 0 else x.2.2) + s.size
  · rw [if_pos h2]; simp only; omega
  rw [if_neg h2]
  by_cases h3 : clear = false ∧ s.size = 0
  · rw [if_pos h3]; simp only; omega
  rw [if_neg h3]
  exact lwriteF_wait _ _ _ _ _

/-- whose texts stay where they are -/
def Stays (w0 wr w3 : World) (g : Nat) (F F' : List Nat) : Prop :=
  ∀ (v : Value) (l : List ByteArray), Texts wr v l → OwnT w0 g F v l → Texts w3 v l ∧ OwnT w0 g F' v l
def ActFull (B b g : Nat) (E : Nat → Addr) (w0 : World) (n m : Nat) (wr : World) (D : DSt) (F : List Nat) (a h c : Nat) (ps : List (List ByteArray)) (clear : Bool) (rs : List ByteArray) (e : Ending) (w3 : World) : Prop :=
  e = .returned (.iface 171 (.pointer (some (E 9)))) ∧ hN n * 64 < (packsL (packN clear ps)).length + (packL rs).length ∧ ∃ F', LogSt0 B b g w0 n (m + 1) w3 D F' a h c ps ∧ Stays w0 wr w3 g F F'
def ActDone (B b g : Nat) (w0 : World) (n m : Nat) (wr : World) (D : DSt) (F : List Nat) (ps : List (List ByteArray)) (clear : Bool) (rs : List ByteArray) (e : Ending) (w3 : World) : Prop :=
  e = .returned .nilIface ∧ ∃ (D' : DSt) (F' : List Nat) (a' h' c' : Nat) (ps' : List (List ByteArray)), (D.left = -1 → D'.left = -1) ∧ ps'.flatten = nextF clear ps.flatten rs ∧ ps'.length ≤ (packN clear ps).length + 1 ∧
    LogSt0 B b g w0 n (m + 1) w3 D' F' a' h' c' ps' ∧ Stays w0 wr w3 g F F'
def ActLost (B b g : Nat) (E : Nat → Addr) (w0 : World) (n m : Nat) (wr : World) (D : DSt) (F : List Nat) (ps : List (List ByteArray)) (clear : Bool) (rs : List ByteArray) (e : Ending) (w3 : World) : Prop :=
  e = .returned (.iface 171 (.pointer (some (E 15)))) ∧ D.left ≠ -1 ∧ ∃ D' F' x, LostSt B b g w0 n (m + 1) w3 D' F' x ps.flatten (nextF clear ps.flatten rs) ∧ Stays w0 wr w3 g F F'

theorem acted_any {B b g : Nat} {E : Nat → Addr} {w0 : World} {n m : Nat} {wr : World} {D : DSt} {F : List Nat} {a h c : Nat} {ps : List (List ByteArray)} (L : LogSt0 B b g w0 n m wr D F a h c ps) (hE : Env B E wr)
    (clear : Bool) (kv : Value) (rs : List ByteArray) (hx : TextsG wr kv rs) (hw : wordT rs ≤ 500) (hm : m ≤ 1000) (hn : n ≤ 4000) :
    Calls Tryz.prog 16 #[.pointer (some ⟨g, 0, none⟩), .agg #[.bool clear, kv]] wr fun e w3 =>
      ActFull B b g E w0 n m wr D F a h c ps clear rs e w3 ∨ ActDone B b g w0 n m wr D F ps clear rs e w3 ∨ ActLost B b g E w0 n m wr D F ps clear rs e w3 := by
  have hrs := word_small hw
  have hbl := body_word rs hrs
  have hpl := packL_le rs
  have hsz := bs_size (packL rs)
  have hlen := wordT_len rs
  have haj := L.aj
  have hw0 : D.wait.length = 0 := by rw [L.rest.wait]; rfl
  refine (act_any B b g E F D a h c false clear kv rs wr hE L.disk L.ok (by omega) L.log L.gF (by omega) L.good.h2 (L.c400 hn) hx (by omega) (by omega)).mono ?_
  have hA := actF_all L.rest L.good clear rs hrs (by omega) (by omega) (by rw [L.len]; exact hn)
  have hok := actF_ok L.ok (a, h, c) false clear (bs (packL rs)) (by omega)
  have hfull := actF_full L.full (a, h, c) false clear (bs (packL rs))
  have hwait := actF_wait D (a, h, c) false clear (bs (packL rs))
  have hsame := actF_same D (a, h, c) false clear (bs (packL rs))
  generalize actF D (a, h, c) false clear (bs (packL rs)) = R at hA hok hfull hwait hsame
  obtain ⟨D', x', lost', code'⟩ := R
  obtain ⟨hcs, hpw⟩ := hA
  simp only at hok hfull hwait hsame hcs hpw
  rintro e w3 ⟨he, hlw⟩
  simp only at he hlw
  rcases hcs with ⟨hR, hfit⟩ | ⟨h0, hl0, hrest, hlen', hax, ps', hgood, hfl, hps⟩ | ⟨h15, hl1, hcr⟩
  · left
    simp only [Prod.mk.injEq] at hR
    obtain ⟨rfl, rfl, rfl, rfl⟩ := hR
    obtain ⟨F', hd, hc, hf, hl⟩ := hlw
    obtain ⟨f1, f2, f3, f4⟩ := lw_frame L hf hc
    exact ⟨he, by rw [← L.len]; exact hfit, F', ⟨hd, L.rest, L.ok, L.len, L.good, by omega, hl, f1, f2, f3, L.gfresh⟩, f4⟩
  · right; left
    subst h0 hl0
    obtain ⟨a', h', c'⟩ := x'
    obtain ⟨F', hd, hc, hf, hl⟩ := hlw
    obtain ⟨f1, f2, f3, f4⟩ := lw_frame L hf hc
    refine ⟨he, D', F', a', h', c', ps', fun h => (hpw h).2, hfl, ?_, ⟨hd, hrest, hok, hlen'.trans L.len, hgood, ?_, hl, f1, f2, f3, L.gfresh⟩, f4⟩
    · rcases hps with rfl | ⟨rfl, hcl, -⟩
      · simp
      · subst hcl; simp [packN]
    · simp only at hax; omega
  · right; right
    subst h15 hl1
    have hx' := hsame (by simp)
    subst hx'
    obtain ⟨F', hd, hc, hf, hl⟩ := hlw
    obtain ⟨f1, f2, f3, f4⟩ := lw_frame L hf hc
    refine ⟨he, fun h => (hpw h).1 rfl, D', F', (a, h, c), ⟨hd, hok, hfull, ⟨by show a ≤ _; omega, L.good.h2, L.c400 hn⟩, by omega, hl, f1, f2, f3, L.gfresh, fun keep => ?_⟩, f4⟩
    obtain ⟨k1, a1, h1, c1, ps1, k2, k3, k4⟩ := hcr keep
    exact ⟨k1.trans L.len, a1, h1, c1, ps1, by omega, k3, k4⟩
/-- .. where the power is gone: nothing is done -/
theorem lost_any {B b g : Nat} {E : Nat → Addr} {w0 : World} {n m : Nat} {wr : World} {D : DSt} {F : List Nat} {x : Nat × Nat × Nat} {l1 l2 : List ByteArray} (L : LostSt B b g w0 n m wr D F x l1 l2) (hE : Env B E wr)
    (clear : Bool) (kv : Value) (rs : List ByteArray) (hx : TextsG wr kv rs) (hw : wordT rs ≤ 500) :
    Calls Tryz.prog 16 #[.pointer (some ⟨g, 0, none⟩), .agg #[.bool clear, kv]] wr fun e w3 =>
      e = .returned (.iface 171 (.pointer (some (E 15)))) ∧ ∃ F', LostSt B b g w0 n m w3 D F' x l1 l2 ∧ Stays w0 wr w3 g F F' := by
  have hrs := word_small hw
  have hbl := body_word rs hrs
  have hlen := wordT_len rs
  obtain ⟨a, h, c⟩ := x
  have hxa := L.xa
  simp only at hxa
  refine (act_any B b g E F D a h c true clear kv rs wr hE L.disk L.ok L.wait L.log L.gF hxa.1 hxa.2.1 hxa.2.2 hx (by omega) (by omega)).mono ?_
  rintro e w3 ⟨he, hlw⟩
  have hR : actF D (a, h, c) true clear (bs (packL rs)) = (D, (a, h, c), true, 15) := by unfold actF; rw [if_pos rfl]
  rw [hR] at he hlw
  obtain ⟨F', hd, hc, hf, hl⟩ := hlw
  refine ⟨he, F', ⟨hd, L.ok, L.full, L.xa, L.wait, hl, fun hm => ?_, L.chg.trans hc ?_, fun x hx => ?_, L.gfresh, L.crash⟩, fun v l hv hvF => ⟨hv.chg' hc (fun hn k hk hm => ?_), fun hn x hx => ⟨fun hm => ?_, (hvF hn x hx).2.1, (hvF hn x hx).2.2⟩⟩⟩
  · rcases hf g hm with h | h
    · exact L.gF h
    · have := Blk.lt L.log; omega
  · intro x hx
    rcases List.mem_cons.1 hx with rfl | hx
    · exact .inr L.gfresh
    · exact .inr (L.fresh x hx)
  · rcases hf x hx with h | h
    · exact L.fresh x h
    · exact Nat.le_trans L.chg.size h
  · rcases List.mem_cons.1 hm with rfl | hm
    · exact (hvF hn _ hk).2.1 rfl
    · exact (hvF hn _ hk).1 hm
  · rcases hf x hm with h | h
    · exact (hvF hn x hx).1 h
    · have := hv.lt x hx; omega
theorem LostSt.mv {B b g : Nat} {w0 : World} {n m : Nat} {wr w' : World} {D : DSt} {F : List Nat} {x : Nat × Nat × Nat} {l1 l2 : List ByteArray} (L : LostSt B b g w0 n m wr D F x l1 l2) (hc : Chg [] wr w') : LostSt B b g w0 n m w' D F x l1 l2 :=
  ⟨L.disk.chg hc (by simp), L.ok, L.full, L.xa, L.wait, Blk.chg L.log hc (by simp), L.gF, L.chg.trans hc (by simp), L.fresh, L.gfresh, L.crash⟩
theorem LostSt.up {B b g : Nat} {w0 : World} {n m m' : Nat} {wr : World} {D : DSt} {F : List Nat} {x : Nat × Nat × Nat} {l1 l2 : List ByteArray} (L : LostSt B b g w0 n m wr D F x l1 l2) (h : m ≤ m') : LostSt B b g w0 n m' wr D F x l1 l2 :=
  ⟨L.disk, L.ok, L.full, L.xa, L.wait, L.log, L.gF, L.chg, L.fresh, L.gfresh, fun keep => by
    obtain ⟨k1, a1, h1, c1, ps1, k2, k3, k4⟩ := L.crash keep
    exact ⟨k1, a1, h1, c1, ps1, by omega, k3, k4⟩⟩
end Go.Proofs.YtdcafgpnomcbhaaGreatDoor
