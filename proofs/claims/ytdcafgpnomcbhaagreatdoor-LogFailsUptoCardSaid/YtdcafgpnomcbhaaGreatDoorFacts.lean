/- Facts for the laws' walks: disks that are whole, Crash as one call. -/
import Derived.Test.YtdcafgpnomcbhaaGreatDoorSame
import Derived.Test.YtdcafgpnomcbhaaGreatDoorCrash
import Derived.Test.YtdcafgpnomcbhaaGreatDoorDiskNew
namespace Go.Proofs.YtdcafgpnomcbhaaGreatDoor
open Go.RowKit
set_option linter.unusedVariables false

theorem lwriteF_ok {D : DSt} (ok : D.Ok) (a k size : Nat) (s : ByteArray) (h : D.wait.length + s.size / 64 + 2 ≤ 1000000) : (lwriteF D a k size s).1.Ok := by
  obtain ⟨h1, h2, h3⟩ := wrF_ok ok (2 + k * hN D.now.length + size / 64) s (s.size / 64) (by omega)
  unfold lwriteF
  generalize wrF D (2 + k * hN D.now.length + size / 64) s (s.size / 64) = R at h1 h2
  obtain ⟨D1, e1⟩ := R
  simp only at h1 h2 ⊢
  have h4 := flush_ok h1
  have h5 := flush_wait D1
  generalize D1.flush = R2 at h4 h5
  obtain ⟨D2, e2⟩ := R2
  simp only at h4 h5 ⊢
  have h6 := write_ok h4 (((a + 1) % 2 : Nat) : Int) (bs (headL (a + 1) k (size + s.size))) (by omega)
  generalize D2.write (((a + 1) % 2 : Nat) : Int) (bs (headL (a + 1) k (size + s.size))) = R3 at h6
  obtain ⟨D3, e3⟩ := R3
  simp only at h6 ⊢
  split
  · split
    · split
      · exact flush_ok h6
      · exact h6
    · exact h4
  · exact h1
theorem actF_ok {D : DSt} (ok : D.Ok) (x : Nat × Nat × Nat) (lost clear : Bool) (s : ByteArray) (h : D.wait.length + s.size / 64 + 2 ≤ 1000000) : (actF D x lost clear s).1.Ok := by
  unfold actF
  by_cases h1 : lost = true
  · rw [if_pos h1]; exact ok
  rw [if_neg h1]
  by_cases h2 : hN D.now.length * 64 < (if clear = true then 0 else x.2.2) + s.size
  · rw [if_pos h2]; exact ok
  rw [if_neg h2]
  by_cases h3 : clear = false ∧ s.size = 0
  · rw [if_pos h3]; exact ok
  rw [if_neg h3]
  exact lwriteF_ok ok _ _ _ _ h
theorem Rest.full {D : DSt} (r : Rest D) (h : ∀ s ∈ D.now, s.size = 64) : D.Full := ⟨h, by rw [r.kept]; exact h, by rw [r.wait]; simp⟩
theorem new_full (n : Nat) : ∀ s ∈ (DSt.new n).now, s.size = 64 := by
  intro s hs
  rw [List.eq_of_mem_replicate hs]
  exact zeroS_size 64
theorem new_rest (n : Nat) : Rest (DSt.new n) := ⟨rfl, rfl⟩
theorem new_len (n : Nat) : (DSt.new n).now.length = n := by simp [DSt.new]
theorem new_ok (n : Nat) (h1 : 1 ≤ n) (h2 : n ≤ 4000) : (DSt.new n).Ok :=
  ⟨by show (-1 : Int) ≤ -1; omega, by show (-1 : Int) ≤ _; omega, by rw [new_len]; exact h2, by simp [DSt.new], by rw [new_len]; exact h1, by simp [DSt.new]⟩
/-- whole, whatever was done -/
theorem Full.write {D : DSt} (f : D.Full) (i : Int) (s : ByteArray) : (D.write i s).1.Full := by
  unfold DSt.write
  split
  · exact f
  · rename_i hi
    split
    · exact f
    · rename_i hs
      split
      · exact f
      · have hp : (padS s).size = 64 := by
          have h1 := padS_list s
          have h2 := list_len (padS s)
          rw [h1, List.length_append, list_len, Lib.repeatL_length] at h2
          simp at h2; omega
        refine ⟨fun x hx => ?_, f.kept, fun p hp' => ?_⟩
        · rcases mem_set hx with h | h
          · exact f.now x h
          · rw [h]; exact hp
        · rw [List.length_set]
          rcases List.mem_append.1 hp' with h | h
          · exact f.wait p h
          · rw [List.mem_singleton] at h
            subst h
            exact ⟨hp, by show i.toNat < _; omega⟩
theorem Full.flush {D : DSt} (f : D.Full) : D.flush.1.Full := by
  unfold DSt.flush
  split
  · exact f
  · exact ⟨f.now, f.now, by simp⟩
theorem crashTo_full {D : DSt} (f : D.Full) (keep : List Bool) : ∀ j, j ≤ D.wait.length → ∀ s ∈ crashTo D.wait keep D.kept j, s.size = 64
  | 0, _ => f.kept
  | j + 1, hj => by
    have ih := crashTo_full f keep j (by omega)
    unfold crashTo
    split
    · intro s hs
      rcases mem_set hs with h | h
      · exact ih s h
      · rw [h, List.getD_eq_getElem?_getD, List.getElem?_eq_getElem (by omega)]
        exact (f.wait _ (List.getElem_mem _)).1
    · exact ih
theorem Full.crash {D : DSt} (f : D.Full) (keep : List Bool) : (D.crash keep).Full :=
  ⟨crashTo_full f keep _ (Nat.le_refl _), crashTo_full f keep _ (Nat.le_refl _), by simp [DSt.crash]⟩
theorem crash_rest (D : DSt) (keep : List Bool) : Rest (D.crash keep) := ⟨rfl, rfl⟩
theorem crash_ok {D : DSt} (ok : D.Ok) (keep : List Bool) : (D.crash keep).Ok := by
  have hl : (D.crash keep).now.length = D.kept.length := crashTo_len _ _ _ _
  exact ⟨by show (-1 : Int) ≤ -1; omega, by show (-1 : Int) ≤ _; omega, by rw [hl, ok.klen]; exact ok.len, rfl, by rw [hl, ok.klen]; exact ok.pos, by simp [DSt.crash]⟩
theorem crash_any (B b : Nat) (F : List Nat) (kv : Value) (kl : List Bool) (D : DSt) (w : World) (hd : Disk B w b D F) (ok : D.Ok) (hBw : B ≤ w.heap.size) (f : D.Full) (hk : Row w 4 1 kv kl.length (kl.map .bool)) (hkF : ∀ x, kv.ownBlock = some x → x ∉ F) :
    Calls Tryz.prog 13 #[.pointer (some ⟨b, 0, none⟩), kv] w fun e w' => DPost B b F w (D.crash kl) (.tuple #[]) e w' := by
  obtain ⟨k, n, kc, nc, wv, rfl, hB, hat⟩ := hd
  exact crash_walk B b k n kc nc wv kv kl D w hat ok hB hBw (fun p hp => by rw [ok.klen]; exact (f.wait p hp).2) hk (fun x hx h => hkF x hx (by simp [h]))
theorem Row.two (w : World) (s t : ByteArray) : Row (w.alloc (.cells #[.string s, .string t] 9)) 9 1 (.slice (some ⟨w.heap.size, 0, none⟩) 2 2) [s, t].length ([s, t].map .string) :=
  ⟨rfl, .inr ⟨w.heap.size, 2, #[.string s, .string t], rfl, Nat.zero_le _, heap_alloc_new w _, Nat.le_refl _, by simp [maxLen], rfl, rfl⟩⟩
end Go.Proofs.YtdcafgpnomcbhaaGreatDoor
