/- plain.Code, coded. -/
import Derived.Test.YtdcafgpnomcbhaaGreatDoorErrIs
import Derived.Test.YtdcafgpnomcbhaaGreatDoorLwrite
namespace Go.Proofs.YtdcafgpnomcbhaaGreatDoor
open Go.RowKit
set_option linter.unusedVariables false

def errList (E : Nat → Addr) : List Value := [errv E 1, errv E 2, errv E 3, errv E 4, errv E 5, errv E 6, errv E 7, errv E 8, errv E 9, errv E 10, errv E 11, errv E 12, errv E 13, errv E 14, errv E 15]
theorem errList_get (E : Nat → Addr) (j : Nat) (h : j < 15) : (errList E)[j]? = some (.iface 171 (.pointer (some (E (j + 1))))) := by
  have : j = 0 ∨ j = 1 ∨ j = 2 ∨ j = 3 ∨ j = 4 ∨ j = 5 ∨ j = 6 ∨ j = 7 ∨ j = 8 ∨ j = 9 ∨ j = 10 ∨ j = 11 ∨ j = 12 ∨ j = 13 ∨ j = 14 := by omega
  rcases this with rfl | rfl | rfl | rfl | rfl | rfl | rfl | rfl | rfl | rfl | rfl | rfl | rfl | rfl | rfl <;> rfl

set_option maxHeartbeats 1000000 in
set_option maxRecDepth 100000 in
theorem Code_err (B : Nat) (E : Nat → Addr) (c : Nat) (w : World) (hE : Env B E w) (h1 : 1 ≤ c) (h2 : c ≤ 15) :
    Calls Tryz.prog 32 #[.iface 171 (.pointer (some (E c)))] w fun e w' => e = .returned (.tuple #[.int .i64 c, .int .i64 (-1)]) ∧ Below w.heap.size w w' := by
  have HE := Lib.hid hE
  have H12 := Lib.hid (And.intro h1 h2)
  have hle := hE.le
  have hetl := hE.etylt
  have HAs := Lib.hid (as_no (E c) ⟨w.heap.size, 0, none⟩ (w.alloc (.cells #[.pointer none] 99)) (hE.chg (Chg.alloc [] _ _) (by simp)).ety (by simp; omega))
  clear hE
  go_enter Tryz.func32, Tryz.ntmps32
  go_wp2_with (fail)
  refine HAs.out.mono ?_
  rintro e w1 ⟨rfl, hb1⟩
  have hb01 : Below w.heap.size w w1 := ((Below.refl _ _).alloc (Nat.le_refl _) _).trans (hb1.mono (by simp))
  have HB1 := Lib.hid hb01
  have hs1 := hb01.size
  have hE1 := HE.out.below hb01
  have G1 : w1.cell? ⟨1, 0, none⟩ = some (.iface 171 (.pointer (some (E 1)))) := hE1.glob (1, 1) (by simp [errTab])
  have G2 : w1.cell? ⟨0, 0, none⟩ = some (.iface 171 (.pointer (some (E 2)))) := hE1.glob (2, 0) (by simp [errTab])
  have G3 : w1.cell? ⟨4, 0, none⟩ = some (.iface 171 (.pointer (some (E 3)))) := hE1.glob (3, 4) (by simp [errTab])
  have G4 : w1.cell? ⟨5, 0, none⟩ = some (.iface 171 (.pointer (some (E 4)))) := hE1.glob (4, 5) (by simp [errTab])
  have G5 : w1.cell? ⟨6, 0, none⟩ = some (.iface 171 (.pointer (some (E 5)))) := hE1.glob (5, 6) (by simp [errTab])
  have G6 : w1.cell? ⟨7, 0, none⟩ = some (.iface 171 (.pointer (some (E 6)))) := hE1.glob (6, 7) (by simp [errTab])
  have G7 : w1.cell? ⟨8, 0, none⟩ = some (.iface 171 (.pointer (some (E 7)))) := hE1.glob (7, 8) (by simp [errTab])
  have G8 : w1.cell? ⟨9, 0, none⟩ = some (.iface 171 (.pointer (some (E 8)))) := hE1.glob (8, 9) (by simp [errTab])
  have G9 : w1.cell? ⟨2, 0, none⟩ = some (.iface 171 (.pointer (some (E 9)))) := hE1.glob (9, 2) (by simp [errTab])
  have G10 : w1.cell? ⟨10, 0, none⟩ = some (.iface 171 (.pointer (some (E 10)))) := hE1.glob (10, 10) (by simp [errTab])
  have G11 : w1.cell? ⟨11, 0, none⟩ = some (.iface 171 (.pointer (some (E 11)))) := hE1.glob (11, 11) (by simp [errTab])
  have G12 : w1.cell? ⟨12, 0, none⟩ = some (.iface 171 (.pointer (some (E 12)))) := hE1.glob (12, 12) (by simp [errTab])
  have G13 : w1.cell? ⟨13, 0, none⟩ = some (.iface 171 (.pointer (some (E 13)))) := hE1.glob (13, 13) (by simp [errTab])
  have G14 : w1.cell? ⟨14, 0, none⟩ = some (.iface 171 (.pointer (some (E 14)))) := hE1.glob (14, 14) (by simp [errTab])
  have G15 : w1.cell? ⟨3, 0, none⟩ = some (.iface 171 (.pointer (some (E 15)))) := hE1.glob (15, 3) (by simp [errTab])
  have HE1 := Lib.hid hE1
  clear hb1 hb01 hE1 HAs
  clear h1 h2 hetl hle
  go_wp2
  have hblk := Blk.new w1 27 [.iface 171 (.pointer (some (E 1))), .iface 171 (.pointer (some (E 2))), .iface 171 (.pointer (some (E 3))), .iface 171 (.pointer (some (E 4))), .iface 171 (.pointer (some (E 5))), .iface 171 (.pointer (some (E 6))), .iface 171 (.pointer (some (E 7))), .iface 171 (.pointer (some (E 8))), .iface 171 (.pointer (some (E 9))), .iface 171 (.pointer (some (E 10))), .iface 171 (.pointer (some (E 11))), .iface 171 (.pointer (some (E 12))), .iface 171 (.pointer (some (E 13))), .iface 171 (.pointer (some (E 14))), .iface 171 (.pointer (some (E 15)))]
  have HBl := Lib.hid hblk
  have HB3 := Lib.hid (HB1.out.alloc (by have := HB1.out.size; omega) (.cells #[.iface 171 (.pointer (some (E 1))), .iface 171 (.pointer (some (E 2))), .iface 171 (.pointer (some (E 3))), .iface 171 (.pointer (some (E 4))), .iface 171 (.pointer (some (E 5))), .iface 171 (.pointer (some (E 6))), .iface 171 (.pointer (some (E 7))), .iface 171 (.pointer (some (E 8))), .iface 171 (.pointer (some (E 9))), .iface 171 (.pointer (some (E 10))), .iface 171 (.pointer (some (E 11))), .iface 171 (.pointer (some (E 12))), .iface 171 (.pointer (some (E 13))), .iface 171 (.pointer (some (E 14))), .iface 171 (.pointer (some (E 15)))] 27))
  have HE3 := Lib.hid (HE1.out.chg (Chg.alloc [] _ (.cells #[.iface 171 (.pointer (some (E 1))), .iface 171 (.pointer (some (E 2))), .iface 171 (.pointer (some (E 3))), .iface 171 (.pointer (some (E 4))), .iface 171 (.pointer (some (E 5))), .iface 171 (.pointer (some (E 6))), .iface 171 (.pointer (some (E 7))), .iface 171 (.pointer (some (E 8))), .iface 171 (.pointer (some (E 9))), .iface 171 (.pointer (some (E 10))), .iface 171 (.pointer (some (E 11))), .iface 171 (.pointer (some (E 12))), .iface 171 (.pointer (some (E 13))), .iface 171 (.pointer (some (E 14))), .iface 171 (.pointer (some (E 15)))] 27)) (by simp))
  generalize hW3 : (w1.alloc (.cells #[.iface 171 (.pointer (some (E 1))), .iface 171 (.pointer (some (E 2))), .iface 171 (.pointer (some (E 3))), .iface 171 (.pointer (some (E 4))), .iface 171 (.pointer (some (E 5))), .iface 171 (.pointer (some (E 6))), .iface 171 (.pointer (some (E 7))), .iface 171 (.pointer (some (E 8))), .iface 171 (.pointer (some (E 9))), .iface 171 (.pointer (some (E 10))), .iface 171 (.pointer (some (E 11))), .iface 171 (.pointer (some (E 12))), .iface 171 (.pointer (some (E 13))), .iface 171 (.pointer (some (E 14))), .iface 171 (.pointer (some (E 15)))] 27)) = W3 at hblk HBl HB3 HE3 ⊢
  clear hblk hW3 G1 G2 G3 G4 G5 G6 G7 G8 G9 G10 G11 G12 G13 G14 G15
  go_loopw [3, 33] (fun a i wr => ∃ j : Nat, j ≤ c - 1 ∧ a = .int .i64 (-1) ∧ i = .int .i64 j ∧ wr = W3) (fun _ i _ => 15 - (intOf i).toNat)
  case atStart => exact ⟨0, Nat.zero_le _, rfl, rfl, rfl⟩
  case round =>
    obtain ⟨j, hj, rfl, rfl, rfl⟩ := hrel
    obtain ⟨h1, h2⟩ := H12.out
    have hj15 : (j : Int) < 15 := by omega
    have hcell : wr.cell? ⟨w1.heap.size, j, none⟩ = some (.iface 171 (.pointer (some (E (j + 1))))) := HBl.out.cell j (errList_get E j (by omega))
    by_cases hjc : j + 1 = c
    · subst hjc
      clear hj h1
      go_wp2_with (fail)
      refine (is_same _ _).mono ?_
      rintro e w2 ⟨rfl, rfl⟩
      go_wp2
      refine bodyPost_ret (v := .tuple #[.int .i64 ((j : Int) + 1), .int .i64 (-1)]) (by simp [results, Tryz.results32, go_sem]) rfl ⟨by push_cast; rfl, HB3.out⟩
    · have hne : E c ≠ E (j + 1) := fun h => hjc (HE3.out.inj c (j + 1) h1 h2 (by omega) (by omega) h).symm
      obtain ⟨ca, ta, ha⟩ := HE3.out.fro c h1 h2
      obtain ⟨cb, tb, hb⟩ := HE3.out.fro (j + 1) (by omega) (by omega)
      have hIs := Lib.hid (is_other (E c) (E (j + 1)) _ _ _ _ wr hne ha hb)
      have Hjc := Lib.hid (show j + 1 ≤ c - 1 by omega)
      clear hne ha hb hjc hj h1 h2
      go_wp2_with (fail)
      refine hIs.out.mono ?_
      rintro e w2 ⟨rfl, rfl⟩
      go_wp2
      go_roundw
      case rel => exact ⟨j + 1, Hjc.out, by simp, by go_num, by simp⟩
      case measure => simp [intOf]; omega
end Go.Proofs.YtdcafgpnomcbhaaGreatDoor
