/- The package's error values in memory. -/
import Derived.Test.YtdcafgpnomcbhaaGreatDoorBase
import Derived.Test.YtdcafgpnomcbhaaGreatDoorShelf
namespace Go.Proofs.YtdcafgpnomcbhaaGreatDoor
open Go.RowKit
set_option linter.unusedVariables false

/-- An error by its number: 0 is nil; E: where the texts of the others lie. -/
def errv (E : Nat → Addr) (c : Nat) : Value := if c = 0 then .nilIface else .iface 171 (.pointer (some (E c)))
/-- Which variable holds which. -/
def errTab : List (Nat × Nat) := [(1, 1), (2, 0), (3, 4), (4, 5), (5, 6), (6, 7), (7, 8), (8, 9), (9, 2), (10, 10), (11, 11), (12, 12), (13, 13), (14, 14), (15, 3)]

/-- Below block B all that start-up lays is there. -/
structure Env (B : Nat) (E : Nat → Addr) (w : World) : Prop where
  glob : ∀ p ∈ errTab, w.cell? ⟨p.2, 0, none⟩ = some (errv E p.1)
  lt : ∀ p ∈ errTab, p.2 < B
  le : B ≤ w.heap.size
  elt : ∀ c, 1 ≤ c → c ≤ 15 → (E c).block < B
  inj : ∀ c d, 1 ≤ c → c ≤ 15 → 1 ≤ d → d ≤ 15 → E c = E d → c = d
  fro : ∀ c, 1 ≤ c → c ≤ 15 → ∃ cs t, w.heap[(E c).block]? = some (.cells cs t (0, 0))
  ety : w.cell? ⟨15, 0, none⟩ = some (.iface 148 (.agg #[.pointer (some ⟨24, 27, none⟩)]))
  etylt : 15 < B
  pow : Lib.TabIs Tryz.prog w "internal/strconv.uint64pow10" .u64 Lib.pow10Tab
  powlt : 21 < B
  esyn : ∃ te pe, w.cell? ⟨17, 0, none⟩ = some (.iface te pe)
  esynlt : 17 < B
  eran : ∃ te pe, w.cell? ⟨18, 0, none⟩ = some (.iface te pe)
  eranlt : 18 < B

theorem powNamed : Tryz.prog.globalNamed "internal/strconv.uint64pow10" = some 21 := by kernel_rfl

theorem Env.chg {B : Nat} {E : Nat → Addr} {w w' : World} {S : List Nat} (h : Env B E w) (hc : Chg S w w') (hS : ∀ x ∈ S, B ≤ x) : Env B E w' := by
  have hb : Below B w w' := hc.below hS h.le
  refine ⟨fun p hp => (hb.cell (p := ⟨p.2, 0, none⟩) (h.lt p hp)).trans (h.glob p hp), h.lt, Nat.le_trans h.le hc.size, h.elt, h.inj, ?_, (hb.cell (p := ⟨15, 0, none⟩) h.etylt).trans h.ety, h.etylt,
    var?_below hb powNamed h.powlt h.pow, h.powlt, ?_, h.esynlt, ?_, h.eranlt⟩
  · intro c h1 h2
    obtain ⟨cs, t, hs⟩ := h.fro c h1 h2
    exact ⟨cs, t, (hb.block _ (h.elt c h1 h2)).trans hs⟩
  · obtain ⟨te, pe, hs⟩ := h.esyn
    exact ⟨te, pe, (hb.cell (p := ⟨17, 0, none⟩) h.esynlt).trans hs⟩
  · obtain ⟨te, pe, hs⟩ := h.eran
    exact ⟨te, pe, (hb.cell (p := ⟨18, 0, none⟩) h.eranlt).trans hs⟩
end Go.Proofs.YtdcafgpnomcbhaaGreatDoor
