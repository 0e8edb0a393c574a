/- Contracts of layer 3: open, the days of a leg, the first of some days. -/
import Derived.Test.YtcoelhpmkhimpaaGreatDoorLandC
import Derived.Laws.CopyOwn
namespace Go.Proofs.YtcoelhpmkhimpaaGreatDoor
open Go.RowKit
set_option linter.unusedVariables false
set_option linter.unusedSimpArgs false
def openErr (l : Land) (p : Span) : Int := if landOk l then (if paceOk p then 0 else 31) else 30
def openVal (wa : Option Addr) (wn wc : Nat) (la : Option Addr) (ln lc : Nat) (l : Land) (p : Span) : Value := if openErr l p = 0 then .agg #[.slice wa wn wc, .slice la ln lc, .int .i64 p.lo, .int .i64 p.hi] else .agg #[.slice none 0 0, .slice none 0 0, .int .i64 0, .int .i64 0]
theorem set4c_box {W : World} {b : Nat} {x0 y0 z0 u0 : Value} {T : TypeId} (h : W.heap[b]? = some (.cells #[x0, y0, z0, u0] T (0, 0))) (x y z u : Value) : ((((W.setCell ⟨b, 0, none⟩ x).setCell ⟨b, 1, none⟩ y).setCell ⟨b, 2, none⟩ z).setCell ⟨b, 3, none⟩ u).heap[b]? = some (.cells #[x, y, z, u] T (0, 0)) := by
  rw [heap_setCell_box, heap_setCell_box, heap_setCell_box, heap_setCell_box, h]
  rfl
theorem upq_bd {a b : Int} (ha : 0 ≤ a) (hb : 0 < b) : 0 ≤ upq a b ∧ upq a b ≤ a + 1 := by
  have h1 := upq_mul (a := a) (d := b) hb
  have h2 : 0 ≤ upq a b := upq_nonneg hb ha
  refine ⟨h2, ?_⟩
  rcases Int.lt_or_le (a + 1) (upq a b) with h | h
  · have h4 : upq a b - 1 ≤ (upq a b - 1) * b := by
      have := Int.mul_le_mul_of_nonneg_left (show 1 ≤ b by omega) (show 0 ≤ upq a b - 1 by omega)
      omega
    rw [Int.sub_mul] at h4
    omega
  · exact h
end Go.Proofs.YtcoelhpmkhimpaaGreatDoor
