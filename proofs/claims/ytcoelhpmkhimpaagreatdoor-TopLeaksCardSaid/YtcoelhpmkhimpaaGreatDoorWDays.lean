/- Contracts of layer 3: the days of a leg of a land. -/
import Derived.Test.YtcoelhpmkhimpaaGreatDoorArriveC
namespace Go.Proofs.YtcoelhpmkhimpaaGreatDoor
open Go.RowKit
set_option linter.unusedVariables false
set_option linter.unusedSimpArgs false
def wdaysErr (l : Land) (g : Int) (p : Span) : Int := if openErr l p = 0 then (if inB g 0 (l.legs.length - 1) then 0 else 2) else openErr l p
def wdaysVal (l : Land) (g : Int) (p : Span) : Span := if wdaysErr l g p = 0 then legDays (legAt l g) p else ⟨0, 0⟩
theorem land_is {l : Land} (h : landOk l = true) : l.legs.all (legOk l.wells.length) = true := by
  simp only [landOk, Bool.and_eq_true] at h
  exact h.2
theorem open_ok {l : Land} {p : Span} (h : openErr l p = 0) : l.legs.all (legOk l.wells.length) = true ∧ SpanIs p 1 100000 := by
  unfold openErr at h
  split at h
  · rename_i h1
    split at h
    · rename_i h2
      exact ⟨land_is h1, spanIs h2⟩
    · omega
  · omega
end Go.Proofs.YtcoelhpmkhimpaaGreatDoor
