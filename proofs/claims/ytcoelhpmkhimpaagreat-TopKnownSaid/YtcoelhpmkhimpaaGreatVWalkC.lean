/- Contract of layer 3: Walk. -/
import Derived.Test.YtcoelhpmkhimpaaGreatVGj
namespace Go.Proofs.YtcoelhpmkhimpaaGreat
open Go.RowKit
set_option linter.unusedVariables false
set_option linter.unusedSimpArgs false
def WalkPost (w : World) (r : List Stop × Int × Int) (e : Ending) (w' : World) : Prop := ∃ a c, e = .returned (.tuple #[.slice a r.1.length c, .int .i64 r.2.1, .int .i64 r.2.2]) ∧ From w.heap.size a ∧ r.1.length ≤ c ∧ c ≤ maxLen ∧ StopsAt w' a r.1.length r.1 ∧ Ext w w'
theorem But.cell {O : Nat → Prop} {A B : World} (h : But O A B) {x : Addr} {v : Value} (hc : A.cell? x = some v) (hn : ¬O x.block) : B.cell? x = some v := by
  obtain ⟨o, ho, _⟩ := cells_of_cell hc
  exact (World.cell?_of_block ((h.block _ o ho hn).trans ho.symm)).trans hc
theorem one_src (W : World) (x : Int) (T : TypeId) : SlAt (W.alloc (.cells #[.int .i64 x] T)) 1 (some ⟨W.heap.size, 0, none⟩) 1 (fun k => (intRows .i64 [x]).getD k []) :=
  slAt_one (cells_one (by rw [cell_of_row _ _ _ _ T (0, 0) (heap_alloc_new W _)]; rfl))
end Go.Proofs.YtcoelhpmkhimpaaGreat
