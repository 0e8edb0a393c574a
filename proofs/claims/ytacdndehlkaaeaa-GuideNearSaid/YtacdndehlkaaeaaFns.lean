/- The small functions of the laws' examples. -/
import Derived.Test.YtacdndehlkaaeaaStarts
namespace Go.Proofs.Ytacdndehlkaaeaa
open Go.RowKit
set_option linter.unusedVariables false
set_option linter.unusedSimpArgs false
/-- the laws' own field -/
def fieldL : List Half := box ⟨0, 10000⟩ ⟨0, 10000⟩
def exA : Sight := ⟨1, 12000, 0, 1, -1, 1, 0, 0, 0, 0⟩
def exB : Sight := ⟨1, 0, 20000, 0, 1, -1, 4, 0, 0, 0⟩
def exC : Sight := ⟨2, 0, 0, 0, 0, 0, 0, 9000, 30000, 0⟩
def exEast : Trek := ⟨⟨1, 1⟩, ⟨2000, 2000⟩, ⟨0, 0⟩⟩
set_option maxRecDepth 100000 in
theorem span_any (lo hi : Int) (w : World) : Calls Try.prog 38 #[.int .i64 lo, .int .i64 hi] w fun e w' => e = .returned (.agg #[.int .i64 lo, .int .i64 hi]) ∧ Ext w w' := by
  go_enter Try.func38, Try.ntmps38
  go_wp2_with fail
  refine bodyPost_ret (results_cell_row rfl _ _ w.heap.size 28 #[.int .i64 lo, .int .i64 hi] (0, 0) _ rfl (alloc_at _ _ _ (by simp)) Try.underlying28 rfl (by kernel_rfl)) rfl ?_
  exact ⟨rfl, (Ext.refl _).alloc _⟩
def FieldPost (w : World) (e : Ending) (w' : World) : Prop := ∃ b, e = .returned (.agg #[.slice (some ⟨b, 0, none⟩) 4 4]) ∧ w.heap.size ≤ b ∧ Ext w w' ∧ w'.heap[b]? = some (.cells (halfRows fieldL).flatten.toArray 47 (0, 0))
set_option maxRecDepth 100000 in
theorem field_any (w : World) : Calls Try.prog 35 #[] w (FieldPost w) := by
  obtain ⟨Q, hQ⟩ : ∃ Q, FieldPost w = Q := ⟨_, rfl⟩
  rw [hQ]
  go_enter Try.func35, Try.ntmps35
  go_wp2_with fail
  refine bodyPost_ret (results_cell_row rfl _ _ w.heap.size 24 #[.slice (some ⟨w.heap.size + 1, 0, none⟩) 4 4] (0, 0) _ rfl (((Ext.refl _).alloc _).heap (heap_alloc_new w _)) Try.underlying24 rfl (by kernel_rfl)) rfl ?_
  rw [← hQ]
  exact ⟨w.heap.size + 1, rfl, by omega, ((Ext.refl _).alloc _).alloc _, alloc_at _ _ _ (by simp)⟩
set_option maxRecDepth 100000 in
theorem exA_any (w : World) : Calls Try.prog 36 #[] w fun e w' => e = .returned (.agg #[.int .u8 1, .int .i64 12000, .int .i64 0, .int .i64 1, .int .i64 (-1), .int .i64 1, .int .i64 0, .int .i64 0, .int .i64 0, .int .i64 0]) ∧ Ext w w' := by
  go_enter Try.func36, Try.ntmps36
  go_wp2_with fail
  refine bodyPost_ret (results_cell_row rfl _ _ w.heap.size 30 #[.int .u8 1, .int .i64 12000, .int .i64 0, .int .i64 1, .int .i64 (-1), .int .i64 1, .int .i64 0, .int .i64 0, .int .i64 0, .int .i64 0] (0, 0) _ rfl (alloc_at _ _ _ (by simp)) Try.underlying30 rfl (by kernel_rfl)) rfl ?_
  exact ⟨rfl, (Ext.refl _).alloc _⟩
set_option maxRecDepth 100000 in
theorem exB_any (w : World) : Calls Try.prog 39 #[] w fun e w' => e = .returned (.agg #[.int .u8 1, .int .i64 0, .int .i64 20000, .int .i64 0, .int .i64 1, .int .i64 (-1), .int .i64 4, .int .i64 0, .int .i64 0, .int .i64 0]) ∧ Ext w w' := by
  go_enter Try.func39, Try.ntmps39
  go_wp2_with fail
  refine bodyPost_ret (results_cell_row rfl _ _ w.heap.size 30 #[.int .u8 1, .int .i64 0, .int .i64 20000, .int .i64 0, .int .i64 1, .int .i64 (-1), .int .i64 4, .int .i64 0, .int .i64 0, .int .i64 0] (0, 0) _ rfl (alloc_at _ _ _ (by simp)) Try.underlying30 rfl (by kernel_rfl)) rfl ?_
  exact ⟨rfl, (Ext.refl _).alloc _⟩
set_option maxRecDepth 100000 in
theorem exC_any (w : World) : Calls Try.prog 74 #[] w fun e w' => e = .returned (.agg #[.int .u8 2, .int .i64 0, .int .i64 0, .int .i64 0, .int .i64 0, .int .i64 0, .int .i64 0, .int .i64 9000, .int .i64 30000, .int .i64 0]) ∧ Ext w w' := by
  have hsp := span_any
  obtain ⟨W0, hW0⟩ : ∃ W0, w.alloc (.cells #[.int .u8 0, .int .i64 0, .int .i64 0, .int .i64 0, .int .i64 0, .int .i64 0, .int .i64 0, .int .i64 0, .int .i64 0, .int .i64 0] 30) = W0 := ⟨_, rfl⟩
  have hx0 : Ext w W0 := by rw [← hW0]; exact (Ext.refl w).alloc _
  have hb0 : W0.heap[w.heap.size]? = some (.cells #[.int .u8 0, .int .i64 0, .int .i64 0, .int .i64 0, .int .i64 0, .int .i64 0, .int .i64 0, .int .i64 0, .int .i64 0, .int .i64 0] 30 (0, 0)) := by rw [← hW0]; exact heap_alloc_new w _
  have Hsp := Lib.hid hsp
  have Hx0 := Lib.hid hx0
  have Hb0 := Lib.hid hb0
  clear hsp hx0 hb0
  go_enter Try.func74, Try.ntmps74
  go_wp2_with (go_at_call 38; refine (Hsp.out _ _ _).mono ?_; rintro e w1 ⟨rfl, hx1⟩; have hb1 := hx1.heap Hb0.out; obtain ⟨z1, z2⟩ := (Ext.refl w1).box hb1; have hl1 := heap_lt hb1; clear hW0)
  refine bodyPost_ret (results_cell_row rfl _ _ w.heap.size 30 #[.int .u8 2, .int .i64 0, .int .i64 0, .int .i64 0, .int .i64 0, .int .i64 0, .int .i64 0, .int .i64 9000, .int .i64 30000, .int .i64 0] (0, 0) _ rfl (by simp only [heap_setCell_box, hb1, Option.map_some, setIn_cells, List.setIfInBounds_toArray, List.set_cons_zero, List.set_cons_succ]) Try.underlying30 rfl (by kernel_rfl)) rfl ?_
  refine ⟨rfl, ?_⟩
  repeat (refine Ext.setCell ?_ (Nat.le_refl _) _)
  exact Hx0.out.trans hx1
set_option maxRecDepth 100000 in
theorem exEast_any (w : World) : Calls Try.prog 37 #[] w fun e w' => e = .returned exEast.val ∧ Ext w w' := by
  have hsp := span_any
  obtain ⟨W0, hW0⟩ : ∃ W0, w.alloc (.cells #[.int .i64 0, .int .i64 0, .int .i64 0, .int .i64 0, .int .i64 0, .int .i64 0] 63) = W0 := ⟨_, rfl⟩
  have hx0 : Ext w W0 := by rw [← hW0]; exact (Ext.refl w).alloc _
  have hb0 : W0.heap[w.heap.size]? = some (.cells #[.int .i64 0, .int .i64 0, .int .i64 0, .int .i64 0, .int .i64 0, .int .i64 0] 63 (0, 0)) := by rw [← hW0]; exact heap_alloc_new w _
  have Hsp := Lib.hid hsp
  have Hx0 := Lib.hid hx0
  have Hb0 := Lib.hid hb0
  clear hsp hx0 hb0
  go_enter Try.func37, Try.ntmps37
  go_wp2_with (go_at_call 38; refine (Hsp.out _ _ _).mono ?_; rintro e w1 ⟨rfl, hx1⟩; first | (have hx2 := hx0'.trans hx1; have hb1 := hx2.heap Hb0.out; obtain ⟨z1, z2⟩ := (Ext.refl _).box hb1; have hl1 := heap_lt hb1) | (have hx0' := hx1; clear hW0))
  refine bodyPost_ret (results_cell_row rfl _ _ w.heap.size 63 #[.int .i64 1, .int .i64 1, .int .i64 2000, .int .i64 2000, .int .i64 0, .int .i64 0] (0, 0) _ rfl (by simp only [heap_setCell_box, hb1, Option.map_some, setIn_cells, List.setIfInBounds_toArray, List.set_cons_zero, List.set_cons_succ]) Try.underlying63 rfl (by kernel_rfl)) rfl ?_
  refine ⟨rfl, ?_⟩
  repeat (refine Ext.setCell ?_ (Nat.le_refl _) _)
  exact Hx0.out.trans hx2
end Go.Proofs.Ytacdndehlkaaeaa
