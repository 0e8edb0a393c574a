/- Contract of layer 3: what a well has after some days. -/
import Derived.Test.YtcoelhpmkhimpaaGreatDoorWDays
import Derived.Test.YtcoelhpmkhimpaaGreatDoorWater
namespace Go.Proofs.YtcoelhpmkhimpaaGreatDoor
open Go.RowKit
set_option linter.unusedVariables false
set_option linter.unusedSimpArgs false
set_option maxRecDepth 100000 in
set_option maxHeartbeats 2000000 in
theorem filled_any (x : Well) (h : Span) (d : Int) (w : World) (hx : WellOk x) (hh : SpanIs h 0 1000000000) (hd : 0 ≤ d ∧ d ≤ 100001) :
    Calls Tryz.prog 78 #[x.val, h.val, .int .i64 d] w fun e w' => e = .returned (filledOf x h d).val ∧ Ext w w' := by
  obtain ⟨wx, wy, dp, ⟨y0, y1⟩, rm, ⟨s0, s1⟩, ow⟩ := x
  obtain ⟨h0, h1⟩ := h
  obtain ⟨⟨ya, yb, yc⟩, ⟨ra, rb⟩, hs⟩ := hx
  obtain ⟨ha, hb, hc⟩ := hh
  unfold Well.val Span.val filledOf
  simp only at *
  have m0 := mul_le2 hd.1 hd.2 ya (show y0 ≤ 10000000 by omega) (Int.le_refl 100001) (Int.le_refl 10000000)
  have m1 := mul_le2 hd.1 hd.2 (show 0 ≤ y1 by omega) yc (Int.le_refl 100001) (Int.le_refl 10000000)
  obtain ⟨P0, hP0⟩ : ∃ P, d * y0 = P := ⟨_, rfl⟩
  obtain ⟨P1, hP1⟩ : ∃ P, d * y1 = P := ⟨_, rfl⟩
  rw [hP0] at m0 ⊢
  rw [hP1] at m1 ⊢
  obtain ⟨N0, hN0⟩ : ∃ x, (if h0 + P0 < rm then h0 + P0 else rm) = x := ⟨_, rfl⟩
  obtain ⟨N1, hN1⟩ : ∃ x, (if h1 + P1 < rm then h1 + P1 else rm) = x := ⟨_, rfl⟩
  have e0 : min rm (h0 + P0) = N0 := by rw [← hN0]; split <;> omega
  have e1 : min rm (h1 + P1) = N1 := by rw [← hN1]; split <;> omega
  rw [e0, e1]
  clear e0 e1 hs
  obtain ⟨W0, hW0⟩ : ∃ W0, ((w.alloc (.cells #[.int .i64 wx, .int .i64 wy, .int .i64 dp, .int .i64 y0, .int .i64 y1, .int .i64 rm, .int .i64 s0, .int .i64 s1, .int .i64 ow] 135)).alloc (.cells #[.int .i64 h0, .int .i64 h1] 23)).alloc (.cells #[.int .i64 0, .int .i64 0] 23) = W0 := ⟨_, rfl⟩
  have hx0 : Ext w W0 := by rw [← hW0]; exact (((Ext.refl w).alloc _).alloc _).alloc _
  have hb0 : W0.heap[w.heap.size]? = some (.cells #[.int .i64 wx, .int .i64 wy, .int .i64 dp, .int .i64 y0, .int .i64 y1, .int .i64 rm, .int .i64 s0, .int .i64 s1, .int .i64 ow] 135 (0, 0)) := by rw [← hW0]; exact alloc_heap (alloc_heap (heap_alloc_new w _) _) _
  have hb1 : W0.heap[w.heap.size + 1]? = some (.cells #[.int .i64 h0, .int .i64 h1] 23 (0, 0)) := by rw [← hW0]; exact alloc_heap (alloc_at _ _ _ (by simp)) _
  have hb2 : W0.heap[w.heap.size + 1 + 1]? = some (.cells #[.int .i64 0, .int .i64 0] 23 (0, 0)) := by rw [← hW0]; exact alloc_at _ _ _ (by simp)
  obtain ⟨z0, _⟩ := (Ext.refl W0).box hb0
  obtain ⟨z1, _⟩ := (Ext.refl W0).box hb1
  obtain ⟨z2, z3⟩ := (Ext.refl W0).box hb2
  have hrl := heap_lt hb2
  have Hx0 := Lib.hid hx0
  have Hb0 := Lib.hid hb0
  have Hb1 := Lib.hid hb1
  have Hb2 := Lib.hid hb2
  clear hx0 hb0 hb1 hb2
  go_enter Tryz.func78, Tryz.ntmps78
  go_wp2_with fail
  refine bodyPost_ret (results_cell_row rfl _ _ (w.heap.size + 1 + 1) 23 #[.int .i64 N0, .int .i64 N1] (0, 0) _ rfl (set2_box Hb2.out _ _) Tryz.underlying23 rfl (by kernel_rfl)) rfl ?_
  exact ⟨rfl, set2_ext Hx0.out (by omega) _ _⟩
end Go.Proofs.YtcoelhpmkhimpaaGreatDoor
