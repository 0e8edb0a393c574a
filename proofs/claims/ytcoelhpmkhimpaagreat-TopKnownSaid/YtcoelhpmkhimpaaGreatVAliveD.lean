/- A leg of 2 to 3 days, and an animal that lasts 10: alive03. -/
import Derived.Test.YtcoelhpmkhimpaaGreatVGl
namespace Go.Proofs.YtcoelhpmkhimpaaGreat
open Go.RowKit
set_option linter.unusedVariables false
set_option linter.unusedSimpArgs false
set_option maxRecDepth 100000 in
set_option maxHeartbeats 4000000 in
theorem alive03_any (w : World) : Calls Tryz.prog 25 #[] w fun e w' => e = .returned (.bool true) ∧ Ext w w' := by
  have hsp := stretch_any
  have hbe := exBeast_any
  have hpa := path_any
  have hdy := exDays_any
  have hla := exLasts_any
  have hli := exLives_any
  have hmk := mk48c
  have Hsp := Lib.hid hsp
  have Hbe := Lib.hid hbe
  have Hpa := Lib.hid hpa
  have Hdy := Lib.hid hdy
  have Hla := Lib.hid hla
  have Hli := Lib.hid hli
  clear hsp hbe hpa hdy hla hli
  go_enter Tryz.func25, Tryz.ntmps25
  go_upto_region 4 with (first
    | (go_at_call 49; refine (Hbe.out _).mono ?_; rintro e v1 ⟨rfl, hx1⟩)
    | (refine wpList_store_row rfl 29 (.tmp 1) (.tmp 13) rfl v1.heap.size #[.int .i64 100, .int .i64 10, .int .i64 10, .int .i64 10, .int .i64 0, .int .i64 0, .int .i64 0, .int .i64 0, .int .i64 0, .int .i64 0, .int .i64 0, .int .i64 0, .int .i64 0, .int .i64 0, .int .i64 0, .int .i64 50, .int .i64 50] rfl rfl 29 _ (alloc_heap (heap_alloc_new v1 _) _) (by kernel_rfl) (by kernel_rfl) (by kernel_rfl) ?_; have hb1 := setRow_heap _ _ _ #[.int .i64 100, .int .i64 10, .int .i64 10, .int .i64 10, .int .i64 0, .int .i64 0, .int .i64 0, .int .i64 0, .int .i64 0, .int .i64 0, .int .i64 0, .int .i64 0, .int .i64 0, .int .i64 0, .int .i64 0, .int .i64 50, .int .i64 50] 29 (0, 0) (alloc_heap (heap_alloc_new v1 (.cells #[.int .i64 0, .int .i64 0, .int .i64 0, .int .i64 0, .int .i64 0, .int .i64 0, .int .i64 0, .int .i64 0, .int .i64 0, .int .i64 0, .int .i64 0, .int .i64 0, .int .i64 0, .int .i64 0, .int .i64 0, .int .i64 0, .int .i64 0] 29)) (.cells #[.int .i64 0, .int .i64 0, .int .i64 0, .int .i64 0, .int .i64 0, .int .i64 0, .bool false] 31)); have hx2 := below_setRow ((hx1.alloc (.cells #[.int .i64 0, .int .i64 0, .int .i64 0, .int .i64 0, .int .i64 0, .int .i64 0, .int .i64 0, .int .i64 0, .int .i64 0, .int .i64 0, .int .i64 0, .int .i64 0, .int .i64 0, .int .i64 0, .int .i64 0, .int .i64 0, .int .i64 0] 29)).alloc (.cells #[.int .i64 0, .int .i64 0, .int .i64 0, .int .i64 0, .int .i64 0, .int .i64 0, .bool false] 31)) hx1.size #[.int .i64 100, .int .i64 10, .int .i64 10, .int .i64 10, .int .i64 0, .int .i64 0, .int .i64 0, .int .i64 0, .int .i64 0, .int .i64 0, .int .i64 0, .int .i64 0, .int .i64 0, .int .i64 0, .int .i64 0, .int .i64 50, .int .i64 50]; have hc1 := (setRow_other ((v1.alloc (.cells #[.int .i64 0, .int .i64 0, .int .i64 0, .int .i64 0, .int .i64 0, .int .i64 0, .int .i64 0, .int .i64 0, .int .i64 0, .int .i64 0, .int .i64 0, .int .i64 0, .int .i64 0, .int .i64 0, .int .i64 0, .int .i64 0, .int .i64 0] 29)).alloc (.cells #[.int .i64 0, .int .i64 0, .int .i64 0, .int .i64 0, .int .i64 0, .int .i64 0, .bool false] 31)) v1.heap.size (v1.heap.size + 1) #[.int .i64 100, .int .i64 10, .int .i64 10, .int .i64 10, .int .i64 0, .int .i64 0, .int .i64 0, .int .i64 0, .int .i64 0, .int .i64 0, .int .i64 0, .int .i64 0, .int .i64 0, .int .i64 0, .int .i64 0, .int .i64 50, .int .i64 50] (by omega)).trans (alloc_at _ _ _ (by simp)))
    | (refine wpList_store_row rfl 31 (.tmp 2) (.tmp 14) rfl (v1.heap.size + 1) #[.int .i64 100, .int .i64 100, .int .i64 10, .int .i64 10, .int .i64 0, .int .i64 0, .bool false] rfl rfl 31 _ hc1 (by kernel_rfl) (by kernel_rfl) (by kernel_rfl) ?_; have hc2 := setRow_heap _ _ _ #[.int .i64 100, .int .i64 100, .int .i64 10, .int .i64 10, .int .i64 0, .int .i64 0, .bool false] 31 (0, 0) hc1; have hb2 := (setRow_other _ (v1.heap.size + 1) v1.heap.size #[.int .i64 100, .int .i64 100, .int .i64 10, .int .i64 10, .int .i64 0, .int .i64 0, .bool false] (by omega)).trans hb1; have hx3 := below_setRow hx2 (Nat.le_trans hx1.size (Nat.le_succ _)) #[.int .i64 100, .int .i64 100, .int .i64 10, .int .i64 10, .int .i64 0, .int .i64 0, .bool false])
    | (go_at_call 51; refine (Hpa.out _).mono ?_; rintro e v2 ⟨wb, lb, rfl, hL, hlb, hx4⟩; have hb4 := hx4.heap hb2; have hc4 := hx4.heap hc2; have hx5 := Ext.trans hx3 hx4)
    | (go_at_call 11; refine (Hsp.out _ _ _).mono ?_; rintro e v3 ⟨rfl, hx6⟩; have hb6 := hx6.heap hb4; have hc6 := hx6.heap hc4; have hx7 := Ext.trans hx5 hx6; have hL6 := hL.ext hx6)
    | (go_at_call 50; refine (Hdy.out _ _ _ hL6).mono ?_; rintro e v4 ⟨rfl, hx8⟩; have hb8 := (hx8.alloc (.cells #[.int .i64 2, .int .i64 3] 27)).heap hb6; have hc8 := (hx8.alloc (.cells #[.int .i64 2, .int .i64 3] 27)).heap hc6; have hx9 := Ext.trans hx7 (hx8.alloc (.cells #[.int .i64 2, .int .i64 3] 27)); have hd8 := heap_alloc_new v4 (.cells #[.int .i64 2, .int .i64 3] 27))
    | (refine wpList_load_row rfl 29 (.tmp 1) rfl v1.heap.size rfl 29 _ (0, 0) _ hb8 Tryz.underlying29 rfl (by kernel_rfl) ?_)
    | (refine wpList_load_row rfl 31 (.tmp 2) rfl (v1.heap.size + 1) rfl 31 _ (0, 0) _ hc8 Tryz.underlying31 rfl (by kernel_rfl) ?_)
    | (go_at_call 14; refine (Hla.out _).mono ?_; rintro e v5 ⟨rfl, hx10⟩))
  have hxa := hx10.alloc (.cells #[.int .i64 10, .int .i64 10] 27)
  have hb9 := hxa.heap hb8
  have hc9 := hxa.heap hc8
  have hd9 := hxa.heap hd8
  have he9 := heap_alloc_new v5 (.cells #[.int .i64 10, .int .i64 10] 27)
  have hx9' := Ext.trans hx9 hxa
  generalize v5.alloc (.cells #[.int .i64 10, .int .i64 10] 27) = W6 at *
  generalize v5.heap.size = p5 at *
  generalize v4.heap.size = p3 at *
  generalize v1.heap.size = p1 at *
  have Hb9 := Lib.hid hb9
  have Hc9 := Lib.hid hc9
  have Hd9 := Lib.hid hd9
  have He9 := Lib.hid he9
  have Hx9' := Lib.hid hx9'
  clear hb9 hc9 hd9 he9 hx9'
  clear hx1 hb1 hc1 hx2 hb2 hc2 hx3 hx4 hb4 hc4 hx5 hb6 hc6 hx7 hL6 hb8 hc8 hx9 hd8 hxa hx10 hx8 hx6 hL hlb
  clear Hbe Hpa Hdy Hla
  refine wp_region_tree (.take [0, 1] (.one 2 (.one 3 (.take [4, 5, 6, 7, 8, 9, 10, 11, 12] .done)))) (Ext W6) _ (by kernel_rfl) (by kernel_rfl) rfl ((Ext.refl _).drew) ?_
  intro ι _ f hf hs
  have f0 := fun q => ((hf q).box Hb9.out).1
  have f1 := fun q => ((hf q).box Hc9.out).1
  have HS := Lib.hid hs
  clear hf hs
  simp only [treeOf, oneOp, twoOp, opsOf, consOp, List.getElem?_toArray, List.getElem?_cons_succ, List.getElem?_cons_zero]
  refine wpOT_take ?_
  repeat (go_big_quiet_step (fail))
  refine wpQuiet_nil ?_
  clear f0 f1
  refine wpOT_one ?_
  go_wp2_with fail
  refine ⟨HS.out _ (((Ext.refl W6).drew).alloc _), ?_⟩
  have hda := zDays3_at W6.drew
  refine wpOT_one ?_
  go_wp2_with (go_at_call 52; refine (Hli.out _ _ hda (by simp)).mono ?_; rintro e v7 ⟨a7, c7, rfl, k1, k2, hC7, hx7⟩)
  have hx8 := (((Ext.refl W6).drew).alloc oDays3).trans hx7
  refine ⟨HS.out _ hx8, ?_⟩
  refine wpOT_take ?_
  repeat (go_big_quiet_step (fail))
  refine wpQuiet_nil ?_
  refine wpOT_done ?_
  clear HS
  have hd9 := hx8.heap Hd9.out
  have he9 := hx8.heap He9.out
  have hxz := Hx9'.out.trans hx8
  obtain ⟨b, off, x, rfl, hxk, hb, q0, q1, q2, q3, q4, q5, q6⟩ := hC7.get 2 (by omega)
  have hxe : x = exAfter 3 := by simpa using hxk.symm
  subst hxe
  change v7.cell? _ = some (.int .i64 70) at q0
  change v7.cell? _ = some (.int .i64 70) at q1
  unfold maxLen at k2
  clear hxk hx7 hx8 hC7 hda q2 q3 q4 q5 q6 Hb9 Hc9 Hd9 He9 Hx9' Hli hmk
  have Hd9 := Lib.hid hd9
  have He9 := Lib.hid he9
  have Hxz := Lib.hid hxz
  have Q0 := Lib.hid q0
  have Q1 := Lib.hid q1
  clear hd9 he9 hxz q0 q1
  go_upto_region 5 with fail
  refine wp_region_ext (by kernel_rfl) (by kernel_rfl) (fun f hf hs => ?_)
  have f0 := fun q => ((hf q).box Hd9.out).1
  have f1 := fun q => ((hf q).box He9.out).1
  have f2 := fun q => (hf q).cell Q0.out
  have f3 := fun q => (hf q).cell Q1.out
  have Hf := Lib.hid hf
  have HS := Lib.hid hs
  clear hf hs
  repeat (go_big_quiet_step ((go_at_call 11; exact Calls.ext_of (Hf.out _) HS.out (Hsp.out _ _ _))))
  refine wpQuiet_nil ?_
  intro W9 hW9
  clear f0 f1 f2 f3
  go_wp2_with fail
  go_ret
  exact ⟨rfl, Hxz.out.trans hW9⟩
end Go.Proofs.YtcoelhpmkhimpaaGreat
