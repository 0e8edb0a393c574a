/- The halves of a sight. -/
import Derived.Test.YtacdndehlkaaeaaVSight
import Derived.Test.YtacdndehlkaaeaaVGr1
import Derived.Laws.EntriesVeiled
import Derived.BigQuiet
namespace Go.Proofs.Ytacdndehlkaaeaa
open Go.RowKit
set_option linter.unusedVariables false
set_option linter.unusedSimpArgs false
theorem rules_any (w : World) : Calls Try.prog 77 #[] w fun e w' => e = .returned (.agg #[.nilFunc, .nilFunc, .func (.func 97) #[] #[], .func (.func 98) #[] #[], .func (.func 99) #[] #[], .func (.func 100) #[] #[], .func (.func 101) #[] #[], .func (.func 102) #[] #[]]) ∧ Ext w w' := by
  go_enter Try.func77, Try.ntmps77
  go_wp2_with fail
  refine bodyPost_ret (by simp [results, Try.results77, asAddr, go_sem]; rfl) rfl ?_
  exact ⟨rfl, (Ext.refl _).alloc _⟩
def HalvesPost (s : Sight) (w : World) (e : Ending) (w' : World) : Prop := (sightOk s = true ∧ ∃ a c, e = .returned (.tuple #[.slice a (halvesOf s).length c, .bool true]) ∧ (halvesOf s).length ≤ c ∧ c ≤ maxLen ∧ Ext w w' ∧ HalvesAt w' a (halvesOf s).length (halvesOf s) ∧ From w.heap.size a) ∨ (sightOk s = false ∧ e = .returned (.tuple #[.slice none 0 0, .bool false]) ∧ Ext w w')
set_option maxRecDepth 100000 in
set_option maxHeartbeats 4000000 in
theorem halves_not (s : Sight) (w : World) (h0 : 0 ≤ s.kind) (h1 : s.kind ≤ 255) (hk : ¬ (1 ≤ s.kind ∧ s.kind ≤ 3)) : Calls Try.prog 51 #[s.val] w (HalvesPost s w) := by
  obtain ⟨kd, x, y, fx, fy, tx, ty, nl, nh, far⟩ := s
  have hf1 := fun W k hb => from1 1 3 kd W k hb
  simp only at h0 h1 hk
  have hin : inB kd 1 3 = false := by simp [inB]; omega
  have hs : sightOk ⟨kd, x, y, fx, fy, tx, ty, nl, nh, far⟩ = false := by
    unfold sightOk
    rw [if_neg (by simp only; omega), if_neg (by simp only; omega), if_neg (by simp only; omega)]
  rw [hin] at hf1
  have hru := rules_any
  have hnew := fun (W : World) (o : Obj) (b : Nat) (hb : b = W.heap.size) => show (W.alloc o).heap[b]? = some o from by rw [hb]; exact heap_alloc_new W o
  have hb1 := heap_alloc_new w (.cells #[.int .u8 kd, .int .i64 x, .int .i64 y, .int .i64 fx, .int .i64 fy, .int .i64 tx, .int .i64 ty, .int .i64 nl, .int .i64 nh, .int .i64 far] 30)
  unfold Sight.val
  try simp only
  obtain ⟨Q, hQ⟩ : ∃ Q, HalvesPost ⟨kd, x, y, fx, fy, tx, ty, nl, nh, far⟩ w = Q := ⟨_, rfl⟩
  have hfin : ∀ w', Ext w w' → Q (.returned (.tuple #[.slice none 0 0, .bool false])) w' := by
    rw [← hQ]
    exact fun w' hx => .inr ⟨hs, rfl, hx⟩
  rw [hQ]
  clear hQ hs hin hk
  have Hf1 := Lib.hid hf1
  have Hru := Lib.hid hru
  have Hnew := Lib.hid hnew
  have Hb1 := Lib.hid hb1
  have Hfin := Lib.hid hfin
  clear hf1 hru hnew hb1 hfin
  go_enter Try.func51, Try.ntmps51
  go_upto_region 2 with (go_at_call 77; refine (Hru.out _).mono ?_; rintro e w1 ⟨rfl, hx1⟩)
  obtain ⟨W0, hW0⟩ : ∃ W0, w1.alloc (.cells #[.nilFunc, .nilFunc, .func (.func 97) #[] #[], .func (.func 98) #[] #[], .func (.func 99) #[] #[], .func (.func 100) #[] #[], .func (.func 101) #[] #[], .func (.func 102) #[] #[]] 131) = W0 := ⟨_, rfl⟩
  have hx0 : Ext w W0 := by rw [← hW0]; exact (((Ext.refl w).alloc _).trans hx1).alloc _
  have hb2 : W0.heap[w.heap.size]? = some (.cells #[.int .u8 kd, .int .i64 x, .int .i64 y, .int .i64 fx, .int .i64 fy, .int .i64 tx, .int .i64 ty, .int .i64 nl, .int .i64 nh, .int .i64 far] 30 (0, 0)) := by rw [← hW0]; exact ((Ext.refl w1).alloc _).heap (hx1.heap Hb1.out)
  have hb3 : W0.heap[w1.heap.size]? = some (.cells #[.nilFunc, .nilFunc, .func (.func 97) #[] #[], .func (.func 98) #[] #[], .func (.func 99) #[] #[], .func (.func 100) #[] #[], .func (.func 101) #[] #[], .func (.func 102) #[] #[]] 131 (0, 0)) := by rw [← hW0]; exact Hnew.out _ _ _ rfl
  rw [hW0]
  clear hW0
  have Hx0 := Lib.hid hx0
  have Hb2 := Lib.hid hb2
  have Hb3 := Lib.hid hb3
  clear hx0 hb2 hb3
  refine wp_region_tree (.take [0, 1, 2] (.one 3 (.one 4 (.take [5, 6, 7, 8, 9, 10, 11, 12] (.one 13 (.take [14, 15] .done)))))) (Ext W0) _ (by kernel_rfl) (by kernel_rfl) rfl ((Ext.refl _).drew) ?_
  intro ι _ f hf hs
  have f0 := fun q => ((hf q).box Hb2.out).1
  have f1 := fun q => ((hf q).box Hb3.out).1
  have Hs := Lib.hid hs
  clear hs
  clear hf
  simp only [treeOf, oneOp, twoOp, opsOf, consOp, List.getElem?_toArray, List.getElem?_cons_succ, List.getElem?_cons_zero]
  refine wpOT_take ?_
  repeat (go_big_quiet_step (fail))
  refine wpQuiet_nil ?_
  refine wpOT_one ?_
  go_wp2_with fail
  refine ⟨Hs.out _ ((Ext.refl _).alloc _).drew, ?_⟩
  refine wpOT_one ?_
  have hz : (W0.alloc (.cells #[.int .i64 kd] 3)).drew.heap[W0.heap.size]? = some (.cells #[.int .i64 kd] 3 (0, 0)) := Hnew.out W0 _ _ rfl
  have hy : Ext W0 (W0.alloc (.cells #[.int .i64 kd] 3)).drew := ((Ext.refl W0).alloc _).drew
  have Hz := Lib.hid hz
  have Hy := Lib.hid hy
  clear hz hy
  go_wp2_with (go_at_call 66; refine (Hf1.out _ _ Hz.out).mono ?_; rintro e w2 ⟨rfl, hx2⟩; have hx3 := Hy.out.trans hx2)
  refine ⟨Hs.out _ hx3, ?_⟩
  refine wpOT_take ?_
  repeat (go_big_quiet_step (fail))
  refine wpQuiet_nil ?_
  refine wpOT_one ?_
  go_wp2_with fail
  refine ⟨Hs.out _ hx3, ?_⟩
  refine wpOT_take ?_
  repeat (go_big_quiet_step (fail))
  refine wpQuiet_nil ?_
  refine wpOT_done ?_
  clear f0 f1
  go_wp2_with fail
  exact Hfin.out _ (Hx0.out.trans hx3)
set_option maxRecDepth 100000 in
set_option maxHeartbeats 4000000 in
theorem halves_1 (x y fx fy tx ty nl nh far : Int) (w : World) : Calls Try.prog 51 #[Sight.val ⟨1, x, y, fx, fy, tx, ty, nl, nh, far⟩] w (HalvesPost ⟨1, x, y, fx, fy, tx, ty, nl, nh, far⟩ w) := by
  have hf1 := fun W k hb => from1 1 3 1 W k hb
  rw [show inB 1 1 3 = true from rfl] at hf1
  have hv := fun W => pointed_any ⟨1, x, y, fx, fy, tx, ty, nl, nh, far⟩ W
  have hs : sightOk ⟨1, x, y, fx, fy, tx, ty, nl, nh, far⟩ = pointedB ⟨1, x, y, fx, fy, tx, ty, nl, nh, far⟩ := rfl
  have hh : halvesOf ⟨1, x, y, fx, fy, tx, ty, nl, nh, far⟩ = wedge ⟨1, x, y, fx, fy, tx, ty, nl, nh, far⟩ := rfl
  obtain ⟨Q, hQ⟩ : ∃ Q, HalvesPost ⟨1, x, y, fx, fy, tx, ty, nl, nh, far⟩ w = Q := ⟨_, rfl⟩
  rw [hQ]
  cases hb : pointedB ⟨1, x, y, fx, fy, tx, ty, nl, nh, far⟩ with
  | false =>
    have hfin : ∀ w', Ext w w' → Q (.returned (.tuple #[.slice none 0 0, .bool false])) w' := by
      rw [← hQ]
      exact fun w' hx => .inr ⟨hs.trans hb, rfl, hx⟩
    rw [hb] at hv
    unfold Sight.val at hv
    try simp only at hv
    have hru := rules_any
    have hnew := fun (W : World) (o : Obj) (b : Nat) (hb : b = W.heap.size) => show (W.alloc o).heap[b]? = some o from by rw [hb]; exact heap_alloc_new W o
    have hb1 := heap_alloc_new w (.cells #[.int .u8 1, .int .i64 x, .int .i64 y, .int .i64 fx, .int .i64 fy, .int .i64 tx, .int .i64 ty, .int .i64 nl, .int .i64 nh, .int .i64 far] 30)
    unfold Sight.val
    try simp only
    clear hQ hs hb hh
    have Hf1 := Lib.hid hf1
    have Hru := Lib.hid hru
    have Hnew := Lib.hid hnew
    have Hb1 := Lib.hid hb1
    have Hfin := Lib.hid hfin
    have Hv := Lib.hid hv
    clear hf1 hru hnew hb1 hfin hv
    go_enter Try.func51, Try.ntmps51
    go_upto_region 2 with (go_at_call 77; refine (Hru.out _).mono ?_; rintro e w1 ⟨rfl, hx1⟩)
    obtain ⟨W0, hW0⟩ : ∃ W0, w1.alloc (.cells #[.nilFunc, .nilFunc, .func (.func 97) #[] #[], .func (.func 98) #[] #[], .func (.func 99) #[] #[], .func (.func 100) #[] #[], .func (.func 101) #[] #[], .func (.func 102) #[] #[]] 131) = W0 := ⟨_, rfl⟩
    have hx0 : Ext w W0 := by rw [← hW0]; exact (((Ext.refl w).alloc _).trans hx1).alloc _
    have hb2 : W0.heap[w.heap.size]? = some (.cells #[.int .u8 1, .int .i64 x, .int .i64 y, .int .i64 fx, .int .i64 fy, .int .i64 tx, .int .i64 ty, .int .i64 nl, .int .i64 nh, .int .i64 far] 30 (0, 0)) := by rw [← hW0]; exact ((Ext.refl w1).alloc _).heap (hx1.heap Hb1.out)
    have hb3 : W0.heap[w1.heap.size]? = some (.cells #[.nilFunc, .nilFunc, .func (.func 97) #[] #[], .func (.func 98) #[] #[], .func (.func 99) #[] #[], .func (.func 100) #[] #[], .func (.func 101) #[] #[], .func (.func 102) #[] #[]] 131 (0, 0)) := by rw [← hW0]; exact Hnew.out _ _ _ rfl
    rw [hW0]
    clear hW0
    have Hx0 := Lib.hid hx0
    have Hb2 := Lib.hid hb2
    have Hb3 := Lib.hid hb3
    clear hx0 hb2 hb3
    refine wp_region_tree (.take [0, 1, 2] (.one 3 (.one 4 (.take [5, 6, 7, 8, 9, 10, 11, 12] (.one 13 (.take [14, 15] .done)))))) (Ext W0) _ (by kernel_rfl) (by kernel_rfl) rfl ((Ext.refl _).drew) ?_
    intro ι _ f hf hs
    have f0 := fun q => ((hf q).box Hb2.out).1
    have f1 := fun q => ((hf q).box Hb3.out).1
    have Hs := Lib.hid hs
    clear hs
    clear hf
    simp only [treeOf, oneOp, twoOp, opsOf, consOp, List.getElem?_toArray, List.getElem?_cons_succ, List.getElem?_cons_zero]
    refine wpOT_take ?_
    repeat (go_big_quiet_step (fail))
    refine wpQuiet_nil ?_
    refine wpOT_one ?_
    go_wp2_with fail
    refine ⟨Hs.out _ ((Ext.refl _).alloc _).drew, ?_⟩
    refine wpOT_one ?_
    have hz : (W0.alloc (.cells #[.int .i64 1] 3)).drew.heap[W0.heap.size]? = some (.cells #[.int .i64 1] 3 (0, 0)) := Hnew.out W0 _ _ rfl
    have hy : Ext W0 (W0.alloc (.cells #[.int .i64 1] 3)).drew := ((Ext.refl W0).alloc _).drew
    have Hz := Lib.hid hz
    have Hy := Lib.hid hy
    clear hz hy
    go_wp2_with (go_at_call 66; refine (Hf1.out _ _ Hz.out).mono ?_; rintro e w2 ⟨rfl, hx2⟩; have hx3 := Hy.out.trans hx2)
    refine ⟨Hs.out _ hx3, ?_⟩
    refine wpOT_take ?_
    repeat (go_big_quiet_step (fail))
    refine wpQuiet_nil ?_
    refine wpOT_one ?_
    go_wp2_with (go_at_call 97; refine (Hv.out _).mono ?_; rintro e w3 ⟨rfl, hx4⟩; have hx5 := hx3.trans hx4)
    refine ⟨Hs.out _ hx5, ?_⟩
    refine wpOT_take ?_
    repeat (go_big_quiet_step (fail))
    refine wpQuiet_nil ?_
    refine wpOT_done ?_
    clear f0 f1
    go_wp2_with fail
    exact Hfin.out _ (Hx0.out.trans hx5)
  | true =>
    have hfin : ∀ v w' w'', Ext w w' → OwnHalves (wedge ⟨1, x, y, fx, fy, tx, ty, nl, nh, far⟩) w' (.returned v) w'' → Q (.returned (.tuple #[v, .bool true])) w'' := by
      rw [← hQ]
      intro v w' w'' hx ⟨a, c, e, h1, h2, h3, h4, h5⟩
      cases e
      rw [← hh] at h1 h4 ⊢
      exact .inl ⟨hs.trans hb, a, c, rfl, h1, h2, hx.trans h3, h4, fun x e => Nat.le_trans hx.size (h5 x e)⟩
    have hmk := fun W => wedge_any ⟨1, x, y, fx, fy, tx, ty, nl, nh, far⟩ W hb
    rw [hb] at hv
    try simp only at hmk
    obtain ⟨L, hL⟩ : ∃ L, wedge ⟨1, x, y, fx, fy, tx, ty, nl, nh, far⟩ = L := ⟨_, rfl⟩
    rw [hL] at hfin
    rw [show wedge ⟨1, x, y, fx, fy, tx, ty, nl, nh, far⟩ = L from hL] at hmk
    unfold Sight.val at hv hmk
    try simp only at hv hmk
    have hru := rules_any
    have hnew := fun (W : World) (o : Obj) (b : Nat) (hb : b = W.heap.size) => show (W.alloc o).heap[b]? = some o from by rw [hb]; exact heap_alloc_new W o
    have hb1 := heap_alloc_new w (.cells #[.int .u8 1, .int .i64 x, .int .i64 y, .int .i64 fx, .int .i64 fy, .int .i64 tx, .int .i64 ty, .int .i64 nl, .int .i64 nh, .int .i64 far] 30)
    unfold Sight.val
    try simp only
    clear hQ hs hb hh hL
    have Hf1 := Lib.hid hf1
    have Hru := Lib.hid hru
    have Hnew := Lib.hid hnew
    have Hb1 := Lib.hid hb1
    have Hfin := Lib.hid hfin
    have Hv := Lib.hid hv
    have Hmk := Lib.hid hmk
    clear hf1 hru hnew hb1 hfin hv hmk
    go_enter Try.func51, Try.ntmps51
    go_upto_region 2 with (go_at_call 77; refine (Hru.out _).mono ?_; rintro e w1 ⟨rfl, hx1⟩)
    obtain ⟨W0, hW0⟩ : ∃ W0, w1.alloc (.cells #[.nilFunc, .nilFunc, .func (.func 97) #[] #[], .func (.func 98) #[] #[], .func (.func 99) #[] #[], .func (.func 100) #[] #[], .func (.func 101) #[] #[], .func (.func 102) #[] #[]] 131) = W0 := ⟨_, rfl⟩
    have hx0 : Ext w W0 := by rw [← hW0]; exact (((Ext.refl w).alloc _).trans hx1).alloc _
    have hb2 : W0.heap[w.heap.size]? = some (.cells #[.int .u8 1, .int .i64 x, .int .i64 y, .int .i64 fx, .int .i64 fy, .int .i64 tx, .int .i64 ty, .int .i64 nl, .int .i64 nh, .int .i64 far] 30 (0, 0)) := by rw [← hW0]; exact ((Ext.refl w1).alloc _).heap (hx1.heap Hb1.out)
    have hb3 : W0.heap[w1.heap.size]? = some (.cells #[.nilFunc, .nilFunc, .func (.func 97) #[] #[], .func (.func 98) #[] #[], .func (.func 99) #[] #[], .func (.func 100) #[] #[], .func (.func 101) #[] #[], .func (.func 102) #[] #[]] 131 (0, 0)) := by rw [← hW0]; exact Hnew.out _ _ _ rfl
    rw [hW0]
    clear hW0
    have Hx0 := Lib.hid hx0
    have Hb2 := Lib.hid hb2
    have Hb3 := Lib.hid hb3
    clear hx0 hb2 hb3
    refine wp_region_tree (.take [0, 1, 2] (.one 3 (.one 4 (.take [5, 6, 7, 8, 9, 10, 11, 12] (.one 13 (.take [14, 15] .done)))))) (Ext W0) _ (by kernel_rfl) (by kernel_rfl) rfl ((Ext.refl _).drew) ?_
    intro ι _ f hf hs
    have f0 := fun q => ((hf q).box Hb2.out).1
    have f1 := fun q => ((hf q).box Hb3.out).1
    have Hs := Lib.hid hs
    clear hs
    clear hf
    simp only [treeOf, oneOp, twoOp, opsOf, consOp, List.getElem?_toArray, List.getElem?_cons_succ, List.getElem?_cons_zero]
    refine wpOT_take ?_
    repeat (go_big_quiet_step (fail))
    refine wpQuiet_nil ?_
    refine wpOT_one ?_
    go_wp2_with fail
    refine ⟨Hs.out _ ((Ext.refl _).alloc _).drew, ?_⟩
    refine wpOT_one ?_
    have hz : (W0.alloc (.cells #[.int .i64 1] 3)).drew.heap[W0.heap.size]? = some (.cells #[.int .i64 1] 3 (0, 0)) := Hnew.out W0 _ _ rfl
    have hy : Ext W0 (W0.alloc (.cells #[.int .i64 1] 3)).drew := ((Ext.refl W0).alloc _).drew
    have Hz := Lib.hid hz
    have Hy := Lib.hid hy
    clear hz hy
    go_wp2_with (go_at_call 66; refine (Hf1.out _ _ Hz.out).mono ?_; rintro e w2 ⟨rfl, hx2⟩; have hx3 := Hy.out.trans hx2)
    refine ⟨Hs.out _ hx3, ?_⟩
    refine wpOT_take ?_
    repeat (go_big_quiet_step (fail))
    refine wpQuiet_nil ?_
    refine wpOT_one ?_
    go_wp2_with (go_at_call 97; refine (Hv.out _).mono ?_; rintro e w3 ⟨rfl, hx4⟩; have hx5 := hx3.trans hx4)
    refine ⟨Hs.out _ hx5, ?_⟩
    refine wpOT_take ?_
    repeat (go_big_quiet_step (fail))
    refine wpQuiet_nil ?_
    refine wpOT_done ?_
    clear f0 f1 Hs
    have hb5 := hx5.heap Hb2.out
    have hb6 := hx5.heap Hb3.out
    have Hb5 := Lib.hid hb5
    have Hb6 := Lib.hid hb6
    clear hb5 hb6
    go_wp2_with fail
    refine wp_region_tree (.take [0, 1, 2, 3, 4, 5] (.one 6 (.take [7, 8] .done))) (Ext w3) _ (by kernel_rfl) (by kernel_rfl) rfl ((Ext.refl _).drew) ?_
    intro ι _ f hf hs
    have f0 := fun q => ((hf q).box Hb5.out).1
    have f1 := fun q => ((hf q).box Hb6.out).1
    have Hs := Lib.hid hs
    clear hs
    clear hf
    simp only [treeOf, oneOp, twoOp, opsOf, consOp, List.getElem?_toArray, List.getElem?_cons_succ, List.getElem?_cons_zero]
    refine wpOT_take ?_
    repeat (go_big_quiet_step (fail))
    refine wpQuiet_nil ?_
    refine wpOT_one ?_
    go_wp2_with (go_at_call 98; refine (Hmk.out _).mono ?_; rintro e w4 ⟨ra, rc, rfl, r1, r2, r3, r4, r5⟩; have hx6 := (Ext.refl w3).drew.trans r3)
    refine ⟨Hs.out _ hx6, ?_⟩
    refine wpOT_take ?_
    repeat (go_big_quiet_step (fail))
    refine wpQuiet_nil ?_
    refine wpOT_done ?_
    clear f0 f1
    go_wp2_with fail
    exact Hfin.out _ _ _ (Hx0.out.trans hx5) ⟨_, _, rfl, r1, r2, hx6, r4, r5⟩
set_option maxRecDepth 100000 in
set_option maxHeartbeats 4000000 in
theorem halves_2 (x y fx fy tx ty nl nh far : Int) (w : World) : Calls Try.prog 51 #[Sight.val ⟨2, x, y, fx, fy, tx, ty, nl, nh, far⟩] w (HalvesPost ⟨2, x, y, fx, fy, tx, ty, nl, nh, far⟩ w) := by
  have hf1 := fun W k hb => from1 1 3 2 W k hb
  rw [show inB 2 1 3 = true from rfl] at hf1
  have hv := fun W => risen_any ⟨2, x, y, fx, fy, tx, ty, nl, nh, far⟩ W
  have hs : sightOk ⟨2, x, y, fx, fy, tx, ty, nl, nh, far⟩ = risenB ⟨2, x, y, fx, fy, tx, ty, nl, nh, far⟩ := rfl
  have hh : halvesOf ⟨2, x, y, fx, fy, tx, ty, nl, nh, far⟩ = strip ⟨2, x, y, fx, fy, tx, ty, nl, nh, far⟩ := rfl
  obtain ⟨Q, hQ⟩ : ∃ Q, HalvesPost ⟨2, x, y, fx, fy, tx, ty, nl, nh, far⟩ w = Q := ⟨_, rfl⟩
  rw [hQ]
  cases hb : risenB ⟨2, x, y, fx, fy, tx, ty, nl, nh, far⟩ with
  | false =>
    have hfin : ∀ w', Ext w w' → Q (.returned (.tuple #[.slice none 0 0, .bool false])) w' := by
      rw [← hQ]
      exact fun w' hx => .inr ⟨hs.trans hb, rfl, hx⟩
    rw [hb] at hv
    unfold Sight.val at hv
    try simp only at hv
    have hru := rules_any
    have hnew := fun (W : World) (o : Obj) (b : Nat) (hb : b = W.heap.size) => show (W.alloc o).heap[b]? = some o from by rw [hb]; exact heap_alloc_new W o
    have hb1 := heap_alloc_new w (.cells #[.int .u8 2, .int .i64 x, .int .i64 y, .int .i64 fx, .int .i64 fy, .int .i64 tx, .int .i64 ty, .int .i64 nl, .int .i64 nh, .int .i64 far] 30)
    unfold Sight.val
    try simp only
    clear hQ hs hb hh
    have Hf1 := Lib.hid hf1
    have Hru := Lib.hid hru
    have Hnew := Lib.hid hnew
    have Hb1 := Lib.hid hb1
    have Hfin := Lib.hid hfin
    have Hv := Lib.hid hv
    clear hf1 hru hnew hb1 hfin hv
    go_enter Try.func51, Try.ntmps51
    go_upto_region 2 with (go_at_call 77; refine (Hru.out _).mono ?_; rintro e w1 ⟨rfl, hx1⟩)
    obtain ⟨W0, hW0⟩ : ∃ W0, w1.alloc (.cells #[.nilFunc, .nilFunc, .func (.func 97) #[] #[], .func (.func 98) #[] #[], .func (.func 99) #[] #[], .func (.func 100) #[] #[], .func (.func 101) #[] #[], .func (.func 102) #[] #[]] 131) = W0 := ⟨_, rfl⟩
    have hx0 : Ext w W0 := by rw [← hW0]; exact (((Ext.refl w).alloc _).trans hx1).alloc _
    have hb2 : W0.heap[w.heap.size]? = some (.cells #[.int .u8 2, .int .i64 x, .int .i64 y, .int .i64 fx, .int .i64 fy, .int .i64 tx, .int .i64 ty, .int .i64 nl, .int .i64 nh, .int .i64 far] 30 (0, 0)) := by rw [← hW0]; exact ((Ext.refl w1).alloc _).heap (hx1.heap Hb1.out)
    have hb3 : W0.heap[w1.heap.size]? = some (.cells #[.nilFunc, .nilFunc, .func (.func 97) #[] #[], .func (.func 98) #[] #[], .func (.func 99) #[] #[], .func (.func 100) #[] #[], .func (.func 101) #[] #[], .func (.func 102) #[] #[]] 131 (0, 0)) := by rw [← hW0]; exact Hnew.out _ _ _ rfl
    rw [hW0]
    clear hW0
    have Hx0 := Lib.hid hx0
    have Hb2 := Lib.hid hb2
    have Hb3 := Lib.hid hb3
    clear hx0 hb2 hb3
    refine wp_region_tree (.take [0, 1, 2] (.one 3 (.one 4 (.take [5, 6, 7, 8, 9, 10, 11, 12] (.one 13 (.take [14, 15] .done)))))) (Ext W0) _ (by kernel_rfl) (by kernel_rfl) rfl ((Ext.refl _).drew) ?_
    intro ι _ f hf hs
    have f0 := fun q => ((hf q).box Hb2.out).1
    have f1 := fun q => ((hf q).box Hb3.out).1
    have Hs := Lib.hid hs
    clear hs
    clear hf
    simp only [treeOf, oneOp, twoOp, opsOf, consOp, List.getElem?_toArray, List.getElem?_cons_succ, List.getElem?_cons_zero]
    refine wpOT_take ?_
    repeat (go_big_quiet_step (fail))
    refine wpQuiet_nil ?_
    refine wpOT_one ?_
    go_wp2_with fail
    refine ⟨Hs.out _ ((Ext.refl _).alloc _).drew, ?_⟩
    refine wpOT_one ?_
    have hz : (W0.alloc (.cells #[.int .i64 2] 3)).drew.heap[W0.heap.size]? = some (.cells #[.int .i64 2] 3 (0, 0)) := Hnew.out W0 _ _ rfl
    have hy : Ext W0 (W0.alloc (.cells #[.int .i64 2] 3)).drew := ((Ext.refl W0).alloc _).drew
    have Hz := Lib.hid hz
    have Hy := Lib.hid hy
    clear hz hy
    go_wp2_with (go_at_call 66; refine (Hf1.out _ _ Hz.out).mono ?_; rintro e w2 ⟨rfl, hx2⟩; have hx3 := Hy.out.trans hx2)
    refine ⟨Hs.out _ hx3, ?_⟩
    refine wpOT_take ?_
    repeat (go_big_quiet_step (fail))
    refine wpQuiet_nil ?_
    refine wpOT_one ?_
    go_wp2_with (go_at_call 99; refine (Hv.out _).mono ?_; rintro e w3 ⟨rfl, hx4⟩; have hx5 := hx3.trans hx4)
    refine ⟨Hs.out _ hx5, ?_⟩
    refine wpOT_take ?_
    repeat (go_big_quiet_step (fail))
    refine wpQuiet_nil ?_
    refine wpOT_done ?_
    clear f0 f1
    go_wp2_with fail
    exact Hfin.out _ (Hx0.out.trans hx5)
  | true =>
    have hfin : ∀ v w' w'', Ext w w' → OwnHalves (strip ⟨2, x, y, fx, fy, tx, ty, nl, nh, far⟩) w' (.returned v) w'' → Q (.returned (.tuple #[v, .bool true])) w'' := by
      rw [← hQ]
      intro v w' w'' hx ⟨a, c, e, h1, h2, h3, h4, h5⟩
      cases e
      rw [← hh] at h1 h4 ⊢
      exact .inl ⟨hs.trans hb, a, c, rfl, h1, h2, hx.trans h3, h4, fun x e => Nat.le_trans hx.size (h5 x e)⟩
    have hmk := fun W => strip_any ⟨2, x, y, fx, fy, tx, ty, nl, nh, far⟩ W hb
    rw [hb] at hv
    try simp only at hmk
    obtain ⟨L, hL⟩ : ∃ L, strip ⟨2, x, y, fx, fy, tx, ty, nl, nh, far⟩ = L := ⟨_, rfl⟩
    rw [hL] at hfin
    rw [show strip ⟨2, x, y, fx, fy, tx, ty, nl, nh, far⟩ = L from hL] at hmk
    unfold Sight.val at hv hmk
    try simp only at hv hmk
    have hru := rules_any
    have hnew := fun (W : World) (o : Obj) (b : Nat) (hb : b = W.heap.size) => show (W.alloc o).heap[b]? = some o from by rw [hb]; exact heap_alloc_new W o
    have hb1 := heap_alloc_new w (.cells #[.int .u8 2, .int .i64 x, .int .i64 y, .int .i64 fx, .int .i64 fy, .int .i64 tx, .int .i64 ty, .int .i64 nl, .int .i64 nh, .int .i64 far] 30)
    unfold Sight.val
    try simp only
    clear hQ hs hb hh hL
    have Hf1 := Lib.hid hf1
    have Hru := Lib.hid hru
    have Hnew := Lib.hid hnew
    have Hb1 := Lib.hid hb1
    have Hfin := Lib.hid hfin
    have Hv := Lib.hid hv
    have Hmk := Lib.hid hmk
    clear hf1 hru hnew hb1 hfin hv hmk
    go_enter Try.func51, Try.ntmps51
    go_upto_region 2 with (go_at_call 77; refine (Hru.out _).mono ?_; rintro e w1 ⟨rfl, hx1⟩)
    obtain ⟨W0, hW0⟩ : ∃ W0, w1.alloc (.cells #[.nilFunc, .nilFunc, .func (.func 97) #[] #[], .func (.func 98) #[] #[], .func (.func 99) #[] #[], .func (.func 100) #[] #[], .func (.func 101) #[] #[], .func (.func 102) #[] #[]] 131) = W0 := ⟨_, rfl⟩
    have hx0 : Ext w W0 := by rw [← hW0]; exact (((Ext.refl w).alloc _).trans hx1).alloc _
    have hb2 : W0.heap[w.heap.size]? = some (.cells #[.int .u8 2, .int .i64 x, .int .i64 y, .int .i64 fx, .int .i64 fy, .int .i64 tx, .int .i64 ty, .int .i64 nl, .int .i64 nh, .int .i64 far] 30 (0, 0)) := by rw [← hW0]; exact ((Ext.refl w1).alloc _).heap (hx1.heap Hb1.out)
    have hb3 : W0.heap[w1.heap.size]? = some (.cells #[.nilFunc, .nilFunc, .func (.func 97) #[] #[], .func (.func 98) #[] #[], .func (.func 99) #[] #[], .func (.func 100) #[] #[], .func (.func 101) #[] #[], .func (.func 102) #[] #[]] 131 (0, 0)) := by rw [← hW0]; exact Hnew.out _ _ _ rfl
    rw [hW0]
    clear hW0
    have Hx0 := Lib.hid hx0
    have Hb2 := Lib.hid hb2
    have Hb3 := Lib.hid hb3
    clear hx0 hb2 hb3
    refine wp_region_tree (.take [0, 1, 2] (.one 3 (.one 4 (.take [5, 6, 7, 8, 9, 10, 11, 12] (.one 13 (.take [14, 15] .done)))))) (Ext W0) _ (by kernel_rfl) (by kernel_rfl) rfl ((Ext.refl _).drew) ?_
    intro ι _ f hf hs
    have f0 := fun q => ((hf q).box Hb2.out).1
    have f1 := fun q => ((hf q).box Hb3.out).1
    have Hs := Lib.hid hs
    clear hs
    clear hf
    simp only [treeOf, oneOp, twoOp, opsOf, consOp, List.getElem?_toArray, List.getElem?_cons_succ, List.getElem?_cons_zero]
    refine wpOT_take ?_
    repeat (go_big_quiet_step (fail))
    refine wpQuiet_nil ?_
    refine wpOT_one ?_
    go_wp2_with fail
    refine ⟨Hs.out _ ((Ext.refl _).alloc _).drew, ?_⟩
    refine wpOT_one ?_
    have hz : (W0.alloc (.cells #[.int .i64 2] 3)).drew.heap[W0.heap.size]? = some (.cells #[.int .i64 2] 3 (0, 0)) := Hnew.out W0 _ _ rfl
    have hy : Ext W0 (W0.alloc (.cells #[.int .i64 2] 3)).drew := ((Ext.refl W0).alloc _).drew
    have Hz := Lib.hid hz
    have Hy := Lib.hid hy
    clear hz hy
    go_wp2_with (go_at_call 66; refine (Hf1.out _ _ Hz.out).mono ?_; rintro e w2 ⟨rfl, hx2⟩; have hx3 := Hy.out.trans hx2)
    refine ⟨Hs.out _ hx3, ?_⟩
    refine wpOT_take ?_
    repeat (go_big_quiet_step (fail))
    refine wpQuiet_nil ?_
    refine wpOT_one ?_
    go_wp2_with (go_at_call 99; refine (Hv.out _).mono ?_; rintro e w3 ⟨rfl, hx4⟩; have hx5 := hx3.trans hx4)
    refine ⟨Hs.out _ hx5, ?_⟩
    refine wpOT_take ?_
    repeat (go_big_quiet_step (fail))
    refine wpQuiet_nil ?_
    refine wpOT_done ?_
    clear f0 f1 Hs
    have hb5 := hx5.heap Hb2.out
    have hb6 := hx5.heap Hb3.out
    have Hb5 := Lib.hid hb5
    have Hb6 := Lib.hid hb6
    clear hb5 hb6
    go_wp2_with fail
    refine wp_region_tree (.take [0, 1, 2, 3, 4, 5] (.one 6 (.take [7, 8] .done))) (Ext w3) _ (by kernel_rfl) (by kernel_rfl) rfl ((Ext.refl _).drew) ?_
    intro ι _ f hf hs
    have f0 := fun q => ((hf q).box Hb5.out).1
    have f1 := fun q => ((hf q).box Hb6.out).1
    have Hs := Lib.hid hs
    clear hs
    clear hf
    simp only [treeOf, oneOp, twoOp, opsOf, consOp, List.getElem?_toArray, List.getElem?_cons_succ, List.getElem?_cons_zero]
    refine wpOT_take ?_
    repeat (go_big_quiet_step (fail))
    refine wpQuiet_nil ?_
    refine wpOT_one ?_
    go_wp2_with (go_at_call 100; refine (Hmk.out _).mono ?_; rintro e w4 ⟨ra, rc, rfl, r1, r2, r3, r4, r5⟩; have hx6 := (Ext.refl w3).drew.trans r3)
    refine ⟨Hs.out _ hx6, ?_⟩
    refine wpOT_take ?_
    repeat (go_big_quiet_step (fail))
    refine wpQuiet_nil ?_
    refine wpOT_done ?_
    clear f0 f1
    go_wp2_with fail
    exact Hfin.out _ _ _ (Hx0.out.trans hx5) ⟨_, _, rfl, r1, r2, hx6, r4, r5⟩
set_option maxRecDepth 100000 in
set_option maxHeartbeats 4000000 in
theorem halves_3 (x y fx fy tx ty nl nh far : Int) (w : World) : Calls Try.prog 51 #[Sight.val ⟨3, x, y, fx, fy, tx, ty, nl, nh, far⟩] w (HalvesPost ⟨3, x, y, fx, fy, tx, ty, nl, nh, far⟩ w) := by
  have hf1 := fun W k hb => from1 1 3 3 W k hb
  rw [show inB 3 1 3 = true from rfl] at hf1
  have hv := fun W => close_any ⟨3, x, y, fx, fy, tx, ty, nl, nh, far⟩ W
  have hs : sightOk ⟨3, x, y, fx, fy, tx, ty, nl, nh, far⟩ = closeB ⟨3, x, y, fx, fy, tx, ty, nl, nh, far⟩ := rfl
  have hh : halvesOf ⟨3, x, y, fx, fy, tx, ty, nl, nh, far⟩ = around x y far := rfl
  obtain ⟨Q, hQ⟩ : ∃ Q, HalvesPost ⟨3, x, y, fx, fy, tx, ty, nl, nh, far⟩ w = Q := ⟨_, rfl⟩
  rw [hQ]
  cases hb : closeB ⟨3, x, y, fx, fy, tx, ty, nl, nh, far⟩ with
  | false =>
    have hfin : ∀ w', Ext w w' → Q (.returned (.tuple #[.slice none 0 0, .bool false])) w' := by
      rw [← hQ]
      exact fun w' hx => .inr ⟨hs.trans hb, rfl, hx⟩
    rw [hb] at hv
    unfold Sight.val at hv
    try simp only at hv
    have hru := rules_any
    have hnew := fun (W : World) (o : Obj) (b : Nat) (hb : b = W.heap.size) => show (W.alloc o).heap[b]? = some o from by rw [hb]; exact heap_alloc_new W o
    have hb1 := heap_alloc_new w (.cells #[.int .u8 3, .int .i64 x, .int .i64 y, .int .i64 fx, .int .i64 fy, .int .i64 tx, .int .i64 ty, .int .i64 nl, .int .i64 nh, .int .i64 far] 30)
    unfold Sight.val
    try simp only
    clear hQ hs hb hh
    have Hf1 := Lib.hid hf1
    have Hru := Lib.hid hru
    have Hnew := Lib.hid hnew
    have Hb1 := Lib.hid hb1
    have Hfin := Lib.hid hfin
    have Hv := Lib.hid hv
    clear hf1 hru hnew hb1 hfin hv
    go_enter Try.func51, Try.ntmps51
    go_upto_region 2 with (go_at_call 77; refine (Hru.out _).mono ?_; rintro e w1 ⟨rfl, hx1⟩)
    obtain ⟨W0, hW0⟩ : ∃ W0, w1.alloc (.cells #[.nilFunc, .nilFunc, .func (.func 97) #[] #[], .func (.func 98) #[] #[], .func (.func 99) #[] #[], .func (.func 100) #[] #[], .func (.func 101) #[] #[], .func (.func 102) #[] #[]] 131) = W0 := ⟨_, rfl⟩
    have hx0 : Ext w W0 := by rw [← hW0]; exact (((Ext.refl w).alloc _).trans hx1).alloc _
    have hb2 : W0.heap[w.heap.size]? = some (.cells #[.int .u8 3, .int .i64 x, .int .i64 y, .int .i64 fx, .int .i64 fy, .int .i64 tx, .int .i64 ty, .int .i64 nl, .int .i64 nh, .int .i64 far] 30 (0, 0)) := by rw [← hW0]; exact ((Ext.refl w1).alloc _).heap (hx1.heap Hb1.out)
    have hb3 : W0.heap[w1.heap.size]? = some (.cells #[.nilFunc, .nilFunc, .func (.func 97) #[] #[], .func (.func 98) #[] #[], .func (.func 99) #[] #[], .func (.func 100) #[] #[], .func (.func 101) #[] #[], .func (.func 102) #[] #[]] 131 (0, 0)) := by rw [← hW0]; exact Hnew.out _ _ _ rfl
    rw [hW0]
    clear hW0
    have Hx0 := Lib.hid hx0
    have Hb2 := Lib.hid hb2
    have Hb3 := Lib.hid hb3
    clear hx0 hb2 hb3
    refine wp_region_tree (.take [0, 1, 2] (.one 3 (.one 4 (.take [5, 6, 7, 8, 9, 10, 11, 12] (.one 13 (.take [14, 15] .done)))))) (Ext W0) _ (by kernel_rfl) (by kernel_rfl) rfl ((Ext.refl _).drew) ?_
    intro ι _ f hf hs
    have f0 := fun q => ((hf q).box Hb2.out).1
    have f1 := fun q => ((hf q).box Hb3.out).1
    have Hs := Lib.hid hs
    clear hs
    clear hf
    simp only [treeOf, oneOp, twoOp, opsOf, consOp, List.getElem?_toArray, List.getElem?_cons_succ, List.getElem?_cons_zero]
    refine wpOT_take ?_
    repeat (go_big_quiet_step (fail))
    refine wpQuiet_nil ?_
    refine wpOT_one ?_
    go_wp2_with fail
    refine ⟨Hs.out _ ((Ext.refl _).alloc _).drew, ?_⟩
    refine wpOT_one ?_
    have hz : (W0.alloc (.cells #[.int .i64 3] 3)).drew.heap[W0.heap.size]? = some (.cells #[.int .i64 3] 3 (0, 0)) := Hnew.out W0 _ _ rfl
    have hy : Ext W0 (W0.alloc (.cells #[.int .i64 3] 3)).drew := ((Ext.refl W0).alloc _).drew
    have Hz := Lib.hid hz
    have Hy := Lib.hid hy
    clear hz hy
    go_wp2_with (go_at_call 66; refine (Hf1.out _ _ Hz.out).mono ?_; rintro e w2 ⟨rfl, hx2⟩; have hx3 := Hy.out.trans hx2)
    refine ⟨Hs.out _ hx3, ?_⟩
    refine wpOT_take ?_
    repeat (go_big_quiet_step (fail))
    refine wpQuiet_nil ?_
    refine wpOT_one ?_
    go_wp2_with (go_at_call 101; refine (Hv.out _).mono ?_; rintro e w3 ⟨rfl, hx4⟩; have hx5 := hx3.trans hx4)
    refine ⟨Hs.out _ hx5, ?_⟩
    refine wpOT_take ?_
    repeat (go_big_quiet_step (fail))
    refine wpQuiet_nil ?_
    refine wpOT_done ?_
    clear f0 f1
    go_wp2_with fail
    exact Hfin.out _ (Hx0.out.trans hx5)
  | true =>
    have hfin : ∀ v w' w'', Ext w w' → OwnHalves (around x y far) w' (.returned v) w'' → Q (.returned (.tuple #[v, .bool true])) w'' := by
      rw [← hQ]
      intro v w' w'' hx ⟨a, c, e, h1, h2, h3, h4, h5⟩
      cases e
      rw [← hh] at h1 h4 ⊢
      exact .inl ⟨hs.trans hb, a, c, rfl, h1, h2, hx.trans h3, h4, fun x e => Nat.le_trans hx.size (h5 x e)⟩
    have hmk := fun W => round_any ⟨3, x, y, fx, fy, tx, ty, nl, nh, far⟩ W hb
    rw [hb] at hv
    try simp only at hmk
    obtain ⟨L, hL⟩ : ∃ L, around x y far = L := ⟨_, rfl⟩
    rw [hL] at hfin
    rw [show around x y far = L from hL] at hmk
    unfold Sight.val at hv hmk
    try simp only at hv hmk
    have hru := rules_any
    have hnew := fun (W : World) (o : Obj) (b : Nat) (hb : b = W.heap.size) => show (W.alloc o).heap[b]? = some o from by rw [hb]; exact heap_alloc_new W o
    have hb1 := heap_alloc_new w (.cells #[.int .u8 3, .int .i64 x, .int .i64 y, .int .i64 fx, .int .i64 fy, .int .i64 tx, .int .i64 ty, .int .i64 nl, .int .i64 nh, .int .i64 far] 30)
    unfold Sight.val
    try simp only
    clear hQ hs hb hh hL
    have Hf1 := Lib.hid hf1
    have Hru := Lib.hid hru
    have Hnew := Lib.hid hnew
    have Hb1 := Lib.hid hb1
    have Hfin := Lib.hid hfin
    have Hv := Lib.hid hv
    have Hmk := Lib.hid hmk
    clear hf1 hru hnew hb1 hfin hv hmk
    go_enter Try.func51, Try.ntmps51
    go_upto_region 2 with (go_at_call 77; refine (Hru.out _).mono ?_; rintro e w1 ⟨rfl, hx1⟩)
    obtain ⟨W0, hW0⟩ : ∃ W0, w1.alloc (.cells #[.nilFunc, .nilFunc, .func (.func 97) #[] #[], .func (.func 98) #[] #[], .func (.func 99) #[] #[], .func (.func 100) #[] #[], .func (.func 101) #[] #[], .func (.func 102) #[] #[]] 131) = W0 := ⟨_, rfl⟩
    have hx0 : Ext w W0 := by rw [← hW0]; exact (((Ext.refl w).alloc _).trans hx1).alloc _
    have hb2 : W0.heap[w.heap.size]? = some (.cells #[.int .u8 3, .int .i64 x, .int .i64 y, .int .i64 fx, .int .i64 fy, .int .i64 tx, .int .i64 ty, .int .i64 nl, .int .i64 nh, .int .i64 far] 30 (0, 0)) := by rw [← hW0]; exact ((Ext.refl w1).alloc _).heap (hx1.heap Hb1.out)
    have hb3 : W0.heap[w1.heap.size]? = some (.cells #[.nilFunc, .nilFunc, .func (.func 97) #[] #[], .func (.func 98) #[] #[], .func (.func 99) #[] #[], .func (.func 100) #[] #[], .func (.func 101) #[] #[], .func (.func 102) #[] #[]] 131 (0, 0)) := by rw [← hW0]; exact Hnew.out _ _ _ rfl
    rw [hW0]
    clear hW0
    have Hx0 := Lib.hid hx0
    have Hb2 := Lib.hid hb2
    have Hb3 := Lib.hid hb3
    clear hx0 hb2 hb3
    refine wp_region_tree (.take [0, 1, 2] (.one 3 (.one 4 (.take [5, 6, 7, 8, 9, 10, 11, 12] (.one 13 (.take [14, 15] .done)))))) (Ext W0) _ (by kernel_rfl) (by kernel_rfl) rfl ((Ext.refl _).drew) ?_
    intro ι _ f hf hs
    have f0 := fun q => ((hf q).box Hb2.out).1
    have f1 := fun q => ((hf q).box Hb3.out).1
    have Hs := Lib.hid hs
    clear hs
    clear hf
    simp only [treeOf, oneOp, twoOp, opsOf, consOp, List.getElem?_toArray, List.getElem?_cons_succ, List.getElem?_cons_zero]
    refine wpOT_take ?_
    repeat (go_big_quiet_step (fail))
    refine wpQuiet_nil ?_
    refine wpOT_one ?_
    go_wp2_with fail
    refine ⟨Hs.out _ ((Ext.refl _).alloc _).drew, ?_⟩
    refine wpOT_one ?_
    have hz : (W0.alloc (.cells #[.int .i64 3] 3)).drew.heap[W0.heap.size]? = some (.cells #[.int .i64 3] 3 (0, 0)) := Hnew.out W0 _ _ rfl
    have hy : Ext W0 (W0.alloc (.cells #[.int .i64 3] 3)).drew := ((Ext.refl W0).alloc _).drew
    have Hz := Lib.hid hz
    have Hy := Lib.hid hy
    clear hz hy
    go_wp2_with (go_at_call 66; refine (Hf1.out _ _ Hz.out).mono ?_; rintro e w2 ⟨rfl, hx2⟩; have hx3 := Hy.out.trans hx2)
    refine ⟨Hs.out _ hx3, ?_⟩
    refine wpOT_take ?_
    repeat (go_big_quiet_step (fail))
    refine wpQuiet_nil ?_
    refine wpOT_one ?_
    go_wp2_with (go_at_call 101; refine (Hv.out _).mono ?_; rintro e w3 ⟨rfl, hx4⟩; have hx5 := hx3.trans hx4)
    refine ⟨Hs.out _ hx5, ?_⟩
    refine wpOT_take ?_
    repeat (go_big_quiet_step (fail))
    refine wpQuiet_nil ?_
    refine wpOT_done ?_
    clear f0 f1 Hs
    have hb5 := hx5.heap Hb2.out
    have hb6 := hx5.heap Hb3.out
    have Hb5 := Lib.hid hb5
    have Hb6 := Lib.hid hb6
    clear hb5 hb6
    go_wp2_with fail
    refine wp_region_tree (.take [0, 1, 2, 3, 4, 5] (.one 6 (.take [7, 8] .done))) (Ext w3) _ (by kernel_rfl) (by kernel_rfl) rfl ((Ext.refl _).drew) ?_
    intro ι _ f hf hs
    have f0 := fun q => ((hf q).box Hb5.out).1
    have f1 := fun q => ((hf q).box Hb6.out).1
    have Hs := Lib.hid hs
    clear hs
    clear hf
    simp only [treeOf, oneOp, twoOp, opsOf, consOp, List.getElem?_toArray, List.getElem?_cons_succ, List.getElem?_cons_zero]
    refine wpOT_take ?_
    repeat (go_big_quiet_step (fail))
    refine wpQuiet_nil ?_
    refine wpOT_one ?_
    go_wp2_with (go_at_call 102; refine (Hmk.out _).mono ?_; rintro e w4 ⟨ra, rc, rfl, r1, r2, r3, r4, r5⟩; have hx6 := (Ext.refl w3).drew.trans r3)
    refine ⟨Hs.out _ hx6, ?_⟩
    refine wpOT_take ?_
    repeat (go_big_quiet_step (fail))
    refine wpQuiet_nil ?_
    refine wpOT_done ?_
    clear f0 f1
    go_wp2_with fail
    exact Hfin.out _ _ _ (Hx0.out.trans hx5) ⟨_, _, rfl, r1, r2, hx6, r4, r5⟩
theorem halves_any (s : Sight) (w : World) (h0 : 0 ≤ s.kind) (h1 : s.kind ≤ 255) : Calls Try.prog 51 #[s.val] w (HalvesPost s w) := by
  by_cases hk : 1 ≤ s.kind ∧ s.kind ≤ 3
  · obtain ⟨kd, x, y, fx, fy, tx, ty, nl, nh, far⟩ := s
    simp only at hk
    rcases (show kd = 1 ∨ kd = 2 ∨ kd = 3 by omega) with rfl | rfl | rfl
    · exact halves_1 x y fx fy tx ty nl nh far w
    · exact halves_2 x y fx fy tx ty nl nh far w
    · exact halves_3 x y fx fy tx ty nl nh far w
  · exact halves_not s w h0 h1 hk
end Go.Proofs.Ytacdndehlkaaeaa
