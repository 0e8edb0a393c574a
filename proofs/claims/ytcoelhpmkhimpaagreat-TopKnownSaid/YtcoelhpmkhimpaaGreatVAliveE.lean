/- A well that is found on the second day: alive04. -/
import Derived.Test.YtcoelhpmkhimpaaGreatVGl
import Derived.Test.YtcoelhpmkhimpaaGreatVAliveD
import Derived.Test.YtcoelhpmkhimpaaGreatVGr
import Derived.Test.YtcoelhpmkhimpaaGreatVGb
namespace Go.Proofs.YtcoelhpmkhimpaaGreat
open Go.RowKit
set_option linter.unusedVariables false
set_option linter.unusedSimpArgs false
def exTrek : Trek := ⟨⟨1, 1⟩, ⟨10, 20⟩, ⟨0, 0⟩⟩
def exMoved : List Half := [⟨1, 0, 20⟩, ⟨-1, 0, -10⟩, ⟨0, 1, 0⟩, ⟨0, -1, 0⟩]
theorem ex_finds : findsOf hereL [exTrek, exTrek, exTrek] 30 0 10 = (1, 2, 0) := by decide +kernel
theorem ex_march : marchOf hereL exTrek = (exMoved, 0) := by decide +kernel
def IsHere : Rel := fun v W => ∃ b, v = .agg #[.slice (some ⟨b, 0, none⟩) 4 4] ∧ HalvesAt W (some ⟨b, 0, none⟩) 4 hereL
theorem isHere_ec (v : Value) : EC (IsHere v) := fun _ _ ⟨b, h1, h2⟩ e => ⟨b, h1, h2.ext e⟩
def IsMoved : Rel := fun v W => ∃ a c, v = .tuple #[.agg #[.slice a 4 c], .int .i64 0] ∧ HalvesAt W a 4 exMoved
def IsMovedA : Rel := fun v W => ∃ a c, v = .agg #[.slice a 4 c] ∧ HalvesAt W a 4 exMoved
theorem isMovedA_ec (v : Value) : EC (IsMovedA v) := fun _ _ ⟨a, c, h1, h2⟩ e => ⟨a, c, h1, h2.ext e⟩
theorem isMoved_ec (v : Value) : EC (IsMoved v) := fun _ _ ⟨a, c, h1, h2⟩ e => ⟨a, c, h1, h2.ext e⟩
def trekRows (l : List Trek) : List (List Value) := l.map Trek.cells
theorem treks_block {W : World} {b : Nat} {t : TypeId} {n : Nat} (l : List Trek) (hn : l.length = n) (hb : W.heap[b]? = some (.cells (trekRows l).flatten.toArray t (0, 0))) : TreksAt W (some ⟨b, 0, none⟩) n l := by
  subst hn
  have h := slAt_block (rows := trekRows l) (sz := 6) hb (fun r hr => by obtain ⟨s, _, rfl⟩ := List.mem_map.1 hr; rfl)
  rw [show (trekRows l).length = l.length by simp [trekRows]] at h
  exact ⟨rfl, h.congr fun i hi => by simp [trekRows, List.getD, List.getElem?_map, List.getElem?_eq_getElem hi]⟩
theorem exFinds_any (b g : Nat) (w : World) (hl : HalvesAt w (some ⟨b, 0, none⟩) 4 hereL) (hg : w.heap[g]? = some (.cells #[.int .i64 1, .int .i64 1, .int .i64 10, .int .i64 20, .int .i64 0, .int .i64 0, .int .i64 1, .int .i64 1, .int .i64 10, .int .i64 20, .int .i64 0, .int .i64 0, .int .i64 1, .int .i64 1, .int .i64 10, .int .i64 20, .int .i64 0, .int .i64 0] 43 (0, 0))) : Calls Tryz.prog 13 #[.agg #[.slice (some ⟨b, 0, none⟩) 4 4], .slice (some ⟨g, 0, none⟩) 3 3, .int .i64 30, .int .i64 0, .int .i64 10] w fun e w' => e = .returned (.tuple #[.int .i64 1, .int .i64 2, .int .i64 0]) ∧ Ext w w' :=
  (finds_any (some ⟨b, 0, none⟩) 4 4 hereL (some ⟨g, 0, none⟩) 3 3 [exTrek, exTrek, exTrek] 30 0 10 w hl (by omega) (by decide) (treks_block _ rfl hg) (by omega)).mono fun e w' h => by
    unfold FindsPost at h
    rw [ex_finds] at h
    exact h
theorem exMarch_any (b : Nat) (w : World) (hl : HalvesAt w (some ⟨b, 0, none⟩) 4 hereL) : Calls Tryz.prog 24 #[.agg #[.slice (some ⟨b, 0, none⟩) 4 4], .agg #[.int .i64 1, .int .i64 1, .int .i64 10, .int .i64 20, .int .i64 0, .int .i64 0]] w fun e w' => ∃ a c, e = .returned (.tuple #[.agg #[.slice a 4 c], .int .i64 0]) ∧ HalvesAt w' a 4 exMoved ∧ From w.heap.size a ∧ (∀ x, a = some x → x.block < w'.heap.size) ∧ Ext w w' :=
  (march_any (some ⟨b, 0, none⟩) 4 4 hereL exTrek w hl (by omega) (by decide)).mono fun e w' h => by
    unfold AreaOwn at h
    rw [ex_march] at h
    obtain ⟨v, h1, h2, h3⟩ := h
    obtain ⟨a, c, rfl, hf, _, _, h4⟩ := halves_of_owns h3
    exact ⟨a, c, h1, h4, hf, fun x hx => by obtain ⟨b5, o5, rfl, hc⟩ := h4.2 (by decide); cases hx; exact block_lt_of_cell (hc 0 (by decide) 0 _ rfl), h2⟩
theorem join_here {F M : Nat → Nat → Option Addr → Nat → World → Prop} {X Y : Prop} (h1 : (∀ b q a c W, F b q a c W → M b q a c W) → X) (h2 : (∀ b q a c W, F b q a c W → M b q a c W) → Y) (h : ∀ b q a c W, F b q a c W → M b q a c W) : X ∧ Y := ⟨h1 h, h2 h⟩
set_option maxRecDepth 100000 in
set_option maxHeartbeats 4000000 in
theorem alive04_any (w : World) : Calls Tryz.prog 5 #[] w fun e w' => e = .returned (.bool true) ∧ Ext w w' := by
  have hsp := stretch_any
  have hhe := here_any
  have hfi := exFinds_any
  have hma := exMarch_any
  have Hsp := Lib.hid hsp
  have Hhe := Lib.hid hhe
  have Hfi := Lib.hid hfi
  have Hma := Lib.hid hma
  clear hsp hhe hfi hma
  go_enter Tryz.func5, Tryz.ntmps5
  have gg1 := trivial
  go_upto_region 2 with (first | (go_at_call 11; (have q := gg1; clear q gg1); refine (Hsp.out _ _ _).mono ?_; rintro e v1 ⟨rfl, hx1⟩) | (go_at_call 11; refine (Hsp.out _ _ _).mono ?_; rintro e v2 ⟨rfl, hx2⟩))
  have hx3 := (hx1.trans hx2).alloc (.cells #[.int .i64 1, .int .i64 1, .int .i64 10, .int .i64 20, .int .i64 0, .int .i64 0] 43)
  have hp1 := heap_alloc_new v2 (.cells #[.int .i64 1, .int .i64 1, .int .i64 10, .int .i64 20, .int .i64 0, .int .i64 0] 43)
  generalize v2.alloc (.cells #[.int .i64 1, .int .i64 1, .int .i64 10, .int .i64 20, .int .i64 0, .int .i64 0] 43) = V3 at *
  generalize v2.heap.size = p1 at *
  clear hx1 hx2
  have Hx3 := Lib.hid hx3
  have Hp1 := Lib.hid hp1
  clear hx3 hp1
  refine wp_region_flow (.take [1, 2, 3] (.flow [0, 4, 5] [11, 15, 16] [[], [], [0, 1]] (.take [6, 7, 8, 9, 10, 11, 12] .done))) [6, 7, 8, 9, 10, 11, 12] (Ext V3) _ (by kernel_rfl) (by kernel_rfl) rfl (EC.ext V3) ((Ext.refl _).drew) ?_
  simp only [flowOf, treeOf, oneOp, twoOp, opsOf, consOp, callOF, List.getElem?_toArray, List.getElem?_cons_succ, List.getElem?_cons_zero]
  intro ι _ f hf
  have f0 := fun q => ((hf q).box Hp1.out).1
  clear hf
  repeat (go_big_quiet_step (fail))
  refine wpQuiet_nil ?_
  clear f0
  refine wpOF_flow [IsHere, IsSl 43 3 #[.int .i64 1, .int .i64 1, .int .i64 10, .int .i64 20, .int .i64 0, .int .i64 0, .int .i64 1, .int .i64 1, .int .i64 10, .int .i64 20, .int .i64 0, .int .i64 0, .int .i64 1, .int .i64 1, .int .i64 10, .int .i64 20, .int .i64 0, .int .i64 0], IsV (.tuple #[.int .i64 1, .int .i64 2, .int .i64 0])] rfl ⟨isHere_ec , isSl_ec 43 3 #[.int .i64 1, .int .i64 1, .int .i64 10, .int .i64 20, .int .i64 0, .int .i64 0, .int .i64 1, .int .i64 1, .int .i64 10, .int .i64 20, .int .i64 0, .int .i64 0, .int .i64 1, .int .i64 1, .int .i64 10, .int .i64 20, .int .i64 0, .int .i64 0], isV_ec (.tuple #[.int .i64 1, .int .i64 2, .int .i64 0]), trivial⟩ (flowSteps_cons ?_ (flowSteps_cons ?_ (flowSteps_cons ?_ flowSteps_nil))) ?_
  · intro xs W hlen hS hn
    obtain ⟨x0, x1, x2, rfl⟩ := len3 hlen
    simp only [puts, Act.put, List.setIfInBounds_toArray, List.set_cons_succ, List.set_cons_zero]
    go_wp2_with (go_at_call 23; refine (Hhe.out _).mono ?_; rintro e W5 ⟨b, rfl, hH, -, hx5⟩)
    exact FlowPost.mk (.agg #[.slice (some ⟨b, 0, none⟩) 4 4]) rfl hx5 ⟨b, rfl, hH⟩
  · intro xs W hlen hS hn
    obtain ⟨x0, x1, x2, rfl⟩ := len3 hlen
    simp only [puts, Act.put, List.setIfInBounds_toArray, List.set_cons_succ, List.set_cons_zero]
    go_wp2_with fail
    exact FlowPost.mk (.slice (some ⟨W.heap.size, 0, none⟩) 3 3) rfl ((Ext.refl _).alloc _) IsSl.new
  · intro xs W hlen hS hn
    obtain ⟨x0, x1, x2, rfl⟩ := len3 hlen
    simp only [puts, Act.put, List.setIfInBounds_toArray, List.set_cons_succ, List.set_cons_zero]
    obtain ⟨b, rfl, hH⟩ := hn.1
    obtain ⟨b2, rfl, hbs⟩ := hn.2.1
    go_wp2_with (go_at_call 13; refine (Hfi.out _ _ _ hH hbs).mono ?_; rintro e W5 ⟨rfl, hx5⟩)
    exact FlowPost.mk (.tuple #[.int .i64 1, .int .i64 2, .int .i64 0]) rfl hx5 rfl
  intro xs W hlen hS hn
  obtain ⟨x0, x1, x2, rfl⟩ := len3 hlen
  simp only [puts, Act.put, List.setIfInBounds_toArray, List.set_cons_succ, List.set_cons_zero]
  obtain ⟨-, -, rfl, -⟩ := hn
  refine wpOT_take ?_
  repeat (go_big_quiet_step (fail))
  refine wpQuiet_nil ?_
  refine wpOT_done ?_
  have hx4 := Hx3.out.trans hS
  have hp4 := hS.heap Hp1.out
  obtain ⟨V4, hV4⟩ : ∃ V, V = W := ⟨_, rfl⟩
  subst hV4
  have Hx4 := Lib.hid hx4
  have Hp4 := Lib.hid hp4
  clear hx4 hp4
  clear hS Hx3 Hp1 Hfi Hsp
  go_upto_region 3 with fail
  refine wp_region_tree (.take [1] (.two 0 (.two 2 (.take [3, 4, 5] (.one 6 (.one 7 (.take [8] .done)))) 6 (.one 2 (.take [3, 4, 5] (.one 7 (.take [8] .done))))) 6 (.one 0 (.one 2 (.take [3, 4, 5] (.one 7 (.take [8] .done))))))) (Ext V4) _ (by kernel_rfl) (by kernel_rfl) rfl ((Ext.refl _).drew) ?_
  intro ι _ f hf hs
  have f0 := fun q => ((hf q).box Hp4.out).1
  have HS := Lib.hid hs
  clear hf hs
  simp only [treeOf, oneOp, twoOp, opsOf, consOp, List.getElem?_toArray, List.getElem?_cons_succ, List.getElem?_cons_zero]
  refine wpOT_take ?_
  repeat (go_big_quiet_step (fail))
  refine wpQuiet_nil ?_
  clear f0
  have hd0 := (Ext.refl V4).drew
  generalize V4.drew = V5 at *
  refine wpOT_both ?_
  apply join_here (F := fun b q a c V => Ext V4 V ∧ V.heap[q]? = some (.cells #[.slice a 4 c] 24 (0, 0)) ∧ HalvesAt V a 4 exMoved)
  · intro g
    have G := Lib.hid g
    clear g
    go_wp2_with (go_at_call 23; refine (Hhe.out _).mono ?_; rintro e W5 ⟨b, rfl, hH, -, hx5⟩)
    have hy5 := hd0.trans hx5
    refine ⟨HS.out _ hy5, ?_⟩
    refine wpOT_two ?_ ?_
    · go_wp2_with (go_at_call 24; refine (Hma.out _ _ hH).mono ?_; rintro e W6 ⟨a5, c5, rfl, hM, -, hlt, hx6⟩)
      have hy6 := hy5.trans hx6
      refine ⟨HS.out _ hy6, ?_⟩
      refine wpOT_take ?_
      repeat (go_big_quiet_step (fail))
      refine wpQuiet_nil ?_
      refine wpOT_one ?_
      go_wp2_with fail
      have hy7 := hy6.alloc (.cells #[.slice none 0 0] 24)
      refine ⟨HS.out _ hy7, ?_⟩
      have hq0 := hy6.size
      have hq := heap_alloc_new W6 (.cells #[.slice none 0 0] 24)
      have hM7 := hM.ext ((Ext.refl W6).alloc (.cells #[.slice none 0 0] 24))
      have hne : ∀ x, a5 = some x → x.block ≠ W6.heap.size := fun x hx => Nat.ne_of_lt (hlt x hx)
      generalize W6.alloc (.cells #[.slice none 0 0] 24) = W7 at *
      generalize W6.heap.size = q5 at *
      clear hM hx6 hy6 hlt
      obtain ⟨y0, y1⟩ := (Ext.refl W7).box hq
      have hql := heap_lt hq
      refine wpOT_one ?_
      go_wp2_with fail
      refine ⟨HS.out _ (hy7.setCell (p := ⟨q5, 0, none⟩) hq0 _), ?_⟩
      refine wpOT_take ?_
      repeat (go_big_quiet_step (fail))
      refine wpQuiet_nil ?_
      refine wpOT_done ?_
      exact G.out b q5 a5 c5 _ ⟨hy7.setCell (p := ⟨q5, 0, none⟩) hq0 _, by rw [heap_setCell_box, hq]; rfl, hM7.same fun X hX => Below.heap_setCell _ _ _ _ (hne X hX)⟩
    · go_wp2_with fail
      have hy6 := hy5.alloc (.cells #[.slice none 0 0] 24)
      refine ⟨HS.out _ hy6, ?_⟩
      have hH6 := hH.ext ((Ext.refl W5).alloc (.cells #[.slice none 0 0] 24))
      have hq0 := hy5.size
      have hq6 := heap_alloc_new W5 (.cells #[.slice none 0 0] 24)
      generalize W5.alloc (.cells #[.slice none 0 0] 24) = W6 at *
      generalize W5.heap.size = q5 at *
      refine wpOT_one ?_
      go_wp2_with (go_at_call 24; refine (Hma.out _ _ hH6).mono ?_; rintro e W7 ⟨a5, c5, rfl, hM7, hfr, -, hx7⟩)
      have hy7 := hy6.trans hx7
      refine ⟨HS.out _ hy7, ?_⟩
      refine wpOT_take ?_
      repeat (go_big_quiet_step (fail))
      refine wpQuiet_nil ?_
      have hql := heap_lt hq6
      have hne : ∀ x, a5 = some x → x.block ≠ q5 := fun x hx => Nat.ne_of_gt (Nat.lt_of_lt_of_le hql (hfr x hx))
      have hq := hx7.heap hq6
      clear hq6 hql hfr
      obtain ⟨y0, y1⟩ := (Ext.refl W7).box hq
      have hql := heap_lt hq
      refine wpOT_one ?_
      go_wp2_with fail
      refine ⟨HS.out _ (hy7.setCell (p := ⟨q5, 0, none⟩) hq0 _), ?_⟩
      refine wpOT_take ?_
      repeat (go_big_quiet_step (fail))
      refine wpQuiet_nil ?_
      refine wpOT_done ?_
      exact G.out b q5 a5 c5 _ ⟨hy7.setCell (p := ⟨q5, 0, none⟩) hq0 _, by rw [heap_setCell_box, hq]; rfl, hM7.same fun X hX => Below.heap_setCell _ _ _ _ (hne X hX)⟩
  · intro g
    have G := Lib.hid g
    clear g
    go_wp2_with fail
    have hy6 := hd0.alloc (.cells #[.slice none 0 0] 24)
    refine ⟨HS.out _ hy6, ?_⟩
    have hq0 := hd0.size
    have hq6 := heap_alloc_new V5 (.cells #[.slice none 0 0] 24)
    generalize V5.alloc (.cells #[.slice none 0 0] 24) = W6 at *
    generalize V5.heap.size = q5 at *
    refine wpOT_one ?_
    go_wp2_with (go_at_call 23; refine (Hhe.out _).mono ?_; rintro e W5 ⟨b, rfl, hH, -, hx5⟩)
    have hy5 := hy6.trans hx5
    refine ⟨HS.out _ hy5, ?_⟩
    refine wpOT_one ?_
    go_wp2_with (go_at_call 24; refine (Hma.out _ _ hH).mono ?_; rintro e W7 ⟨a5, c5, rfl, hM7, hfr, -, hx7⟩)
    have hy7 := hy5.trans hx7
    refine ⟨HS.out _ hy7, ?_⟩
    refine wpOT_take ?_
    repeat (go_big_quiet_step (fail))
    refine wpQuiet_nil ?_
    have hq5 := hx5.heap hq6
    have hql := heap_lt hq5
    have hne : ∀ x, a5 = some x → x.block ≠ q5 := fun x hx => Nat.ne_of_gt (Nat.lt_of_lt_of_le hql (hfr x hx))
    have hq := hx7.heap hq5
    clear hq6 hql hfr hq5
    obtain ⟨y0, y1⟩ := (Ext.refl W7).box hq
    have hql := heap_lt hq
    refine wpOT_one ?_
    go_wp2_with fail
    refine ⟨HS.out _ (hy7.setCell (p := ⟨q5, 0, none⟩) hq0 _), ?_⟩
    refine wpOT_take ?_
    repeat (go_big_quiet_step (fail))
    refine wpQuiet_nil ?_
    refine wpOT_done ?_
    exact G.out b q5 a5 c5 _ ⟨hy7.setCell (p := ⟨q5, 0, none⟩) hq0 _, by rw [heap_setCell_box, hq]; rfl, hM7.same fun X hX => Below.heap_setCell _ _ _ _ (hne X hX)⟩
  rintro b q5 a5 c5 W6 ⟨hx6, hq, hM⟩
  clear HS
  obtain ⟨z0, _⟩ := (Ext.refl W6).box hq
  have hx7 := Hx4.out.trans hx6
  have Hx7 := Lib.hid hx7
  have Hq := Lib.hid hq
  have HM := Lib.hid hM
  clear hx7 hq hM
  have h3 := alive03_any
  have h79 := sameArea_any
  have H3 := Lib.hid h3
  have H79 := Lib.hid h79
  clear h3 h79
  clear hx6 Hhe Hma Hx4 Hp4
  go_upto_region 4 with fail
  go_wp2_with (first
    | (go_at_call 26; refine (H79.out _ _ _ _ _ _ exMoved exMoved _ HM8.out (halves_blk exMoved rfl (heap_alloc_new _ _)) (by decide)).mono ?_; rintro e W9 ⟨rfl, hx9⟩)
    | (go_at_call 25; refine (H3.out _).mono ?_; rintro e W8 ⟨rfl, hx8⟩; obtain ⟨y0, _⟩ := (Ext.refl W8).box (hx8.heap Hq.out); have hx8' := Hx7.out.trans hx8; have HM8 := Lib.hid (HM.out.ext (hx8.alloc (.cells (halfRows exMoved).flatten.toArray 79))); have Hx8 := Lib.hid hx8'; clear hx8' hx8))
  go_ret
  exact ⟨rfl, (Hx8.out.alloc _).trans hx9⟩
end Go.Proofs.YtcoelhpmkhimpaaGreat
