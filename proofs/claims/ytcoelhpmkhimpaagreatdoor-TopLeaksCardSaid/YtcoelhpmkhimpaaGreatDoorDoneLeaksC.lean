/- Contracts of layer 1: what an animal carries. -/
import Derived.Test.YtcoelhpmkhimpaaGreatDoorDoneLeaksB
import Derived.Test.YtcoelhpmkhimpaaGreatDoorDoneLeaksA
import Derived.Carry
import Derived.Test.YtcoelhpmkhimpaaGreatDoorWaterC
import Derived.RegionTactic
import Derived.BigRegion
import Derived.Lib.AppendZeros
import Derived.Test.YtcoelhpmkhimpaaGreatDoorTreeC
import Derived.Test.YtcoelhpmkhimpaaGreatDoorDayC
import Derived.Test.YtcoelhpmkhimpaaGreatDoorCamC
namespace Go.Proofs.YtcoelhpmkhimpaaGreatDoor
open Go.RowKit
set_option linter.unusedVariables false
set_option linter.unusedSimpArgs false
def sortOf (f g : Nat) : Value := .agg #[.func (.func f) #[] #[], .func (.func g) #[] #[]]
def sortsF : Int → Option Value := fun q => if q = 3 then some (sortOf 93 94) else if q = 2 then some (sortOf 91 92) else if q = 1 then some (sortOf 89 90) else none
set_option maxRecDepth 100000 in
set_option maxHeartbeats 2000000 in
theorem sorts_any (w : World) : Calls Tryz.prog 59 #[] w fun e V => ∃ b, e = .returned (.map (some b)) ∧ Ext w V ∧ UMapIs V b sortsF := by
  have hmm := @run_makeMap Tryz.prog
  obtain ⟨W1, r1, m1, g1⟩ := run_mapUpdate_u8 (P := Tryz.prog) (UMapIs.made w) Tryz.underlying114 Tryz.underlying5 1 (sortOf 89 90)
  obtain ⟨W2, r2, m2, g2⟩ := run_mapUpdate_u8 (P := Tryz.prog) m1 Tryz.underlying114 Tryz.underlying5 2 (sortOf 91 92)
  obtain ⟨W3, r3, m3, g3⟩ := run_mapUpdate_u8 (P := Tryz.prog) m2 Tryz.underlying114 Tryz.underlying5 3 (sortOf 93 94)
  have hx : Ext w W3 := But.ext ((Ext.refl w).alloc _) (((but_block g1).trans (but_block g2)).trans (but_block g3)) (by rintro b rfl; exact Nat.le_refl _)
  simp only [sortOf] at r1 r2 r3
  have M3 := Lib.hid m3
  have Hx := Lib.hid hx
  clear m3 hx
  clear m1 m2 g1 g2 g3
  go_enter Tryz.func59, Tryz.ntmps59
  go_wp2_with fail
  go_ret
  exact ⟨_, rfl, Hx.out, M3.out⟩
end Go.Proofs.YtcoelhpmkhimpaaGreatDoor

namespace Go.Proofs.YtcoelhpmkhimpaaGreatDoor
open Go.RowKit
set_option linter.unusedVariables false
set_option linter.unusedSimpArgs false
def springL : Land := ⟨[⟨0, 0, 0, ⟨10, 20⟩, 1000, ⟨500, 900⟩, 0⟩], []⟩
set_option maxRecDepth 100000 in
theorem spring_any (w : World) : Calls Tryz.prog 47 #[] w fun e w' => ∃ b, e = .returned (.agg #[.slice (some ⟨b, 0, none⟩) 1 1, .slice none 0 0]) ∧ LandAt w' (some ⟨b, 0, none⟩) 1 1 none 0 0 springL ∧ Ext w w' := by
  have hsp := rangd_any
  have hx0 : Ext w (w.alloc (.cells #[.slice none 0 0, .slice none 0 0] 99)) := (Ext.refl w).alloc _
  have hb0 := heap_alloc_new w (.cells #[.slice none 0 0, .slice none 0 0] 99)
  obtain ⟨W0, hW0⟩ : ∃ W0, w.alloc (.cells #[.slice none 0 0, .slice none 0 0] 99) = W0 := ⟨_, rfl⟩
  rw [hW0] at hx0 hb0
  have Hsp := Lib.hid hsp
  have Hx0 := Lib.hid hx0
  have Hb0 := Lib.hid hb0
  clear hsp hx0 hb0
  have gg1 := trivial
  go_enter Tryz.func47, Tryz.ntmps47
  go_wp2_with (first
    | (go_at_call 12; (have q := gg1; clear q gg1); refine (Hsp.out _ _ _).mono ?_; rintro e w1 ⟨rfl, hx1⟩)
    | (go_at_call 12; refine (Hsp.out _ _ _).mono ?_; rintro e w2 ⟨rfl, hx2⟩; have hy2 := hx1.trans hx2; have hb2 := hy2.heap Hb0.out; have hxw := Hx0.out.trans hy2)
    | (refine wpList_store_row rfl 99 (.tmp 0) (.tmp 5) rfl w.heap.size #[.slice (some ⟨w2.heap.size, 0, none⟩) 1 1, .slice none 0 0] rfl rfl 99 _ (alloc_heap hb2 _) (by kernel_rfl) (by kernel_rfl) (by kernel_rfl) ?_))
  have hwl := heap_lt hb2
  have hw3 := heap_alloc_new w2 (.cells #[.int .i64 0, .int .i64 0, .int .i64 0, .int .i64 10, .int .i64 20, .int .i64 1000, .int .i64 500, .int .i64 900, .int .i64 0] 135)
  have hb3 := alloc_heap hb2 (.cells #[.int .i64 0, .int .i64 0, .int .i64 0, .int .i64 10, .int .i64 20, .int .i64 1000, .int .i64 500, .int .i64 900, .int .i64 0] 135)
  have hx3 := hxw.alloc (.cells #[.int .i64 0, .int .i64 0, .int .i64 0, .int .i64 10, .int .i64 20, .int .i64 1000, .int .i64 500, .int .i64 900, .int .i64 0] 135)
  generalize w2.alloc (.cells #[.int .i64 0, .int .i64 0, .int .i64 0, .int .i64 10, .int .i64 20, .int .i64 1000, .int .i64 500, .int .i64 900, .int .i64 0] 135) = W5 at *
  generalize w2.heap.size = b at *
  have hb5 := setRow_heap W5 w.heap.size _ #[.slice (some ⟨b, 0, none⟩) 1 1, .slice none 0 0] 99 (0, 0) hb3
  have hw5 := (setRow_other W5 w.heap.size b #[.slice (some ⟨b, 0, none⟩) 1 1, .slice none 0 0] (by omega)).trans hw3
  have hx5 := below_setRow hx3 (Nat.le_refl _) #[.slice (some ⟨b, 0, none⟩) 1 1, .slice none 0 0]
  refine bodyPost_ret (results_cell_row rfl _ _ w.heap.size 99 #[.slice (some ⟨b, 0, none⟩) 1 1, .slice none 0 0] (0, 0) _ rfl hb5 Tryz.underlying99 rfl (by kernel_rfl)) rfl ?_
  exact ⟨b, rfl, ⟨wells_block springL.wells rfl hw5, ⟨rfl, fun h => absurd h (Nat.lt_irrefl 0)⟩, by omega, by decide, by omega, by decide, by omega, by omega⟩, hx5⟩
def wBreed : Breed := ⟨1000, 1000, ⟨0, 0⟩, ⟨0, 0⟩, ⟨0, 0⟩, ⟨0, 0⟩, ⟨0, 0⟩, ⟨0, 0⟩, 0, ⟨0, 0⟩⟩
def wCamel : Camel := ⟨⟨600, 700⟩, ⟨5, 5⟩, ⟨0, 0⟩, false⟩
def wDay : March := ⟨0, 0, ⟨0, 0⟩, ⟨0, 0⟩, ⟨400, 400⟩⟩
def wNext : Camel := ⟨⟨1000, 1000⟩, ⟨5, 5⟩, ⟨0, 0⟩, false⟩
theorem exW_thirst : thirstVal wBreed [wCamel] = (⟨300, 400⟩, 0) := by decide +kernel
theorem exW_after : breedOk wBreed = true ∧ camelOk wBreed wCamel = true ∧ dayOk wDay = true ∧ diesB wBreed wCamel wDay = false ∧ nextOf wBreed wCamel wDay = wNext ∧ safeB wBreed wCamel wDay = true := by decide +kernel
theorem exW_water : waterAt springL 0 [⟨0, 0, 400⟩] 1 = (⟨110, 520⟩, 0, 0) := by decide +kernel
theorem camels_one {W : World} {b : Nat} (h : W.heap[b]? = some (.cells #[.int .i64 600, .int .i64 700, .int .i64 5, .int .i64 5, .int .i64 0, .int .i64 0, .bool false] 27 (0, 0))) : CamelsAt W (some ⟨b, 0, none⟩) 1 [wCamel] := by
  refine ⟨rfl, fun _ => ⟨b, 0, rfl, fun k hk j v hv => ?_⟩⟩
  obtain rfl : k = 0 := by omega
  rw [cell_of_row _ _ _ _ _ _ h, ← hv]
  simp [wCamel, Camel.cells]
theorem draws_one {W : World} {b : Nat} {x : Draw} (h : W.heap[b]? = some (.cells #[.int .i64 x.well, .int .i64 x.day, .int .i64 x.water] 102 (0, 0))) : DrawsAt W (some ⟨b, 0, none⟩) 1 [x] := by
  refine ⟨rfl, fun _ => ⟨b, 0, rfl, fun k hk j v hv => ?_⟩⟩
  obtain rfl : k = 0 := by omega
  rw [cell_of_row _ _ _ _ _ _ h, ← hv]
  simp [Draw.cells]
theorem exThirst_any (b : Nat) (W : World) (h : W.heap[b]? = some (.cells #[.int .i64 600, .int .i64 700, .int .i64 5, .int .i64 5, .int .i64 0, .int .i64 0, .bool false] 27 (0, 0))) : Calls Tryz.prog 44 #[.agg #[.int .i64 1000, .int .i64 1000, .int .i64 0, .int .i64 0, .int .i64 0, .int .i64 0, .int .i64 0, .int .i64 0, .int .i64 0, .int .i64 0, .int .i64 0, .int .i64 0, .int .i64 0, .int .i64 0, .int .i64 0, .int .i64 0, .int .i64 0], .slice (some ⟨b, 0, none⟩) 1 1] W fun e w' => e = .returned (.tuple #[.agg #[.int .i64 300, .int .i64 400], .int .i64 0]) ∧ Ext W w' := by
  have := thirst_any wBreed (some ⟨b, 0, none⟩) 1 1 [wCamel] W (camels_one h) (by omega) (by decide)
  rw [exW_thirst] at this
  exact this
theorem exDrinks_any (W : World) : Calls Tryz.prog 45 #[.agg #[.int .i64 1000, .int .i64 1000, .int .i64 0, .int .i64 0, .int .i64 0, .int .i64 0, .int .i64 0, .int .i64 0, .int .i64 0, .int .i64 0, .int .i64 0, .int .i64 0, .int .i64 0, .int .i64 0, .int .i64 0, .int .i64 0, .int .i64 0], .agg #[.int .i64 600, .int .i64 700, .int .i64 5, .int .i64 5, .int .i64 0, .int .i64 0, .bool false], .agg #[.int .i64 0, .int .i64 0, .int .i64 0, .int .i64 0, .int .i64 0, .int .i64 0, .int .i64 400, .int .i64 400]] W fun e w' => e = .returned (.tuple #[.agg #[.int .i64 1000, .int .i64 1000, .int .i64 5, .int .i64 5, .int .i64 0, .int .i64 0, .bool false], .int .u8 0, .int .i64 0]) ∧ Ext W w' := by
  have := after_any wBreed wCamel wDay W exW_after.1 exW_after.2.1 exW_after.2.2.1 exW_after.2.2.2.1
  rw [exW_after.2.2.2.2.1, exW_after.2.2.2.2.2] at this
  exact this
theorem exWell_any (b d : Nat) (W : World) (h : LandAt W (some ⟨b, 0, none⟩) 1 1 none 0 0 springL) (hd : W.heap[d]? = some (.cells #[.int .i64 0, .int .i64 0, .int .i64 400] 102 (0, 0))) : Calls Tryz.prog 46 #[.agg #[.slice (some ⟨b, 0, none⟩) 1 1, .slice none 0 0], .int .i64 0, .slice (some ⟨d, 0, none⟩) 1 1, .int .i64 1] W fun e w' => e = .returned (.tuple #[.agg #[.int .i64 110, .int .i64 520], .int .i64 0, .int .i64 0]) ∧ Ext W w' := by
  have := water_any (some ⟨b, 0, none⟩) 1 1 none 0 0 springL 0 1 (some ⟨d, 0, none⟩) 1 1 [⟨0, 0, 400⟩] W h (draws_one (x := ⟨0, 0, 400⟩) hd) (by omega) (by decide)
  rw [exW_water] at this
  exact this
theorem join_box {F M : Nat → World → Prop} {X Y : Prop} (h1 : (∀ q W, F q W → M q W) → X) (h2 : (∀ q W, F q W → M q W) → Y) (h : ∀ q W, F q W → M q W) : X ∧ Y := ⟨h1 h, h2 h⟩
set_option maxRecDepth 100000 in
set_option maxHeartbeats 8000000 in
theorem alive03d_any (w : World) : Calls Tryz.prog 14 #[] w fun e w' => e = .returned (.bool true) ∧ Ext w w' := by
  have hsp := rangd_any
  have hth := exThirst_any
  have hdr := exDrinks_any
  have hsg := spring_any
  have hwe := exWell_any
  have hal := alive02_any
  have Hsp := Lib.hid hsp
  have Hth := Lib.hid hth
  have Hdr := Lib.hid hdr
  have Hsg := Lib.hid hsg
  have Hwe := Lib.hid hwe
  have Hal := Lib.hid hal
  clear hsp hth hdr hsg hwe hal
  have gg1 := trivial
  go_enter Tryz.func14, Tryz.ntmps14
  go_upto_region 3 with (first
    | (go_at_call 12; (have q := gg1; clear q gg1); refine (Hsp.out _ _ _).mono ?_; rintro e w1 ⟨rfl, hx1⟩)
    | (go_at_call 12; refine (Hsp.out _ _ _).mono ?_; rintro e w2 ⟨rfl, hx2⟩))
  have hb3 := ((hx1.trans hx2).heap (heap_alloc_new w (.cells #[.int .i64 1000, .int .i64 1000, .int .i64 0, .int .i64 0, .int .i64 0, .int .i64 0, .int .i64 0, .int .i64 0, .int .i64 0, .int .i64 0, .int .i64 0, .int .i64 0, .int .i64 0, .int .i64 0, .int .i64 0, .int .i64 0, .int .i64 0] 25)))
  have hy3 := ((Ext.refl w).alloc (.cells #[.int .i64 1000, .int .i64 1000, .int .i64 0, .int .i64 0, .int .i64 0, .int .i64 0, .int .i64 0, .int .i64 0, .int .i64 0, .int .i64 0, .int .i64 0, .int .i64 0, .int .i64 0, .int .i64 0, .int .i64 0, .int .i64 0, .int .i64 0] 25)).trans (hx1.trans hx2)
  have hb4 := alloc_heap hb3 (.cells #[.int .i64 600, .int .i64 700, .int .i64 5, .int .i64 5, .int .i64 0, .int .i64 0, .bool false] 27)
  have hc4 := heap_alloc_new w2 (.cells #[.int .i64 600, .int .i64 700, .int .i64 5, .int .i64 5, .int .i64 0, .int .i64 0, .bool false] 27)
  have hx4 := hy3.alloc (.cells #[.int .i64 600, .int .i64 700, .int .i64 5, .int .i64 5, .int .i64 0, .int .i64 0, .bool false] 27)
  generalize w2.alloc (.cells #[.int .i64 600, .int .i64 700, .int .i64 5, .int .i64 5, .int .i64 0, .int .i64 0, .bool false] 27) = W4 at *
  generalize w2.heap.size = p2 at *
  generalize w.heap.size = p1 at *
  clear hx1 hx2 hb3 hy3
  have Hb4 := Lib.hid hb4
  have Hc4 := Lib.hid hc4
  have Hx4 := Lib.hid hx4
  clear hb4 hc4 hx4
  go_upto_region 4 with (first
    | (refine wpList_load_row rfl 25 (.tmp 1) rfl p1 rfl 25 _ (0, 0) _ Hb4.out Tryz.underlying25 rfl (by kernel_rfl) ?_)
    | (refine wpList_load_row rfl 27 (.tmp 2) rfl p2 rfl 27 _ (0, 0) _ Hc4.out Tryz.underlying27 rfl (by kernel_rfl) ?_)
    | (go_at_call 44; refine (Hth.out _ _ (heap_alloc_new W4 _)).mono ?_; rintro e w5 ⟨rfl, hx5⟩))
  have hx45 := ((Ext.refl W4).alloc (.cells #[.int .i64 600, .int .i64 700, .int .i64 5, .int .i64 5, .int .i64 0, .int .i64 0, .bool false] 27)).trans hx5
  have hx46 := hx45.alloc (.cells #[.int .i64 300, .int .i64 400] 23)
  have hd6 := heap_alloc_new w5 (.cells #[.int .i64 300, .int .i64 400] 23)
  have hb6 := hx46.heap Hb4.out
  have hc6 := hx46.heap Hc4.out
  have hx6 := Hx4.out.trans hx46
  generalize w5.alloc (.cells #[.int .i64 300, .int .i64 400] 23) = W6 at *
  generalize w5.heap.size = p3 at *
  have Hb6 := Lib.hid hb6
  have Hc6 := Lib.hid hc6
  have Hd6 := Lib.hid hd6
  have Hx6 := Lib.hid hx6
  clear hb6 hc6 hd6 hx6
  clear hx5 hx45 hx46 Hb4 Hc4 Hx4 Hth
  refine wp_region_tree (.take [0, 1] (.two 2 (.take [3] (.two 4 (.take [5, 6, 7, 8] (.one 9 (.one 10 (.take [11, 12] .done)))) 9 (.one 4 (.take [5, 6, 7, 8] (.one 10 (.take [11, 12] .done)))))) 9 (.one 2 (.take [3] (.one 4 (.take [5, 6, 7, 8] (.one 10 (.take [11, 12] .done)))))))) (Ext W6) _ (by kernel_rfl) (by kernel_rfl) rfl ((Ext.refl _).drew) ?_
  intro ι _ f hf hs
  have f0 := fun q => ((hf q).box Hb6.out).1
  have f1 := fun q => ((hf q).box Hc6.out).1
  have HS := Lib.hid hs
  clear hf hs
  simp only [treeOf, oneOp, twoOp, opsOf, consOp, List.getElem?_toArray, List.getElem?_cons_succ, List.getElem?_cons_zero]
  refine wpOT_take ?_
  repeat (go_big_quiet_step (fail))
  refine wpQuiet_nil ?_
  clear f0 f1
  have hd0 := (Ext.refl W6).drew
  generalize W6.drew = V6 at *
  refine wpOT_both ?_
  apply join_box (F := fun q V => Ext W6 V ∧ V.heap[q]? = some (.cells #[.int .i64 1000, .int .i64 1000, .int .i64 5, .int .i64 5, .int .i64 0, .int .i64 0, .bool false] 27 (0, 0)))
  · intro g
    have G := Lib.hid g
    clear g
    go_wp2_with (go_at_call 12; refine (Hsp.out _ _ _).mono ?_; rintro e W7 ⟨rfl, hx7⟩)
    have hy5 := hd0.trans hx7
    refine ⟨HS.out _ hy5, ?_⟩
    refine wpOT_take ?_
    repeat (go_big_quiet_step (fail))
    refine wpQuiet_nil ?_
    refine wpOT_two ?_ ?_
    · go_wp2_with (go_at_call 45; refine (Hdr.out _).mono ?_; rintro e W8 ⟨rfl, hx8⟩)
      have hy6 := hy5.trans hx8
      refine ⟨HS.out _ hy6, ?_⟩
      refine wpOT_take ?_
      repeat (go_big_quiet_step (fail))
      refine wpQuiet_nil ?_
      refine wpOT_one ?_
      go_wp2_with fail
      have hy7 := hy6.alloc (.cells #[.int .i64 0, .int .i64 0, .int .i64 0, .int .i64 0, .int .i64 0, .int .i64 0, .bool false] 27)
      refine ⟨HS.out _ hy7, ?_⟩
      have hq0 := hy6.size
      have hq := heap_alloc_new W8 (.cells #[.int .i64 0, .int .i64 0, .int .i64 0, .int .i64 0, .int .i64 0, .int .i64 0, .bool false] 27)
      generalize W8.alloc (.cells #[.int .i64 0, .int .i64 0, .int .i64 0, .int .i64 0, .int .i64 0, .int .i64 0, .bool false] 27) = W9 at *
      generalize W8.heap.size = q5 at *
      clear hx8 hy6
      refine wpOT_one ?_
      go_wp2_with (refine wpList_store_row rfl 27 (.tmp 5) (.tmp 28) rfl q5 #[.int .i64 1000, .int .i64 1000, .int .i64 5, .int .i64 5, .int .i64 0, .int .i64 0, .bool false] rfl rfl 27 _ hq (by kernel_rfl) (by kernel_rfl) (by kernel_rfl) ?_)
      refine ⟨HS.out _ (below_setRow hy7 hq0 _), ?_⟩
      refine wpOT_take ?_
      repeat (go_big_quiet_step (fail))
      refine wpQuiet_nil ?_
      refine wpOT_done ?_
      exact G.out q5 _ ⟨below_setRow hy7 hq0 _, setRow_heap _ _ _ _ _ _ hq⟩
    · go_wp2_with fail
      have hy6 := hy5.alloc (.cells #[.int .i64 0, .int .i64 0, .int .i64 0, .int .i64 0, .int .i64 0, .int .i64 0, .bool false] 27)
      refine ⟨HS.out _ hy6, ?_⟩
      have hq0 := hy5.size
      have hq6 := heap_alloc_new W7 (.cells #[.int .i64 0, .int .i64 0, .int .i64 0, .int .i64 0, .int .i64 0, .int .i64 0, .bool false] 27)
      generalize W7.alloc (.cells #[.int .i64 0, .int .i64 0, .int .i64 0, .int .i64 0, .int .i64 0, .int .i64 0, .bool false] 27) = W8 at *
      generalize W7.heap.size = q5 at *
      refine wpOT_one ?_
      go_wp2_with (go_at_call 45; refine (Hdr.out _).mono ?_; rintro e W9 ⟨rfl, hx8⟩)
      have hy7 := hy6.trans hx8
      have hq := hx8.heap hq6
      refine ⟨HS.out _ hy7, ?_⟩
      refine wpOT_take ?_
      repeat (go_big_quiet_step (fail))
      refine wpQuiet_nil ?_
      clear hx8 hy6 hq6
      refine wpOT_one ?_
      go_wp2_with (refine wpList_store_row rfl 27 (.tmp 5) (.tmp 28) rfl q5 #[.int .i64 1000, .int .i64 1000, .int .i64 5, .int .i64 5, .int .i64 0, .int .i64 0, .bool false] rfl rfl 27 _ hq (by kernel_rfl) (by kernel_rfl) (by kernel_rfl) ?_)
      refine ⟨HS.out _ (below_setRow hy7 hq0 _), ?_⟩
      refine wpOT_take ?_
      repeat (go_big_quiet_step (fail))
      refine wpQuiet_nil ?_
      refine wpOT_done ?_
      exact G.out q5 _ ⟨below_setRow hy7 hq0 _, setRow_heap _ _ _ _ _ _ hq⟩
  · intro g
    have G := Lib.hid g
    clear g
    go_wp2_with fail
    have hy5 := hd0.alloc (.cells #[.int .i64 0, .int .i64 0, .int .i64 0, .int .i64 0, .int .i64 0, .int .i64 0, .bool false] 27)
    refine ⟨HS.out _ hy5, ?_⟩
    have hq0 := hd0.size
    have hq5 := heap_alloc_new V6 (.cells #[.int .i64 0, .int .i64 0, .int .i64 0, .int .i64 0, .int .i64 0, .int .i64 0, .bool false] 27)
    generalize V6.alloc (.cells #[.int .i64 0, .int .i64 0, .int .i64 0, .int .i64 0, .int .i64 0, .int .i64 0, .bool false] 27) = W7 at *
    generalize V6.heap.size = q5 at *
    refine wpOT_one ?_
    go_wp2_with (go_at_call 12; refine (Hsp.out _ _ _).mono ?_; rintro e W8 ⟨rfl, hx7⟩)
    have hy6 := hy5.trans hx7
    refine ⟨HS.out _ hy6, ?_⟩
    refine wpOT_take ?_
    repeat (go_big_quiet_step (fail))
    refine wpQuiet_nil ?_
    refine wpOT_one ?_
    go_wp2_with (go_at_call 45; refine (Hdr.out _).mono ?_; rintro e W9 ⟨rfl, hx8⟩)
    have hy7 := hy6.trans hx8
    have hq := hx8.heap (hx7.heap hq5)
    refine ⟨HS.out _ hy7, ?_⟩
    refine wpOT_take ?_
    repeat (go_big_quiet_step (fail))
    refine wpQuiet_nil ?_
    clear hx7 hx8 hy6 hq5
    refine wpOT_one ?_
    go_wp2_with (refine wpList_store_row rfl 27 (.tmp 5) (.tmp 28) rfl q5 #[.int .i64 1000, .int .i64 1000, .int .i64 5, .int .i64 5, .int .i64 0, .int .i64 0, .bool false] rfl rfl 27 _ hq (by kernel_rfl) (by kernel_rfl) (by kernel_rfl) ?_)
    refine ⟨HS.out _ (below_setRow hy7 hq0 _), ?_⟩
    refine wpOT_take ?_
    repeat (go_big_quiet_step (fail))
    refine wpQuiet_nil ?_
    refine wpOT_done ?_
    exact G.out q5 _ ⟨below_setRow hy7 hq0 _, setRow_heap _ _ _ _ _ _ hq⟩
  rintro q5 W9 ⟨hx69, hq⟩
  clear HS hd0
  have hx9 := Hx6.out.trans hx69
  have hd9 := hx69.heap Hd6.out
  have Hx9 := Lib.hid hx9
  have Hq := Lib.hid hq
  have Hd9 := Lib.hid hd9
  clear hx9 hq hd9
  clear hx69 Hx6 Hb6 Hc6 Hd6
  go_upto_region 6 with (first
    | (go_at_call 47; refine (Hsg.out _).mono ?_; rintro e v1 ⟨sb, rfl, hla, hy1⟩)
    | (go_at_call 46; refine (Hwe.out _ _ _ (hla.ext ((Ext.refl _).alloc _)) (heap_alloc_new v1 _)).mono ?_; rintro e v2 ⟨rfl, hy2⟩))
  have hy3 := (((hy1.alloc (.cells #[.int .i64 0, .int .i64 0, .int .i64 400] 102)).trans hy2).alloc (.cells #[.int .i64 110, .int .i64 520] 23))
  have he9 := heap_alloc_new v2 (.cells #[.int .i64 110, .int .i64 520] 23)
  generalize v2.alloc (.cells #[.int .i64 110, .int .i64 520] 23) = W10 at *
  generalize v2.heap.size = p8 at *
  have hq9 := hy3.heap Hq.out
  have hd9 := hy3.heap Hd9.out
  have hx10 := Hx9.out.trans hy3
  have He9 := Lib.hid he9
  have Hq9 := Lib.hid hq9
  have Hd9 := Lib.hid hd9
  have Hx10 := Lib.hid hx10
  clear he9 hq9 hd9 hx10
  clear hy1 hy2 hy3 hla Hsg Hwe Hdr
  refine wp_region_ext (by kernel_rfl) (by kernel_rfl) (fun f hf hs => ?_)
  have f0 := fun q => ((hf q).box Hd9.out).1
  have f1 := fun q => ((hf q).box Hq9.out).1
  have f2 := fun q => ((hf q).box He9.out).1
  have Hf := Lib.hid hf
  have HS := Lib.hid hs
  clear hf hs
  repeat (go_big_quiet_step ((first | (go_at_call 48; exact Calls.ext_of (Hf.out _) HS.out (Hal.out _)) | (go_at_call 12; exact Calls.ext_of (Hf.out _) HS.out (Hsp.out _ _ _)))))
  refine wpQuiet_nil ?_
  intro W11 hW11
  clear f0 f1 f2
  have hx11 := Hx10.out.trans hW11
  have Hx11 := Lib.hid hx11
  clear hx11
  clear hW11
  go_wp2_with fail
  go_ret
  exact ⟨rfl, Hx11.out⟩
end Go.Proofs.YtcoelhpmkhimpaaGreatDoor

namespace Go.Proofs.YtcoelhpmkhimpaaGreatDoor
open Go.RowKit
set_option linter.unusedVariables false
set_option linter.unusedSimpArgs false
/-- what the map of sorts says of a kind -/
theorem lookup_sort {w : World} {b : Nat} (h : UMapIs w b sortsF) (k : Int) :
    (Instr.lookup 114 (.map (some b)) (.int .u8 k) true).run Tryz.prog w = .ok (.tuple #[(sortsF k).getD (.agg #[.nilFunc, .nilFunc]), .bool (sortsF k).isSome]) w ∧ (Instr.lookup 114 (.map (some b)) (.int .u8 k) false).run Tryz.prog w = .ok ((sortsF k).getD (.agg #[.nilFunc, .nilFunc])) w :=
  run_lookup_u8 h Tryz.underlying114 Tryz.underlying5 (by kernel_rfl) k
def sortV (k : Int) : Value := (sortsF k).getD (.agg #[.nilFunc, .nilFunc])
theorem lookup_sort2 (b : Nat) (k : Int) (f g : Value) (t : Bool) (hf : sortV k = .agg #[f, g]) (ht : (sortsF k).isSome = t) {w : World} (h : UMapIs w b sortsF) :
    (Instr.lookup 114 (.map (some b)) (.int .u8 k) true).run Tryz.prog w = .ok (.tuple #[.agg #[f, g], .bool t]) w := by
  rw [← hf, ← ht]
  exact (lookup_sort h k).1
theorem join_box2 {F M : Nat → Nat → World → Prop} {X Y : Prop} (h1 : (∀ b q W, F b q W → M b q W) → X) (h2 : (∀ b q W, F b q W → M b q W) → Y) (h : ∀ b q W, F b q W → M b q W) : X ∧ Y := ⟨h1 h, h2 h⟩
set_option maxRecDepth 100000 in
set_option maxHeartbeats 8000000 in
theorem valid1 (p : Pack) (hk : p.kind = 1) (T : Bool) (hT : ∀ W, NoneAt W → Calls Tryz.prog 89 #[p.val] W fun e w' => e = .returned (.bool T) ∧ Ext W w') (w : World) (hn : NoneAt w) :
    Calls Tryz.prog 27 #[p.val] w fun e w' => e = .returned (.bool (T && spanOk p.mass 0 1000000 && inB p.hurt 0 6000000 && inB p.days 0 100000)) ∧ Ext w w' := by
  have hf : sortV p.kind = .agg #[.func (.func 89) #[] #[], .func (.func 90) #[] #[]] := by rw [hk]; rfl
  have ht : (sortsF p.kind).isSome = true := by rw [hk]; rfl
  have hP := fun W => proper_any p.mass 0 1000000 W
  obtain ⟨P2, hP2⟩ : ∃ P, spanOk p.mass 0 1000000 = P := ⟨_, rfl⟩
  obtain ⟨P3, hU⟩ : ∃ P, inB p.hurt 0 6000000 = P := ⟨_, rfl⟩
  obtain ⟨P4, hD⟩ : ∃ P, inB p.days 0 100000 = P := ⟨_, rfl⟩
  rw [hP2] at hP ⊢
  rw [hU, hD]
  have hN := hn
  clear hk hP2 hn
  obtain ⟨k, ⟨m0, m1⟩, ⟨a0, a1⟩, ⟨b0, b1⟩, ⟨l0, l1⟩, u, d⟩ := p
  unfold Pack.val
  try simp only at hf ht hT hP hU hD ⊢
  have hlk := fun b => @lookup_sort2 b k (.func (.func 89) #[] #[]) (.func (.func 90) #[] #[]) true hf ht
  have hb0 := heap_alloc_new w (.cells #[.int .u8 k, .int .i64 m0, .int .i64 m1, .int .i64 a0, .int .i64 a1, .int .i64 b0, .int .i64 b1, .int .i64 l0, .int .i64 l1, .int .i64 u, .int .i64 d] 50)
  have hx0 := (Ext.refl w).alloc (.cells #[.int .u8 k, .int .i64 m0, .int .i64 m1, .int .i64 a0, .int .i64 a1, .int .i64 b0, .int .i64 b1, .int .i64 l0, .int .i64 l1, .int .i64 u, .int .i64 d] 50)
  have Hf := Lib.hid hf
  have Ht := Lib.hid ht
  have Hlk := Lib.hid hlk
  have Hb0 := Lib.hid hb0
  have Hx0 := Lib.hid hx0
  have HT := Lib.hid hT
  have HP := Lib.hid hP
  have HU := Lib.hid hU
  have HD := Lib.hid hD
  have HN := Lib.hid hN
  clear hf ht hlk hb0 hx0 hT hP hU hD hN
  go_enter Tryz.func27, Tryz.ntmps27
  go_wp2_with fail
  generalize w.alloc (.cells #[.int .u8 k, .int .i64 m0, .int .i64 m1, .int .i64 a0, .int .i64 a1, .int .i64 b0, .int .i64 b1, .int .i64 l0, .int .i64 l1, .int .i64 u, .int .i64 d] 50) = W0 at *
  generalize w.heap.size = p0 at *
  refine wp_region_tree (.take [1, 2] (.two 0 (.two 3 (.take [4, 5, 6] (.one 7 (.one 8 (.take [9] .done)))) 7 (.one 3 (.take [4, 5, 6] (.one 8 (.take [9] .done))))) 7 (.one 0 (.one 3 (.take [4, 5, 6] (.one 8 (.take [9] .done))))))) (Ext W0) _ (by kernel_rfl) (by kernel_rfl) rfl ((Ext.refl _).drew) ?_
  intro ι _ f hf hs
  have f0 := fun q => ((hf q).box Hb0.out).1
  have HS := Lib.hid hs
  clear hf hs
  simp only [treeOf, oneOp, twoOp, opsOf, consOp, List.getElem?_toArray, List.getElem?_cons_succ, List.getElem?_cons_zero]
  refine wpOT_take ?_
  repeat (go_big_quiet_step (fail))
  refine wpQuiet_nil ?_
  clear f0
  have hd0 := (Ext.refl W0).drew
  generalize W0.drew = V0 at *
  refine wpOT_both ?_
  apply join_box2 (F := fun b q V => Ext W0 V ∧ V.heap[q]? = some (.cells #[.func (.func 89) #[] #[], .func (.func 90) #[] #[]] 112 (0, 0)))
  · intro G0
    have G := Lib.hid G0
    clear G0
    go_wp2_with (go_at_call 59; refine (sorts_any _).mono ?_; rintro e W1 ⟨b, rfl, hx1, hm1⟩)
    have hy1 := hd0.trans hx1
    refine ⟨HS.out _ hy1, ?_⟩
    refine wpOT_two ?_ ?_
    · have hl1 := Hlk.out b hm1
      go_wp2_with fail
      refine ⟨HS.out _ hy1, ?_⟩
      clear hl1
      refine wpOT_take ?_
      repeat (go_big_quiet_step (fail))
      refine wpQuiet_nil ?_
      refine wpOT_one ?_
      go_wp2_with fail
      have hy7 := hy1.alloc (.cells #[.nilFunc, .nilFunc] 112)
      refine ⟨HS.out _ hy7, ?_⟩
      have hq0 := hy1.size
      have hq := heap_alloc_new W1 (.cells #[.nilFunc, .nilFunc] 112)
      generalize W1.alloc (.cells #[.nilFunc, .nilFunc] 112) = W2 at *
      generalize W1.heap.size = q5 at *
      refine wpOT_one ?_
      go_wp2_with (refine wpList_store_row rfl 112 (.tmp 3) (.tmp 10) rfl q5 #[.func (.func 89) #[] #[], .func (.func 90) #[] #[]] rfl rfl 112 _ hq (by kernel_rfl) (by kernel_rfl) (by kernel_rfl) ?_)
      refine ⟨HS.out _ (below_setRow hy7 hq0 _), ?_⟩
      refine wpOT_take ?_
      repeat (go_big_quiet_step (fail))
      refine wpQuiet_nil ?_
      refine wpOT_done ?_
      exact G.out b q5 _ ⟨below_setRow hy7 hq0 _, setRow_heap _ _ _ _ _ _ hq⟩
    · go_wp2_with fail
      have hy7 := hy1.alloc (.cells #[.nilFunc, .nilFunc] 112)
      refine ⟨HS.out _ hy7, ?_⟩
      have hq0 := hy1.size
      have hq := heap_alloc_new W1 (.cells #[.nilFunc, .nilFunc] 112)
      have hl1 := Hlk.out b (hm1.ext ((Ext.refl W1).alloc (.cells #[.nilFunc, .nilFunc] 112)))
      generalize W1.alloc (.cells #[.nilFunc, .nilFunc] 112) = W2 at *
      generalize W1.heap.size = q5 at *
      refine wpOT_one ?_
      go_wp2_with fail
      refine ⟨HS.out _ hy7, ?_⟩
      clear hl1
      refine wpOT_take ?_
      repeat (go_big_quiet_step (fail))
      refine wpQuiet_nil ?_
      refine wpOT_one ?_
      go_wp2_with (refine wpList_store_row rfl 112 (.tmp 3) (.tmp 10) rfl q5 #[.func (.func 89) #[] #[], .func (.func 90) #[] #[]] rfl rfl 112 _ hq (by kernel_rfl) (by kernel_rfl) (by kernel_rfl) ?_)
      refine ⟨HS.out _ (below_setRow hy7 hq0 _), ?_⟩
      refine wpOT_take ?_
      repeat (go_big_quiet_step (fail))
      refine wpQuiet_nil ?_
      refine wpOT_done ?_
      exact G.out b q5 _ ⟨below_setRow hy7 hq0 _, setRow_heap _ _ _ _ _ _ hq⟩
  · intro G0
    have G := Lib.hid G0
    clear G0
    go_wp2_with fail
    have hy1 := hd0.alloc (.cells #[.nilFunc, .nilFunc] 112)
    refine ⟨HS.out _ hy1, ?_⟩
    have hq0 := hd0.size
    have hq1 := heap_alloc_new V0 (.cells #[.nilFunc, .nilFunc] 112)
    generalize V0.alloc (.cells #[.nilFunc, .nilFunc] 112) = W1 at *
    generalize V0.heap.size = q5 at *
    refine wpOT_one ?_
    go_wp2_with (go_at_call 59; refine (sorts_any _).mono ?_; rintro e W2 ⟨b, rfl, hx2, hm2⟩)
    have hy7 := hy1.trans hx2
    refine ⟨HS.out _ hy7, ?_⟩
    have hl2 := Hlk.out b hm2
    have hq := hx2.heap hq1
    refine wpOT_one ?_
    go_wp2_with fail
    refine ⟨HS.out _ hy7, ?_⟩
    clear hl2
    refine wpOT_take ?_
    repeat (go_big_quiet_step (fail))
    refine wpQuiet_nil ?_
    refine wpOT_one ?_
    go_wp2_with (refine wpList_store_row rfl 112 (.tmp 3) (.tmp 10) rfl q5 #[.func (.func 89) #[] #[], .func (.func 90) #[] #[]] rfl rfl 112 _ hq (by kernel_rfl) (by kernel_rfl) (by kernel_rfl) ?_)
    refine ⟨HS.out _ (below_setRow hy7 hq0 _), ?_⟩
    refine wpOT_take ?_
    repeat (go_big_quiet_step (fail))
    refine wpQuiet_nil ?_
    refine wpOT_done ?_
    exact G.out b q5 _ ⟨below_setRow hy7 hq0 _, setRow_heap _ _ _ _ _ _ hq⟩
  rintro b q5 W9 ⟨hx9, hq⟩
  have hb9 := hx9.heap Hb0.out
  obtain ⟨y9, _⟩ := (Ext.refl W9).box hb9
  obtain ⟨z9, _⟩ := (Ext.refl W9).box hq
  have hp9 := heap_lt hb9
  have hn9 := HN.out.ext (Hx0.out.trans hx9)
  have Hb9 := Lib.hid hb9
  have Hn9 := Lib.hid hn9
  have Hx9 := Lib.hid hx9
  clear hb9 hn9 hx9
  clear Hf Ht Hlk HS hd0 hq
  go_wp2_with (first
    | (go_at_call 89; refine (HT.out _ Hn9.out).mono ?_; rintro e V1 ⟨rfl, hz1⟩; clear y9; obtain ⟨y9, _⟩ := (Ext.refl V1).box (hz1.heap Hb9.out); have hs1 := heap_lt (hz1.heap Hb9.out))
    | (go_at_call 60; refine (HP.out _).mono ?_; rintro e V2 ⟨rfl, hz2⟩; clear y9; have hz02 := hz1.trans hz2; obtain ⟨y9, _⟩ := (Ext.refl V2).box (hz02.heap Hb9.out); have hs2 := heap_lt (hz02.heap Hb9.out))
    | (have qq := hz3; clear qq; go_at_call 21; refine (inL1 (alloc_at _ _ _ (by simp)) HD.out).mono ?_; rintro e V4 ⟨rfl, hz4⟩; have hz04 := (hz03.alloc _).trans hz4)
    | (go_at_call 21; refine (inL1 (alloc_at _ _ _ (by simp)) HU.out).mono ?_; rintro e V3 ⟨rfl, hz3⟩; clear y9; have hz03 := (hz02.alloc _).trans hz3; obtain ⟨y9, _⟩ := (Ext.refl V3).box (hz03.heap Hb9.out); have hs3 := heap_lt (hz03.heap Hb9.out)))
  all_goals go_ret
  all_goals refine ⟨ret_bool (by clear HT HP HU HD Hb0 Hb9 Hx0 Hx9 Hn9 HN y9 z9; simp [*]), ?_⟩
  all_goals first | exact Hx0.out.trans (Hx9.out.trans hz04) | exact Hx0.out.trans (Hx9.out.trans hz03) | exact Hx0.out.trans (Hx9.out.trans hz02) | exact Hx0.out.trans (Hx9.out.trans hz1)
set_option maxRecDepth 100000 in
set_option maxHeartbeats 8000000 in
theorem valid2 (p : Pack) (hk : p.kind = 2) (T : Bool) (hT : ∀ W, NoneAt W → Calls Tryz.prog 91 #[p.val] W fun e w' => e = .returned (.bool T) ∧ Ext W w') (w : World) (hn : NoneAt w) :
    Calls Tryz.prog 27 #[p.val] w fun e w' => e = .returned (.bool (T && spanOk p.mass 0 1000000 && inB p.hurt 0 6000000 && inB p.days 0 100000)) ∧ Ext w w' := by
  have hf : sortV p.kind = .agg #[.func (.func 91) #[] #[], .func (.func 92) #[] #[]] := by rw [hk]; rfl
  have ht : (sortsF p.kind).isSome = true := by rw [hk]; rfl
  have hP := fun W => proper_any p.mass 0 1000000 W
  obtain ⟨P2, hP2⟩ : ∃ P, spanOk p.mass 0 1000000 = P := ⟨_, rfl⟩
  obtain ⟨P3, hU⟩ : ∃ P, inB p.hurt 0 6000000 = P := ⟨_, rfl⟩
  obtain ⟨P4, hD⟩ : ∃ P, inB p.days 0 100000 = P := ⟨_, rfl⟩
  rw [hP2] at hP ⊢
  rw [hU, hD]
  have hN := hn
  clear hk hP2 hn
  obtain ⟨k, ⟨m0, m1⟩, ⟨a0, a1⟩, ⟨b0, b1⟩, ⟨l0, l1⟩, u, d⟩ := p
  unfold Pack.val
  try simp only at hf ht hT hP hU hD ⊢
  have hlk := fun b => @lookup_sort2 b k (.func (.func 91) #[] #[]) (.func (.func 92) #[] #[]) true hf ht
  have hb0 := heap_alloc_new w (.cells #[.int .u8 k, .int .i64 m0, .int .i64 m1, .int .i64 a0, .int .i64 a1, .int .i64 b0, .int .i64 b1, .int .i64 l0, .int .i64 l1, .int .i64 u, .int .i64 d] 50)
  have hx0 := (Ext.refl w).alloc (.cells #[.int .u8 k, .int .i64 m0, .int .i64 m1, .int .i64 a0, .int .i64 a1, .int .i64 b0, .int .i64 b1, .int .i64 l0, .int .i64 l1, .int .i64 u, .int .i64 d] 50)
  have Hf := Lib.hid hf
  have Ht := Lib.hid ht
  have Hlk := Lib.hid hlk
  have Hb0 := Lib.hid hb0
  have Hx0 := Lib.hid hx0
  have HT := Lib.hid hT
  have HP := Lib.hid hP
  have HU := Lib.hid hU
  have HD := Lib.hid hD
  have HN := Lib.hid hN
  clear hf ht hlk hb0 hx0 hT hP hU hD hN
  go_enter Tryz.func27, Tryz.ntmps27
  go_wp2_with fail
  generalize w.alloc (.cells #[.int .u8 k, .int .i64 m0, .int .i64 m1, .int .i64 a0, .int .i64 a1, .int .i64 b0, .int .i64 b1, .int .i64 l0, .int .i64 l1, .int .i64 u, .int .i64 d] 50) = W0 at *
  generalize w.heap.size = p0 at *
  refine wp_region_tree (.take [1, 2] (.two 0 (.two 3 (.take [4, 5, 6] (.one 7 (.one 8 (.take [9] .done)))) 7 (.one 3 (.take [4, 5, 6] (.one 8 (.take [9] .done))))) 7 (.one 0 (.one 3 (.take [4, 5, 6] (.one 8 (.take [9] .done))))))) (Ext W0) _ (by kernel_rfl) (by kernel_rfl) rfl ((Ext.refl _).drew) ?_
  intro ι _ f hf hs
  have f0 := fun q => ((hf q).box Hb0.out).1
  have HS := Lib.hid hs
  clear hf hs
  simp only [treeOf, oneOp, twoOp, opsOf, consOp, List.getElem?_toArray, List.getElem?_cons_succ, List.getElem?_cons_zero]
  refine wpOT_take ?_
  repeat (go_big_quiet_step (fail))
  refine wpQuiet_nil ?_
  clear f0
  have hd0 := (Ext.refl W0).drew
  generalize W0.drew = V0 at *
  refine wpOT_both ?_
  apply join_box2 (F := fun b q V => Ext W0 V ∧ V.heap[q]? = some (.cells #[.func (.func 91) #[] #[], .func (.func 92) #[] #[]] 112 (0, 0)))
  · intro G0
    have G := Lib.hid G0
    clear G0
    go_wp2_with (go_at_call 59; refine (sorts_any _).mono ?_; rintro e W1 ⟨b, rfl, hx1, hm1⟩)
    have hy1 := hd0.trans hx1
    refine ⟨HS.out _ hy1, ?_⟩
    refine wpOT_two ?_ ?_
    · have hl1 := Hlk.out b hm1
      go_wp2_with fail
      refine ⟨HS.out _ hy1, ?_⟩
      clear hl1
      refine wpOT_take ?_
      repeat (go_big_quiet_step (fail))
      refine wpQuiet_nil ?_
      refine wpOT_one ?_
      go_wp2_with fail
      have hy7 := hy1.alloc (.cells #[.nilFunc, .nilFunc] 112)
      refine ⟨HS.out _ hy7, ?_⟩
      have hq0 := hy1.size
      have hq := heap_alloc_new W1 (.cells #[.nilFunc, .nilFunc] 112)
      generalize W1.alloc (.cells #[.nilFunc, .nilFunc] 112) = W2 at *
      generalize W1.heap.size = q5 at *
      refine wpOT_one ?_
      go_wp2_with (refine wpList_store_row rfl 112 (.tmp 3) (.tmp 10) rfl q5 #[.func (.func 91) #[] #[], .func (.func 92) #[] #[]] rfl rfl 112 _ hq (by kernel_rfl) (by kernel_rfl) (by kernel_rfl) ?_)
      refine ⟨HS.out _ (below_setRow hy7 hq0 _), ?_⟩
      refine wpOT_take ?_
      repeat (go_big_quiet_step (fail))
      refine wpQuiet_nil ?_
      refine wpOT_done ?_
      exact G.out b q5 _ ⟨below_setRow hy7 hq0 _, setRow_heap _ _ _ _ _ _ hq⟩
    · go_wp2_with fail
      have hy7 := hy1.alloc (.cells #[.nilFunc, .nilFunc] 112)
      refine ⟨HS.out _ hy7, ?_⟩
      have hq0 := hy1.size
      have hq := heap_alloc_new W1 (.cells #[.nilFunc, .nilFunc] 112)
      have hl1 := Hlk.out b (hm1.ext ((Ext.refl W1).alloc (.cells #[.nilFunc, .nilFunc] 112)))
      generalize W1.alloc (.cells #[.nilFunc, .nilFunc] 112) = W2 at *
      generalize W1.heap.size = q5 at *
      refine wpOT_one ?_
      go_wp2_with fail
      refine ⟨HS.out _ hy7, ?_⟩
      clear hl1
      refine wpOT_take ?_
      repeat (go_big_quiet_step (fail))
      refine wpQuiet_nil ?_
      refine wpOT_one ?_
      go_wp2_with (refine wpList_store_row rfl 112 (.tmp 3) (.tmp 10) rfl q5 #[.func (.func 91) #[] #[], .func (.func 92) #[] #[]] rfl rfl 112 _ hq (by kernel_rfl) (by kernel_rfl) (by kernel_rfl) ?_)
      refine ⟨HS.out _ (below_setRow hy7 hq0 _), ?_⟩
      refine wpOT_take ?_
      repeat (go_big_quiet_step (fail))
      refine wpQuiet_nil ?_
      refine wpOT_done ?_
      exact G.out b q5 _ ⟨below_setRow hy7 hq0 _, setRow_heap _ _ _ _ _ _ hq⟩
  · intro G0
    have G := Lib.hid G0
    clear G0
    go_wp2_with fail
    have hy1 := hd0.alloc (.cells #[.nilFunc, .nilFunc] 112)
    refine ⟨HS.out _ hy1, ?_⟩
    have hq0 := hd0.size
    have hq1 := heap_alloc_new V0 (.cells #[.nilFunc, .nilFunc] 112)
    generalize V0.alloc (.cells #[.nilFunc, .nilFunc] 112) = W1 at *
    generalize V0.heap.size = q5 at *
    refine wpOT_one ?_
    go_wp2_with (go_at_call 59; refine (sorts_any _).mono ?_; rintro e W2 ⟨b, rfl, hx2, hm2⟩)
    have hy7 := hy1.trans hx2
    refine ⟨HS.out _ hy7, ?_⟩
    have hl2 := Hlk.out b hm2
    have hq := hx2.heap hq1
    refine wpOT_one ?_
    go_wp2_with fail
    refine ⟨HS.out _ hy7, ?_⟩
    clear hl2
    refine wpOT_take ?_
    repeat (go_big_quiet_step (fail))
    refine wpQuiet_nil ?_
    refine wpOT_one ?_
    go_wp2_with (refine wpList_store_row rfl 112 (.tmp 3) (.tmp 10) rfl q5 #[.func (.func 91) #[] #[], .func (.func 92) #[] #[]] rfl rfl 112 _ hq (by kernel_rfl) (by kernel_rfl) (by kernel_rfl) ?_)
    refine ⟨HS.out _ (below_setRow hy7 hq0 _), ?_⟩
    refine wpOT_take ?_
    repeat (go_big_quiet_step (fail))
    refine wpQuiet_nil ?_
    refine wpOT_done ?_
    exact G.out b q5 _ ⟨below_setRow hy7 hq0 _, setRow_heap _ _ _ _ _ _ hq⟩
  rintro b q5 W9 ⟨hx9, hq⟩
  have hb9 := hx9.heap Hb0.out
  obtain ⟨y9, _⟩ := (Ext.refl W9).box hb9
  obtain ⟨z9, _⟩ := (Ext.refl W9).box hq
  have hp9 := heap_lt hb9
  have hn9 := HN.out.ext (Hx0.out.trans hx9)
  have Hb9 := Lib.hid hb9
  have Hn9 := Lib.hid hn9
  have Hx9 := Lib.hid hx9
  clear hb9 hn9 hx9
  clear Hf Ht Hlk HS hd0 hq
  go_wp2_with (first
    | (go_at_call 91; refine (HT.out _ Hn9.out).mono ?_; rintro e V1 ⟨rfl, hz1⟩; clear y9; obtain ⟨y9, _⟩ := (Ext.refl V1).box (hz1.heap Hb9.out); have hs1 := heap_lt (hz1.heap Hb9.out))
    | (go_at_call 60; refine (HP.out _).mono ?_; rintro e V2 ⟨rfl, hz2⟩; clear y9; have hz02 := hz1.trans hz2; obtain ⟨y9, _⟩ := (Ext.refl V2).box (hz02.heap Hb9.out); have hs2 := heap_lt (hz02.heap Hb9.out))
    | (have qq := hz3; clear qq; go_at_call 21; refine (inL1 (alloc_at _ _ _ (by simp)) HD.out).mono ?_; rintro e V4 ⟨rfl, hz4⟩; have hz04 := (hz03.alloc _).trans hz4)
    | (go_at_call 21; refine (inL1 (alloc_at _ _ _ (by simp)) HU.out).mono ?_; rintro e V3 ⟨rfl, hz3⟩; clear y9; have hz03 := (hz02.alloc _).trans hz3; obtain ⟨y9, _⟩ := (Ext.refl V3).box (hz03.heap Hb9.out); have hs3 := heap_lt (hz03.heap Hb9.out)))
  all_goals go_ret
  all_goals refine ⟨ret_bool (by clear HT HP HU HD Hb0 Hb9 Hx0 Hx9 Hn9 HN y9 z9; simp [*]), ?_⟩
  all_goals first | exact Hx0.out.trans (Hx9.out.trans hz04) | exact Hx0.out.trans (Hx9.out.trans hz03) | exact Hx0.out.trans (Hx9.out.trans hz02) | exact Hx0.out.trans (Hx9.out.trans hz1)
set_option maxRecDepth 100000 in
set_option maxHeartbeats 8000000 in
theorem valid3 (p : Pack) (hk : p.kind = 3) (T : Bool) (hT : ∀ W, NoneAt W → Calls Tryz.prog 93 #[p.val] W fun e w' => e = .returned (.bool T) ∧ Ext W w') (w : World) (hn : NoneAt w) :
    Calls Tryz.prog 27 #[p.val] w fun e w' => e = .returned (.bool (T && spanOk p.mass 0 1000000 && inB p.hurt 0 6000000 && inB p.days 0 100000)) ∧ Ext w w' := by
  have hf : sortV p.kind = .agg #[.func (.func 93) #[] #[], .func (.func 94) #[] #[]] := by rw [hk]; rfl
  have ht : (sortsF p.kind).isSome = true := by rw [hk]; rfl
  have hP := fun W => proper_any p.mass 0 1000000 W
  obtain ⟨P2, hP2⟩ : ∃ P, spanOk p.mass 0 1000000 = P := ⟨_, rfl⟩
  obtain ⟨P3, hU⟩ : ∃ P, inB p.hurt 0 6000000 = P := ⟨_, rfl⟩
  obtain ⟨P4, hD⟩ : ∃ P, inB p.days 0 100000 = P := ⟨_, rfl⟩
  rw [hP2] at hP ⊢
  rw [hU, hD]
  have hN := hn
  clear hk hP2 hn
  obtain ⟨k, ⟨m0, m1⟩, ⟨a0, a1⟩, ⟨b0, b1⟩, ⟨l0, l1⟩, u, d⟩ := p
  unfold Pack.val
  try simp only at hf ht hT hP hU hD ⊢
  have hlk := fun b => @lookup_sort2 b k (.func (.func 93) #[] #[]) (.func (.func 94) #[] #[]) true hf ht
  have hb0 := heap_alloc_new w (.cells #[.int .u8 k, .int .i64 m0, .int .i64 m1, .int .i64 a0, .int .i64 a1, .int .i64 b0, .int .i64 b1, .int .i64 l0, .int .i64 l1, .int .i64 u, .int .i64 d] 50)
  have hx0 := (Ext.refl w).alloc (.cells #[.int .u8 k, .int .i64 m0, .int .i64 m1, .int .i64 a0, .int .i64 a1, .int .i64 b0, .int .i64 b1, .int .i64 l0, .int .i64 l1, .int .i64 u, .int .i64 d] 50)
  have Hf := Lib.hid hf
  have Ht := Lib.hid ht
  have Hlk := Lib.hid hlk
  have Hb0 := Lib.hid hb0
  have Hx0 := Lib.hid hx0
  have HT := Lib.hid hT
  have HP := Lib.hid hP
  have HU := Lib.hid hU
  have HD := Lib.hid hD
  have HN := Lib.hid hN
  clear hf ht hlk hb0 hx0 hT hP hU hD hN
  go_enter Tryz.func27, Tryz.ntmps27
  go_wp2_with fail
  generalize w.alloc (.cells #[.int .u8 k, .int .i64 m0, .int .i64 m1, .int .i64 a0, .int .i64 a1, .int .i64 b0, .int .i64 b1, .int .i64 l0, .int .i64 l1, .int .i64 u, .int .i64 d] 50) = W0 at *
  generalize w.heap.size = p0 at *
  refine wp_region_tree (.take [1, 2] (.two 0 (.two 3 (.take [4, 5, 6] (.one 7 (.one 8 (.take [9] .done)))) 7 (.one 3 (.take [4, 5, 6] (.one 8 (.take [9] .done))))) 7 (.one 0 (.one 3 (.take [4, 5, 6] (.one 8 (.take [9] .done))))))) (Ext W0) _ (by kernel_rfl) (by kernel_rfl) rfl ((Ext.refl _).drew) ?_
  intro ι _ f hf hs
  have f0 := fun q => ((hf q).box Hb0.out).1
  have HS := Lib.hid hs
  clear hf hs
  simp only [treeOf, oneOp, twoOp, opsOf, consOp, List.getElem?_toArray, List.getElem?_cons_succ, List.getElem?_cons_zero]
  refine wpOT_take ?_
  repeat (go_big_quiet_step (fail))
  refine wpQuiet_nil ?_
  clear f0
  have hd0 := (Ext.refl W0).drew
  generalize W0.drew = V0 at *
  refine wpOT_both ?_
  apply join_box2 (F := fun b q V => Ext W0 V ∧ V.heap[q]? = some (.cells #[.func (.func 93) #[] #[], .func (.func 94) #[] #[]] 112 (0, 0)))
  · intro G0
    have G := Lib.hid G0
    clear G0
    go_wp2_with (go_at_call 59; refine (sorts_any _).mono ?_; rintro e W1 ⟨b, rfl, hx1, hm1⟩)
    have hy1 := hd0.trans hx1
    refine ⟨HS.out _ hy1, ?_⟩
    refine wpOT_two ?_ ?_
    · have hl1 := Hlk.out b hm1
      go_wp2_with fail
      refine ⟨HS.out _ hy1, ?_⟩
      clear hl1
      refine wpOT_take ?_
      repeat (go_big_quiet_step (fail))
      refine wpQuiet_nil ?_
      refine wpOT_one ?_
      go_wp2_with fail
      have hy7 := hy1.alloc (.cells #[.nilFunc, .nilFunc] 112)
      refine ⟨HS.out _ hy7, ?_⟩
      have hq0 := hy1.size
      have hq := heap_alloc_new W1 (.cells #[.nilFunc, .nilFunc] 112)
      generalize W1.alloc (.cells #[.nilFunc, .nilFunc] 112) = W2 at *
      generalize W1.heap.size = q5 at *
      refine wpOT_one ?_
      go_wp2_with (refine wpList_store_row rfl 112 (.tmp 3) (.tmp 10) rfl q5 #[.func (.func 93) #[] #[], .func (.func 94) #[] #[]] rfl rfl 112 _ hq (by kernel_rfl) (by kernel_rfl) (by kernel_rfl) ?_)
      refine ⟨HS.out _ (below_setRow hy7 hq0 _), ?_⟩
      refine wpOT_take ?_
      repeat (go_big_quiet_step (fail))
      refine wpQuiet_nil ?_
      refine wpOT_done ?_
      exact G.out b q5 _ ⟨below_setRow hy7 hq0 _, setRow_heap _ _ _ _ _ _ hq⟩
    · go_wp2_with fail
      have hy7 := hy1.alloc (.cells #[.nilFunc, .nilFunc] 112)
      refine ⟨HS.out _ hy7, ?_⟩
      have hq0 := hy1.size
      have hq := heap_alloc_new W1 (.cells #[.nilFunc, .nilFunc] 112)
      have hl1 := Hlk.out b (hm1.ext ((Ext.refl W1).alloc (.cells #[.nilFunc, .nilFunc] 112)))
      generalize W1.alloc (.cells #[.nilFunc, .nilFunc] 112) = W2 at *
      generalize W1.heap.size = q5 at *
      refine wpOT_one ?_
      go_wp2_with fail
      refine ⟨HS.out _ hy7, ?_⟩
      clear hl1
      refine wpOT_take ?_
      repeat (go_big_quiet_step (fail))
      refine wpQuiet_nil ?_
      refine wpOT_one ?_
      go_wp2_with (refine wpList_store_row rfl 112 (.tmp 3) (.tmp 10) rfl q5 #[.func (.func 93) #[] #[], .func (.func 94) #[] #[]] rfl rfl 112 _ hq (by kernel_rfl) (by kernel_rfl) (by kernel_rfl) ?_)
      refine ⟨HS.out _ (below_setRow hy7 hq0 _), ?_⟩
      refine wpOT_take ?_
      repeat (go_big_quiet_step (fail))
      refine wpQuiet_nil ?_
      refine wpOT_done ?_
      exact G.out b q5 _ ⟨below_setRow hy7 hq0 _, setRow_heap _ _ _ _ _ _ hq⟩
  · intro G0
    have G := Lib.hid G0
    clear G0
    go_wp2_with fail
    have hy1 := hd0.alloc (.cells #[.nilFunc, .nilFunc] 112)
    refine ⟨HS.out _ hy1, ?_⟩
    have hq0 := hd0.size
    have hq1 := heap_alloc_new V0 (.cells #[.nilFunc, .nilFunc] 112)
    generalize V0.alloc (.cells #[.nilFunc, .nilFunc] 112) = W1 at *
    generalize V0.heap.size = q5 at *
    refine wpOT_one ?_
    go_wp2_with (go_at_call 59; refine (sorts_any _).mono ?_; rintro e W2 ⟨b, rfl, hx2, hm2⟩)
    have hy7 := hy1.trans hx2
    refine ⟨HS.out _ hy7, ?_⟩
    have hl2 := Hlk.out b hm2
    have hq := hx2.heap hq1
    refine wpOT_one ?_
    go_wp2_with fail
    refine ⟨HS.out _ hy7, ?_⟩
    clear hl2
    refine wpOT_take ?_
    repeat (go_big_quiet_step (fail))
    refine wpQuiet_nil ?_
    refine wpOT_one ?_
    go_wp2_with (refine wpList_store_row rfl 112 (.tmp 3) (.tmp 10) rfl q5 #[.func (.func 93) #[] #[], .func (.func 94) #[] #[]] rfl rfl 112 _ hq (by kernel_rfl) (by kernel_rfl) (by kernel_rfl) ?_)
    refine ⟨HS.out _ (below_setRow hy7 hq0 _), ?_⟩
    refine wpOT_take ?_
    repeat (go_big_quiet_step (fail))
    refine wpQuiet_nil ?_
    refine wpOT_done ?_
    exact G.out b q5 _ ⟨below_setRow hy7 hq0 _, setRow_heap _ _ _ _ _ _ hq⟩
  rintro b q5 W9 ⟨hx9, hq⟩
  have hb9 := hx9.heap Hb0.out
  obtain ⟨y9, _⟩ := (Ext.refl W9).box hb9
  obtain ⟨z9, _⟩ := (Ext.refl W9).box hq
  have hp9 := heap_lt hb9
  have hn9 := HN.out.ext (Hx0.out.trans hx9)
  have Hb9 := Lib.hid hb9
  have Hn9 := Lib.hid hn9
  have Hx9 := Lib.hid hx9
  clear hb9 hn9 hx9
  clear Hf Ht Hlk HS hd0 hq
  go_wp2_with (first
    | (go_at_call 93; refine (HT.out _ Hn9.out).mono ?_; rintro e V1 ⟨rfl, hz1⟩; clear y9; obtain ⟨y9, _⟩ := (Ext.refl V1).box (hz1.heap Hb9.out); have hs1 := heap_lt (hz1.heap Hb9.out))
    | (go_at_call 60; refine (HP.out _).mono ?_; rintro e V2 ⟨rfl, hz2⟩; clear y9; have hz02 := hz1.trans hz2; obtain ⟨y9, _⟩ := (Ext.refl V2).box (hz02.heap Hb9.out); have hs2 := heap_lt (hz02.heap Hb9.out))
    | (have qq := hz3; clear qq; go_at_call 21; refine (inL1 (alloc_at _ _ _ (by simp)) HD.out).mono ?_; rintro e V4 ⟨rfl, hz4⟩; have hz04 := (hz03.alloc _).trans hz4)
    | (go_at_call 21; refine (inL1 (alloc_at _ _ _ (by simp)) HU.out).mono ?_; rintro e V3 ⟨rfl, hz3⟩; clear y9; have hz03 := (hz02.alloc _).trans hz3; obtain ⟨y9, _⟩ := (Ext.refl V3).box (hz03.heap Hb9.out); have hs3 := heap_lt (hz03.heap Hb9.out)))
  all_goals go_ret
  all_goals refine ⟨ret_bool (by clear HT HP HU HD Hb0 Hb9 Hx0 Hx9 Hn9 HN y9 z9; simp [*]), ?_⟩
  all_goals first | exact Hx0.out.trans (Hx9.out.trans hz04) | exact Hx0.out.trans (Hx9.out.trans hz03) | exact Hx0.out.trans (Hx9.out.trans hz02) | exact Hx0.out.trans (Hx9.out.trans hz1)
set_option maxRecDepth 100000 in
set_option maxHeartbeats 8000000 in
theorem valid0 (p : Pack) (hk1 : p.kind ≠ 1) (hk2 : p.kind ≠ 2) (hk3 : p.kind ≠ 3) (w : World) (hn : NoneAt w) :
    Calls Tryz.prog 27 #[p.val] w fun e w' => e = .returned (.bool false) ∧ Ext w w' := by
  have hno : sortsF p.kind = none := by unfold sortsF; rw [if_neg hk3, if_neg hk2, if_neg hk1]
  have hf : sortV p.kind = .agg #[.nilFunc, .nilFunc] := by unfold sortV; rw [hno]; rfl
  have ht : (sortsF p.kind).isSome = false := by rw [hno]; rfl
  have hT : True := trivial
  have hP : True := trivial
  have hU : True := trivial
  have hD : True := trivial
  have hN := hn
  clear hk1 hk2 hk3 hno hn
  obtain ⟨k, ⟨m0, m1⟩, ⟨a0, a1⟩, ⟨b0, b1⟩, ⟨l0, l1⟩, u, d⟩ := p
  unfold Pack.val
  try simp only at hf ht hT hP hU hD ⊢
  have hlk := fun b => @lookup_sort2 b k (.nilFunc) (.nilFunc) false hf ht
  have hb0 := heap_alloc_new w (.cells #[.int .u8 k, .int .i64 m0, .int .i64 m1, .int .i64 a0, .int .i64 a1, .int .i64 b0, .int .i64 b1, .int .i64 l0, .int .i64 l1, .int .i64 u, .int .i64 d] 50)
  have hx0 := (Ext.refl w).alloc (.cells #[.int .u8 k, .int .i64 m0, .int .i64 m1, .int .i64 a0, .int .i64 a1, .int .i64 b0, .int .i64 b1, .int .i64 l0, .int .i64 l1, .int .i64 u, .int .i64 d] 50)
  have Hf := Lib.hid hf
  have Ht := Lib.hid ht
  have Hlk := Lib.hid hlk
  have Hb0 := Lib.hid hb0
  have Hx0 := Lib.hid hx0
  have HT := Lib.hid hT
  have HP := Lib.hid hP
  have HU := Lib.hid hU
  have HD := Lib.hid hD
  have HN := Lib.hid hN
  clear hf ht hlk hb0 hx0 hT hP hU hD hN
  go_enter Tryz.func27, Tryz.ntmps27
  go_wp2_with fail
  generalize w.alloc (.cells #[.int .u8 k, .int .i64 m0, .int .i64 m1, .int .i64 a0, .int .i64 a1, .int .i64 b0, .int .i64 b1, .int .i64 l0, .int .i64 l1, .int .i64 u, .int .i64 d] 50) = W0 at *
  generalize w.heap.size = p0 at *
  refine wp_region_tree (.take [1, 2] (.two 0 (.two 3 (.take [4, 5, 6] (.one 7 (.one 8 (.take [9] .done)))) 7 (.one 3 (.take [4, 5, 6] (.one 8 (.take [9] .done))))) 7 (.one 0 (.one 3 (.take [4, 5, 6] (.one 8 (.take [9] .done))))))) (Ext W0) _ (by kernel_rfl) (by kernel_rfl) rfl ((Ext.refl _).drew) ?_
  intro ι _ f hf hs
  have f0 := fun q => ((hf q).box Hb0.out).1
  have HS := Lib.hid hs
  clear hf hs
  simp only [treeOf, oneOp, twoOp, opsOf, consOp, List.getElem?_toArray, List.getElem?_cons_succ, List.getElem?_cons_zero]
  refine wpOT_take ?_
  repeat (go_big_quiet_step (fail))
  refine wpQuiet_nil ?_
  clear f0
  have hd0 := (Ext.refl W0).drew
  generalize W0.drew = V0 at *
  refine wpOT_both ?_
  apply join_box2 (F := fun b q V => Ext W0 V ∧ V.heap[q]? = some (.cells #[.nilFunc, .nilFunc] 112 (0, 0)))
  · intro G0
    have G := Lib.hid G0
    clear G0
    go_wp2_with (go_at_call 59; refine (sorts_any _).mono ?_; rintro e W1 ⟨b, rfl, hx1, hm1⟩)
    have hy1 := hd0.trans hx1
    refine ⟨HS.out _ hy1, ?_⟩
    refine wpOT_two ?_ ?_
    · have hl1 := Hlk.out b hm1
      go_wp2_with fail
      refine ⟨HS.out _ hy1, ?_⟩
      clear hl1
      refine wpOT_take ?_
      repeat (go_big_quiet_step (fail))
      refine wpQuiet_nil ?_
      refine wpOT_one ?_
      go_wp2_with fail
      have hy7 := hy1.alloc (.cells #[.nilFunc, .nilFunc] 112)
      refine ⟨HS.out _ hy7, ?_⟩
      have hq0 := hy1.size
      have hq := heap_alloc_new W1 (.cells #[.nilFunc, .nilFunc] 112)
      generalize W1.alloc (.cells #[.nilFunc, .nilFunc] 112) = W2 at *
      generalize W1.heap.size = q5 at *
      refine wpOT_one ?_
      go_wp2_with (refine wpList_store_row rfl 112 (.tmp 3) (.tmp 10) rfl q5 #[.nilFunc, .nilFunc] rfl rfl 112 _ hq (by kernel_rfl) (by kernel_rfl) (by kernel_rfl) ?_)
      refine ⟨HS.out _ (below_setRow hy7 hq0 _), ?_⟩
      refine wpOT_take ?_
      repeat (go_big_quiet_step (fail))
      refine wpQuiet_nil ?_
      refine wpOT_done ?_
      exact G.out b q5 _ ⟨below_setRow hy7 hq0 _, setRow_heap _ _ _ _ _ _ hq⟩
    · go_wp2_with fail
      have hy7 := hy1.alloc (.cells #[.nilFunc, .nilFunc] 112)
      refine ⟨HS.out _ hy7, ?_⟩
      have hq0 := hy1.size
      have hq := heap_alloc_new W1 (.cells #[.nilFunc, .nilFunc] 112)
      have hl1 := Hlk.out b (hm1.ext ((Ext.refl W1).alloc (.cells #[.nilFunc, .nilFunc] 112)))
      generalize W1.alloc (.cells #[.nilFunc, .nilFunc] 112) = W2 at *
      generalize W1.heap.size = q5 at *
      refine wpOT_one ?_
      go_wp2_with fail
      refine ⟨HS.out _ hy7, ?_⟩
      clear hl1
      refine wpOT_take ?_
      repeat (go_big_quiet_step (fail))
      refine wpQuiet_nil ?_
      refine wpOT_one ?_
      go_wp2_with (refine wpList_store_row rfl 112 (.tmp 3) (.tmp 10) rfl q5 #[.nilFunc, .nilFunc] rfl rfl 112 _ hq (by kernel_rfl) (by kernel_rfl) (by kernel_rfl) ?_)
      refine ⟨HS.out _ (below_setRow hy7 hq0 _), ?_⟩
      refine wpOT_take ?_
      repeat (go_big_quiet_step (fail))
      refine wpQuiet_nil ?_
      refine wpOT_done ?_
      exact G.out b q5 _ ⟨below_setRow hy7 hq0 _, setRow_heap _ _ _ _ _ _ hq⟩
  · intro G0
    have G := Lib.hid G0
    clear G0
    go_wp2_with fail
    have hy1 := hd0.alloc (.cells #[.nilFunc, .nilFunc] 112)
    refine ⟨HS.out _ hy1, ?_⟩
    have hq0 := hd0.size
    have hq1 := heap_alloc_new V0 (.cells #[.nilFunc, .nilFunc] 112)
    generalize V0.alloc (.cells #[.nilFunc, .nilFunc] 112) = W1 at *
    generalize V0.heap.size = q5 at *
    refine wpOT_one ?_
    go_wp2_with (go_at_call 59; refine (sorts_any _).mono ?_; rintro e W2 ⟨b, rfl, hx2, hm2⟩)
    have hy7 := hy1.trans hx2
    refine ⟨HS.out _ hy7, ?_⟩
    have hl2 := Hlk.out b hm2
    have hq := hx2.heap hq1
    refine wpOT_one ?_
    go_wp2_with fail
    refine ⟨HS.out _ hy7, ?_⟩
    clear hl2
    refine wpOT_take ?_
    repeat (go_big_quiet_step (fail))
    refine wpQuiet_nil ?_
    refine wpOT_one ?_
    go_wp2_with (refine wpList_store_row rfl 112 (.tmp 3) (.tmp 10) rfl q5 #[.nilFunc, .nilFunc] rfl rfl 112 _ hq (by kernel_rfl) (by kernel_rfl) (by kernel_rfl) ?_)
    refine ⟨HS.out _ (below_setRow hy7 hq0 _), ?_⟩
    refine wpOT_take ?_
    repeat (go_big_quiet_step (fail))
    refine wpQuiet_nil ?_
    refine wpOT_done ?_
    exact G.out b q5 _ ⟨below_setRow hy7 hq0 _, setRow_heap _ _ _ _ _ _ hq⟩
  rintro b q5 W9 ⟨hx9, hq⟩
  obtain ⟨z9, _⟩ := (Ext.refl W9).box hq
  have Hx9 := Lib.hid hx9
  clear hx9
  clear Hf Ht Hlk HS hd0 hq
  go_wp2_with fail
  go_ret
  exact ⟨rfl, Hx0.out.trans Hx9.out⟩
theorem valid_any (p : Pack) (w : World) (hn : NoneAt w) : Calls Tryz.prog 27 #[p.val] w fun e w' => e = .returned (.bool (packOk p)) ∧ Ext w w' := by
  have key : ∀ T : Bool, packKindOk p = T → packOk p = (T && spanOk p.mass 0 1000000 && inB p.hurt 0 6000000 && inB p.days 0 100000) := by
    intro T hT
    unfold packOk
    rw [hT]
    cases T <;> simp
  by_cases h1 : p.kind = 1
  · rw [key _ (by unfold packKindOk; rw [if_pos h1])]
    exact valid1 p h1 _ (fun W h => test1_any p W h) w hn
  · by_cases h2 : p.kind = 2
    · rw [key _ (by unfold packKindOk; rw [if_neg h1, if_pos h2])]
      exact valid2 p h2 _ (fun W h => test2_any p W h) w hn
    · by_cases h3 : p.kind = 3
      · rw [key (decide (p.hard = zspan) && decide (p.crumbs = zspan) && spanOk p.leak 0 1000000) (by unfold packKindOk; rw [if_neg h1, if_neg h2]; simp [h3])]
        exact valid3 p h3 _ (fun W h => test3_any p W h) w hn
      · rw [key false (by unfold packKindOk; rw [if_neg h1, if_neg h2]; simp [h3])]
        exact valid0 p h1 h2 h3 w hn
end Go.Proofs.YtcoelhpmkhimpaaGreatDoor

namespace Go.Proofs.YtcoelhpmkhimpaaGreatDoor
open Go.RowKit
set_option linter.unusedVariables false
set_option linter.unusedSimpArgs false
theorem lookup_sort1 (b : Nat) (k : Int) (f g : Value) (hf : sortV k = .agg #[f, g]) {w : World} (h : UMapIs w b sortsF) :
    (Instr.lookup 114 (.map (some b)) (.int .u8 k) false).run Tryz.prog w = .ok (.agg #[f, g]) w := by
  rw [← hf]
  exact (lookup_sort h k).2
set_option maxRecDepth 100000 in
set_option maxHeartbeats 8000000 in
theorem rest1 (p : Pack) (hk : p.kind = 1) (hp : packOk p = true) (hG : ∀ W, NoneAt W → Calls Tryz.prog 90 #[p.val] W (restPost p W)) (w : World) (hn : NoneAt w) :
    Calls Tryz.prog 64 #[p.val] w fun e w' => ∃ (a b : Int) (c : Int), e = .returned (.tuple #[(leftP p).val, .agg #[.int .i64 a, .int .i64 b], .int .u8 c, .int .i64 0]) ∧ Ext w w' := by
  have hf : sortV p.kind = .agg #[.func (.func 89) #[] #[], .func (.func 90) #[] #[]] := by rw [hk]; rfl
  have hV := fun W h => valid_any p W h
  rw [hp] at hV
  unfold restPost at hG
  generalize leftP p = L at hG ⊢
  obtain ⟨L0, L1⟩ := L
  unfold Span.val at hG ⊢
  simp only at hG ⊢
  have hN := hn
  clear hk hp hn
  obtain ⟨k, ⟨m0, m1⟩, ⟨a0, a1⟩, ⟨b0, b1⟩, ⟨l0, l1⟩, u, d⟩ := p
  unfold Pack.val
  simp only at hf hG hV ⊢
  have hlk := fun b => @lookup_sort1 b k (.func (.func 89) #[] #[]) (.func (.func 90) #[] #[]) hf
  have hb0 := alloc_heap (alloc_heap (heap_alloc_new w (.cells #[.int .u8 k, .int .i64 m0, .int .i64 m1, .int .i64 a0, .int .i64 a1, .int .i64 b0, .int .i64 b1, .int .i64 l0, .int .i64 l1, .int .i64 u, .int .i64 d] 50)) (.cells #[.int .i64 0, .int .i64 0] 23)) (.cells #[.int .i64 0, .int .i64 0] 23)
  have hx0 := (((Ext.refl w).alloc (.cells #[.int .u8 k, .int .i64 m0, .int .i64 m1, .int .i64 a0, .int .i64 a1, .int .i64 b0, .int .i64 b1, .int .i64 l0, .int .i64 l1, .int .i64 u, .int .i64 d] 50)).alloc (.cells #[.int .i64 0, .int .i64 0] 23)).alloc (.cells #[.int .i64 0, .int .i64 0] 23)
  have hq1 : (((w.alloc (.cells #[.int .u8 k, .int .i64 m0, .int .i64 m1, .int .i64 a0, .int .i64 a1, .int .i64 b0, .int .i64 b1, .int .i64 l0, .int .i64 l1, .int .i64 u, .int .i64 d] 50)).alloc (.cells #[.int .i64 0, .int .i64 0] 23)).alloc (.cells #[.int .i64 0, .int .i64 0] 23)).heap[w.heap.size + 1]? = some (.cells #[.int .i64 0, .int .i64 0] 23 (0, 0)) := alloc_heap (alloc_at _ _ _ (by simp)) _
  have hq2 : (((w.alloc (.cells #[.int .u8 k, .int .i64 m0, .int .i64 m1, .int .i64 a0, .int .i64 a1, .int .i64 b0, .int .i64 b1, .int .i64 l0, .int .i64 l1, .int .i64 u, .int .i64 d] 50)).alloc (.cells #[.int .i64 0, .int .i64 0] 23)).alloc (.cells #[.int .i64 0, .int .i64 0] 23)).heap[w.heap.size + 1 + 1]? = some (.cells #[.int .i64 0, .int .i64 0] 23 (0, 0)) := alloc_at _ _ _ (by simp)
  have Hf := Lib.hid hf
  have Hlk := Lib.hid hlk
  have Hb0 := Lib.hid hb0
  have Hx0 := Lib.hid hx0
  have HG := Lib.hid hG
  have HV := Lib.hid hV
  have HN := Lib.hid hN
  have Hq1 := Lib.hid hq1
  have Hq2 := Lib.hid hq2
  clear hf hlk hb0 hx0 hG hV hN hq1 hq2
  go_enter Tryz.func64, Tryz.ntmps64
  go_wp2_with (go_at_call 27; refine (HV.out _ (HN.out.ext Hx0.out)).mono ?_; rintro e W1 ⟨rfl, hx1⟩)
  have hb1 := hx1.heap Hb0.out
  have hr1 := hx1.heap Hq1.out
  have hr2 := hx1.heap Hq2.out
  have hy1 := Hx0.out.trans hx1
  have hn1 := HN.out.ext hy1
  have hw1 : w.heap.size ≤ w.heap.size + 1 := by omega
  have hw2 : w.heap.size ≤ w.heap.size + 1 + 1 := by omega
  have hw3 : w.heap.size + 1 ≠ w.heap.size := by omega
  have hw4 : w.heap.size + 1 + 1 ≠ w.heap.size := by omega
  have hw5 : w.heap.size + 1 + 1 ≠ w.heap.size + 1 := by omega
  have hw6 := Nat.le_refl w.heap.size
  clear Hb0 Hq1 Hq2 HV Hf hx1 Hx0
  have Hb1 := Lib.hid hb1
  have Hr1 := Lib.hid hr1
  have Hr2 := Lib.hid hr2
  have Hy1 := Lib.hid hy1
  have Hn1 := Lib.hid hn1
  have Hw1 := Lib.hid hw1
  have Hw2 := Lib.hid hw2
  have Hw3 := Lib.hid hw3
  have Hw4 := Lib.hid hw4
  have Hw5 := Lib.hid hw5
  have Hw6 := Lib.hid hw6
  clear hb1 hr1 hr2 hy1 hn1 hw1 hw2 hw3 hw4 hw5 hw6
  generalize w.heap.size + 1 + 1 = p2 at *
  generalize w.heap.size + 1 = p1 at *
  obtain ⟨p0, hp0⟩ : ∃ p0, w.heap.size = p0 := ⟨_, rfl⟩
  rw [hp0] at Hb1 Hw1 Hw2 Hw3 Hw4 ⊢
  refine wp_region_tree (.take [1, 2, 5] (.one 0 (.one 3 (.one 4 (.one 6 (.take [7, 8, 9, 10] (.one 11 (.one 12 (.take [13] .done))))))))) (fun W => Ext w W ∧ W.heap[p0]? = some (.cells #[.int .u8 k, .int .i64 m0, .int .i64 m1, .int .i64 a0, .int .i64 a1, .int .i64 b0, .int .i64 b1, .int .i64 l0, .int .i64 l1, .int .i64 u, .int .i64 d] 50 (0, 0))) _ (by kernel_rfl) (by kernel_rfl) rfl (⟨Hy1.out.drew, Hb1.out⟩) ?_
  intro ι _ f hf hs
  have f0 := fun q => ((Ext.refl (f q)).box (hf q).2).1
  have HS := Lib.hid hs
  clear hf hs
  simp only [treeOf, oneOp, twoOp, opsOf, consOp, List.getElem?_toArray, List.getElem?_cons_succ, List.getElem?_cons_zero]
  refine wpOT_take ?_
  repeat (go_big_quiet_step (fail))
  refine wpQuiet_nil ?_
  clear f0
  refine wpOT_one ?_
  go_wp2_with (go_at_call 59; refine (sorts_any _).mono ?_; rintro e W2 ⟨b, rfl, hx2, hm2⟩)
  have hy2 := Hy1.out.drew.trans hx2
  have hb2 := hx2.heap Hb1.out
  have hr12 := hx2.heap Hr1.out
  have hr22 := hx2.heap Hr2.out
  refine ⟨HS.out _ ⟨hy2, hb2⟩, ?_⟩
  have hl2 := Hlk.out b hm2
  refine wpOT_one ?_
  go_wp2_with fail
  refine ⟨HS.out _ ⟨hy2, hb2⟩, ?_⟩
  clear hl2 hm2 hx2
  have Hy2 := Lib.hid hy2
  have Hb2 := Lib.hid hb2
  have Hr12 := Lib.hid hr12
  have Hr22 := Lib.hid hr22
  clear hy2 hb2 hr12 hr22
  clear Hb1 Hr1 Hr2
  refine wpOT_one ?_
  go_wp2_with fail
  rename_i K hK
  refine hK _ _ ?_
  clear hK
  go_wp2_with fail
  refine ⟨HS.out _ ⟨Hy2.out, Hb2.out⟩, ?_⟩
  refine wpOT_one ?_
  go_wp2_with (go_at_call 90; refine (HG.out _ (HN.out.ext Hy2.out)).mono ?_; rintro e W3 ⟨x, y, c, rfl, hx3⟩)
  have hy3 := Hy2.out.trans hx3
  have hb3 := hx3.heap Hb2.out
  have hr13 := hx3.heap Hr12.out
  have hr23 := hx3.heap Hr22.out
  refine ⟨HS.out _ ⟨hy3, hb3⟩, ?_⟩
  clear hx3
  have Hy3 := Lib.hid hy3
  have Hb3 := Lib.hid hb3
  have Hr23 := Lib.hid hr23
  clear hy3 hb3 hr23
  clear Hb2 Hr12 Hr22
  refine wpOT_take ?_
  repeat (go_big_quiet_step (fail))
  refine wpQuiet_nil ?_
  refine wpOT_one ?_
  go_wp2_with (refine wpList_store_row rfl 23 (.tmp 2) (.tmp 19) rfl p1 #[.int .i64 L0, .int .i64 L1] rfl rfl 23 _ hr13 (by kernel_rfl) (by kernel_rfl) (by kernel_rfl) ?_)
  refine ⟨HS.out _ ⟨below_setRow Hy3.out (by rw [hp0]; exact Hw1.out) _, (setRow_other _ _ _ _ (Ne.symm Hw3.out)).trans Hb3.out⟩, ?_⟩
  have hr14 := setRow_heap _ _ _ #[.int .i64 L0, .int .i64 L1] _ _ hr13
  have hr24 := (setRow_other W3 p1 p2 #[.int .i64 L0, .int .i64 L1] Hw5.out).trans Hr23.out
  have hy4 : Ext w (W3.setRow p1 #[.int .i64 L0, .int .i64 L1]) := below_setRow Hy3.out (by rw [hp0]; exact Hw1.out) _
  have hb4 := (setRow_other W3 p1 p0 #[.int .i64 L0, .int .i64 L1] (Ne.symm Hw3.out)).trans Hb3.out
  generalize W3.setRow p1 #[.int .i64 L0, .int .i64 L1] = W4 at *
  clear hr13 Hr23 Hy3 Hb3
  have Hr14 := Lib.hid hr14
  have Hy4 := Lib.hid hy4
  have Hb4 := Lib.hid hb4
  clear hr14 hy4 hb4
  refine wpOT_one ?_
  go_wp2_with (refine wpList_store_row rfl 23 (.tmp 3) (.tmp 20) rfl p2 #[.int .i64 x, .int .i64 y] rfl rfl 23 _ hr24 (by kernel_rfl) (by kernel_rfl) (by kernel_rfl) ?_)
  refine ⟨HS.out _ ⟨below_setRow Hy4.out (by rw [hp0]; exact Hw2.out) _, (setRow_other _ _ _ _ (Ne.symm Hw4.out)).trans Hb4.out⟩, ?_⟩
  have hr25 := setRow_heap _ _ _ #[.int .i64 x, .int .i64 y] _ _ hr24
  have hr15 := (setRow_other W4 p2 p1 #[.int .i64 x, .int .i64 y] (Ne.symm Hw5.out)).trans Hr14.out
  have hy5 : Ext w (W4.setRow p2 #[.int .i64 x, .int .i64 y]) := below_setRow Hy4.out (by rw [hp0]; exact Hw2.out) _
  generalize W4.setRow p2 #[.int .i64 x, .int .i64 y] = W5 at *
  clear hr24 Hr14 Hy4 Hb4 HS
  refine wpOT_take ?_
  repeat (go_big_quiet_step (fail))
  refine wpQuiet_nil ?_
  refine wpOT_done ?_
  obtain ⟨c1, d1⟩ := (Ext.refl W5).box hr15
  obtain ⟨c2, d2⟩ := (Ext.refl W5).box hr25
  have Hr15 := Lib.hid hr15
  have Hr25 := Lib.hid hr25
  have Hy5 := Lib.hid hy5
  clear hr15 hr25 hy5
  go_wp2_with fail
  have e1 := Hw5.out
  have e2 := Ne.symm Hw5.out
  go_region
  go_wp2_with fail
  refine bodyPost_ret (results_cell_cell_tmp2 (P := Tryz.prog) (fn := Tryz.f64) rfl _ _ p1 p2 23 23 _ _ (0, 0) (0, 0) _ _ rfl (set2_other (set2_box Hr15.out _ _) (Ne.symm Hw5.out) _ _) Tryz.underlying23 rfl (by kernel_rfl) rfl (set2_box (set2_other Hr25.out Hw5.out _ _) _ _) Tryz.underlying23 rfl (by kernel_rfl)) rfl ?_
  exact ⟨x, y, c, rfl, (set2_ext (set2_ext Hy5.out (by rw [hp0]; exact Hw1.out) _ _) (by rw [hp0]; exact Hw2.out) _ _).drew⟩
set_option maxRecDepth 100000 in
set_option maxHeartbeats 8000000 in
theorem rest2 (p : Pack) (hk : p.kind = 2) (hp : packOk p = true) (hG : ∀ W, NoneAt W → Calls Tryz.prog 92 #[p.val] W (restPost p W)) (w : World) (hn : NoneAt w) :
    Calls Tryz.prog 64 #[p.val] w fun e w' => ∃ (a b : Int) (c : Int), e = .returned (.tuple #[(leftP p).val, .agg #[.int .i64 a, .int .i64 b], .int .u8 c, .int .i64 0]) ∧ Ext w w' := by
  have hf : sortV p.kind = .agg #[.func (.func 91) #[] #[], .func (.func 92) #[] #[]] := by rw [hk]; rfl
  have hV := fun W h => valid_any p W h
  rw [hp] at hV
  unfold restPost at hG
  generalize leftP p = L at hG ⊢
  obtain ⟨L0, L1⟩ := L
  unfold Span.val at hG ⊢
  simp only at hG ⊢
  have hN := hn
  clear hk hp hn
  obtain ⟨k, ⟨m0, m1⟩, ⟨a0, a1⟩, ⟨b0, b1⟩, ⟨l0, l1⟩, u, d⟩ := p
  unfold Pack.val
  simp only at hf hG hV ⊢
  have hlk := fun b => @lookup_sort1 b k (.func (.func 91) #[] #[]) (.func (.func 92) #[] #[]) hf
  have hb0 := alloc_heap (alloc_heap (heap_alloc_new w (.cells #[.int .u8 k, .int .i64 m0, .int .i64 m1, .int .i64 a0, .int .i64 a1, .int .i64 b0, .int .i64 b1, .int .i64 l0, .int .i64 l1, .int .i64 u, .int .i64 d] 50)) (.cells #[.int .i64 0, .int .i64 0] 23)) (.cells #[.int .i64 0, .int .i64 0] 23)
  have hx0 := (((Ext.refl w).alloc (.cells #[.int .u8 k, .int .i64 m0, .int .i64 m1, .int .i64 a0, .int .i64 a1, .int .i64 b0, .int .i64 b1, .int .i64 l0, .int .i64 l1, .int .i64 u, .int .i64 d] 50)).alloc (.cells #[.int .i64 0, .int .i64 0] 23)).alloc (.cells #[.int .i64 0, .int .i64 0] 23)
  have hq1 : (((w.alloc (.cells #[.int .u8 k, .int .i64 m0, .int .i64 m1, .int .i64 a0, .int .i64 a1, .int .i64 b0, .int .i64 b1, .int .i64 l0, .int .i64 l1, .int .i64 u, .int .i64 d] 50)).alloc (.cells #[.int .i64 0, .int .i64 0] 23)).alloc (.cells #[.int .i64 0, .int .i64 0] 23)).heap[w.heap.size + 1]? = some (.cells #[.int .i64 0, .int .i64 0] 23 (0, 0)) := alloc_heap (alloc_at _ _ _ (by simp)) _
  have hq2 : (((w.alloc (.cells #[.int .u8 k, .int .i64 m0, .int .i64 m1, .int .i64 a0, .int .i64 a1, .int .i64 b0, .int .i64 b1, .int .i64 l0, .int .i64 l1, .int .i64 u, .int .i64 d] 50)).alloc (.cells #[.int .i64 0, .int .i64 0] 23)).alloc (.cells #[.int .i64 0, .int .i64 0] 23)).heap[w.heap.size + 1 + 1]? = some (.cells #[.int .i64 0, .int .i64 0] 23 (0, 0)) := alloc_at _ _ _ (by simp)
  have Hf := Lib.hid hf
  have Hlk := Lib.hid hlk
  have Hb0 := Lib.hid hb0
  have Hx0 := Lib.hid hx0
  have HG := Lib.hid hG
  have HV := Lib.hid hV
  have HN := Lib.hid hN
  have Hq1 := Lib.hid hq1
  have Hq2 := Lib.hid hq2
  clear hf hlk hb0 hx0 hG hV hN hq1 hq2
  go_enter Tryz.func64, Tryz.ntmps64
  go_wp2_with (go_at_call 27; refine (HV.out _ (HN.out.ext Hx0.out)).mono ?_; rintro e W1 ⟨rfl, hx1⟩)
  have hb1 := hx1.heap Hb0.out
  have hr1 := hx1.heap Hq1.out
  have hr2 := hx1.heap Hq2.out
  have hy1 := Hx0.out.trans hx1
  have hn1 := HN.out.ext hy1
  have hw1 : w.heap.size ≤ w.heap.size + 1 := by omega
  have hw2 : w.heap.size ≤ w.heap.size + 1 + 1 := by omega
  have hw3 : w.heap.size + 1 ≠ w.heap.size := by omega
  have hw4 : w.heap.size + 1 + 1 ≠ w.heap.size := by omega
  have hw5 : w.heap.size + 1 + 1 ≠ w.heap.size + 1 := by omega
  have hw6 := Nat.le_refl w.heap.size
  clear Hb0 Hq1 Hq2 HV Hf hx1 Hx0
  have Hb1 := Lib.hid hb1
  have Hr1 := Lib.hid hr1
  have Hr2 := Lib.hid hr2
  have Hy1 := Lib.hid hy1
  have Hn1 := Lib.hid hn1
  have Hw1 := Lib.hid hw1
  have Hw2 := Lib.hid hw2
  have Hw3 := Lib.hid hw3
  have Hw4 := Lib.hid hw4
  have Hw5 := Lib.hid hw5
  have Hw6 := Lib.hid hw6
  clear hb1 hr1 hr2 hy1 hn1 hw1 hw2 hw3 hw4 hw5 hw6
  generalize w.heap.size + 1 + 1 = p2 at *
  generalize w.heap.size + 1 = p1 at *
  obtain ⟨p0, hp0⟩ : ∃ p0, w.heap.size = p0 := ⟨_, rfl⟩
  rw [hp0] at Hb1 Hw1 Hw2 Hw3 Hw4 ⊢
  refine wp_region_tree (.take [1, 2, 5] (.one 0 (.one 3 (.one 4 (.one 6 (.take [7, 8, 9, 10] (.one 11 (.one 12 (.take [13] .done))))))))) (fun W => Ext w W ∧ W.heap[p0]? = some (.cells #[.int .u8 k, .int .i64 m0, .int .i64 m1, .int .i64 a0, .int .i64 a1, .int .i64 b0, .int .i64 b1, .int .i64 l0, .int .i64 l1, .int .i64 u, .int .i64 d] 50 (0, 0))) _ (by kernel_rfl) (by kernel_rfl) rfl (⟨Hy1.out.drew, Hb1.out⟩) ?_
  intro ι _ f hf hs
  have f0 := fun q => ((Ext.refl (f q)).box (hf q).2).1
  have HS := Lib.hid hs
  clear hf hs
  simp only [treeOf, oneOp, twoOp, opsOf, consOp, List.getElem?_toArray, List.getElem?_cons_succ, List.getElem?_cons_zero]
  refine wpOT_take ?_
  repeat (go_big_quiet_step (fail))
  refine wpQuiet_nil ?_
  clear f0
  refine wpOT_one ?_
  go_wp2_with (go_at_call 59; refine (sorts_any _).mono ?_; rintro e W2 ⟨b, rfl, hx2, hm2⟩)
  have hy2 := Hy1.out.drew.trans hx2
  have hb2 := hx2.heap Hb1.out
  have hr12 := hx2.heap Hr1.out
  have hr22 := hx2.heap Hr2.out
  refine ⟨HS.out _ ⟨hy2, hb2⟩, ?_⟩
  have hl2 := Hlk.out b hm2
  refine wpOT_one ?_
  go_wp2_with fail
  refine ⟨HS.out _ ⟨hy2, hb2⟩, ?_⟩
  clear hl2 hm2 hx2
  have Hy2 := Lib.hid hy2
  have Hb2 := Lib.hid hb2
  have Hr12 := Lib.hid hr12
  have Hr22 := Lib.hid hr22
  clear hy2 hb2 hr12 hr22
  clear Hb1 Hr1 Hr2
  refine wpOT_one ?_
  go_wp2_with fail
  rename_i K hK
  refine hK _ _ ?_
  clear hK
  go_wp2_with fail
  refine ⟨HS.out _ ⟨Hy2.out, Hb2.out⟩, ?_⟩
  refine wpOT_one ?_
  go_wp2_with (go_at_call 92; refine (HG.out _ (HN.out.ext Hy2.out)).mono ?_; rintro e W3 ⟨x, y, c, rfl, hx3⟩)
  have hy3 := Hy2.out.trans hx3
  have hb3 := hx3.heap Hb2.out
  have hr13 := hx3.heap Hr12.out
  have hr23 := hx3.heap Hr22.out
  refine ⟨HS.out _ ⟨hy3, hb3⟩, ?_⟩
  clear hx3
  have Hy3 := Lib.hid hy3
  have Hb3 := Lib.hid hb3
  have Hr23 := Lib.hid hr23
  clear hy3 hb3 hr23
  clear Hb2 Hr12 Hr22
  refine wpOT_take ?_
  repeat (go_big_quiet_step (fail))
  refine wpQuiet_nil ?_
  refine wpOT_one ?_
  go_wp2_with (refine wpList_store_row rfl 23 (.tmp 2) (.tmp 19) rfl p1 #[.int .i64 L0, .int .i64 L1] rfl rfl 23 _ hr13 (by kernel_rfl) (by kernel_rfl) (by kernel_rfl) ?_)
  refine ⟨HS.out _ ⟨below_setRow Hy3.out (by rw [hp0]; exact Hw1.out) _, (setRow_other _ _ _ _ (Ne.symm Hw3.out)).trans Hb3.out⟩, ?_⟩
  have hr14 := setRow_heap _ _ _ #[.int .i64 L0, .int .i64 L1] _ _ hr13
  have hr24 := (setRow_other W3 p1 p2 #[.int .i64 L0, .int .i64 L1] Hw5.out).trans Hr23.out
  have hy4 : Ext w (W3.setRow p1 #[.int .i64 L0, .int .i64 L1]) := below_setRow Hy3.out (by rw [hp0]; exact Hw1.out) _
  have hb4 := (setRow_other W3 p1 p0 #[.int .i64 L0, .int .i64 L1] (Ne.symm Hw3.out)).trans Hb3.out
  generalize W3.setRow p1 #[.int .i64 L0, .int .i64 L1] = W4 at *
  clear hr13 Hr23 Hy3 Hb3
  have Hr14 := Lib.hid hr14
  have Hy4 := Lib.hid hy4
  have Hb4 := Lib.hid hb4
  clear hr14 hy4 hb4
  refine wpOT_one ?_
  go_wp2_with (refine wpList_store_row rfl 23 (.tmp 3) (.tmp 20) rfl p2 #[.int .i64 x, .int .i64 y] rfl rfl 23 _ hr24 (by kernel_rfl) (by kernel_rfl) (by kernel_rfl) ?_)
  refine ⟨HS.out _ ⟨below_setRow Hy4.out (by rw [hp0]; exact Hw2.out) _, (setRow_other _ _ _ _ (Ne.symm Hw4.out)).trans Hb4.out⟩, ?_⟩
  have hr25 := setRow_heap _ _ _ #[.int .i64 x, .int .i64 y] _ _ hr24
  have hr15 := (setRow_other W4 p2 p1 #[.int .i64 x, .int .i64 y] (Ne.symm Hw5.out)).trans Hr14.out
  have hy5 : Ext w (W4.setRow p2 #[.int .i64 x, .int .i64 y]) := below_setRow Hy4.out (by rw [hp0]; exact Hw2.out) _
  generalize W4.setRow p2 #[.int .i64 x, .int .i64 y] = W5 at *
  clear hr24 Hr14 Hy4 Hb4 HS
  refine wpOT_take ?_
  repeat (go_big_quiet_step (fail))
  refine wpQuiet_nil ?_
  refine wpOT_done ?_
  obtain ⟨c1, d1⟩ := (Ext.refl W5).box hr15
  obtain ⟨c2, d2⟩ := (Ext.refl W5).box hr25
  have Hr15 := Lib.hid hr15
  have Hr25 := Lib.hid hr25
  have Hy5 := Lib.hid hy5
  clear hr15 hr25 hy5
  go_wp2_with fail
  have e1 := Hw5.out
  have e2 := Ne.symm Hw5.out
  go_region
  go_wp2_with fail
  refine bodyPost_ret (results_cell_cell_tmp2 (P := Tryz.prog) (fn := Tryz.f64) rfl _ _ p1 p2 23 23 _ _ (0, 0) (0, 0) _ _ rfl (set2_other (set2_box Hr15.out _ _) (Ne.symm Hw5.out) _ _) Tryz.underlying23 rfl (by kernel_rfl) rfl (set2_box (set2_other Hr25.out Hw5.out _ _) _ _) Tryz.underlying23 rfl (by kernel_rfl)) rfl ?_
  exact ⟨x, y, c, rfl, (set2_ext (set2_ext Hy5.out (by rw [hp0]; exact Hw1.out) _ _) (by rw [hp0]; exact Hw2.out) _ _).drew⟩
set_option maxRecDepth 100000 in
set_option maxHeartbeats 8000000 in
theorem rest3 (p : Pack) (hk : p.kind = 3) (hp : packOk p = true) (hG : ∀ W, NoneAt W → Calls Tryz.prog 94 #[p.val] W (restPost p W)) (w : World) (hn : NoneAt w) :
    Calls Tryz.prog 64 #[p.val] w fun e w' => ∃ (a b : Int) (c : Int), e = .returned (.tuple #[(leftP p).val, .agg #[.int .i64 a, .int .i64 b], .int .u8 c, .int .i64 0]) ∧ Ext w w' := by
  have hf : sortV p.kind = .agg #[.func (.func 93) #[] #[], .func (.func 94) #[] #[]] := by rw [hk]; rfl
  have hV := fun W h => valid_any p W h
  rw [hp] at hV
  unfold restPost at hG
  generalize leftP p = L at hG ⊢
  obtain ⟨L0, L1⟩ := L
  unfold Span.val at hG ⊢
  simp only at hG ⊢
  have hN := hn
  clear hk hp hn
  obtain ⟨k, ⟨m0, m1⟩, ⟨a0, a1⟩, ⟨b0, b1⟩, ⟨l0, l1⟩, u, d⟩ := p
  unfold Pack.val
  simp only at hf hG hV ⊢
  have hlk := fun b => @lookup_sort1 b k (.func (.func 93) #[] #[]) (.func (.func 94) #[] #[]) hf
  have hb0 := alloc_heap (alloc_heap (heap_alloc_new w (.cells #[.int .u8 k, .int .i64 m0, .int .i64 m1, .int .i64 a0, .int .i64 a1, .int .i64 b0, .int .i64 b1, .int .i64 l0, .int .i64 l1, .int .i64 u, .int .i64 d] 50)) (.cells #[.int .i64 0, .int .i64 0] 23)) (.cells #[.int .i64 0, .int .i64 0] 23)
  have hx0 := (((Ext.refl w).alloc (.cells #[.int .u8 k, .int .i64 m0, .int .i64 m1, .int .i64 a0, .int .i64 a1, .int .i64 b0, .int .i64 b1, .int .i64 l0, .int .i64 l1, .int .i64 u, .int .i64 d] 50)).alloc (.cells #[.int .i64 0, .int .i64 0] 23)).alloc (.cells #[.int .i64 0, .int .i64 0] 23)
  have hq1 : (((w.alloc (.cells #[.int .u8 k, .int .i64 m0, .int .i64 m1, .int .i64 a0, .int .i64 a1, .int .i64 b0, .int .i64 b1, .int .i64 l0, .int .i64 l1, .int .i64 u, .int .i64 d] 50)).alloc (.cells #[.int .i64 0, .int .i64 0] 23)).alloc (.cells #[.int .i64 0, .int .i64 0] 23)).heap[w.heap.size + 1]? = some (.cells #[.int .i64 0, .int .i64 0] 23 (0, 0)) := alloc_heap (alloc_at _ _ _ (by simp)) _
  have hq2 : (((w.alloc (.cells #[.int .u8 k, .int .i64 m0, .int .i64 m1, .int .i64 a0, .int .i64 a1, .int .i64 b0, .int .i64 b1, .int .i64 l0, .int .i64 l1, .int .i64 u, .int .i64 d] 50)).alloc (.cells #[.int .i64 0, .int .i64 0] 23)).alloc (.cells #[.int .i64 0, .int .i64 0] 23)).heap[w.heap.size + 1 + 1]? = some (.cells #[.int .i64 0, .int .i64 0] 23 (0, 0)) := alloc_at _ _ _ (by simp)
  have Hf := Lib.hid hf
  have Hlk := Lib.hid hlk
  have Hb0 := Lib.hid hb0
  have Hx0 := Lib.hid hx0
  have HG := Lib.hid hG
  have HV := Lib.hid hV
  have HN := Lib.hid hN
  have Hq1 := Lib.hid hq1
  have Hq2 := Lib.hid hq2
  clear hf hlk hb0 hx0 hG hV hN hq1 hq2
  go_enter Tryz.func64, Tryz.ntmps64
  go_wp2_with (go_at_call 27; refine (HV.out _ (HN.out.ext Hx0.out)).mono ?_; rintro e W1 ⟨rfl, hx1⟩)
  have hb1 := hx1.heap Hb0.out
  have hr1 := hx1.heap Hq1.out
  have hr2 := hx1.heap Hq2.out
  have hy1 := Hx0.out.trans hx1
  have hn1 := HN.out.ext hy1
  have hw1 : w.heap.size ≤ w.heap.size + 1 := by omega
  have hw2 : w.heap.size ≤ w.heap.size + 1 + 1 := by omega
  have hw3 : w.heap.size + 1 ≠ w.heap.size := by omega
  have hw4 : w.heap.size + 1 + 1 ≠ w.heap.size := by omega
  have hw5 : w.heap.size + 1 + 1 ≠ w.heap.size + 1 := by omega
  have hw6 := Nat.le_refl w.heap.size
  clear Hb0 Hq1 Hq2 HV Hf hx1 Hx0
  have Hb1 := Lib.hid hb1
  have Hr1 := Lib.hid hr1
  have Hr2 := Lib.hid hr2
  have Hy1 := Lib.hid hy1
  have Hn1 := Lib.hid hn1
  have Hw1 := Lib.hid hw1
  have Hw2 := Lib.hid hw2
  have Hw3 := Lib.hid hw3
  have Hw4 := Lib.hid hw4
  have Hw5 := Lib.hid hw5
  have Hw6 := Lib.hid hw6
  clear hb1 hr1 hr2 hy1 hn1 hw1 hw2 hw3 hw4 hw5 hw6
  generalize w.heap.size + 1 + 1 = p2 at *
  generalize w.heap.size + 1 = p1 at *
  obtain ⟨p0, hp0⟩ : ∃ p0, w.heap.size = p0 := ⟨_, rfl⟩
  rw [hp0] at Hb1 Hw1 Hw2 Hw3 Hw4 ⊢
  refine wp_region_tree (.take [1, 2, 5] (.one 0 (.one 3 (.one 4 (.one 6 (.take [7, 8, 9, 10] (.one 11 (.one 12 (.take [13] .done))))))))) (fun W => Ext w W ∧ W.heap[p0]? = some (.cells #[.int .u8 k, .int .i64 m0, .int .i64 m1, .int .i64 a0, .int .i64 a1, .int .i64 b0, .int .i64 b1, .int .i64 l0, .int .i64 l1, .int .i64 u, .int .i64 d] 50 (0, 0))) _ (by kernel_rfl) (by kernel_rfl) rfl (⟨Hy1.out.drew, Hb1.out⟩) ?_
  intro ι _ f hf hs
  have f0 := fun q => ((Ext.refl (f q)).box (hf q).2).1
  have HS := Lib.hid hs
  clear hf hs
  simp only [treeOf, oneOp, twoOp, opsOf, consOp, List.getElem?_toArray, List.getElem?_cons_succ, List.getElem?_cons_zero]
  refine wpOT_take ?_
  repeat (go_big_quiet_step (fail))
  refine wpQuiet_nil ?_
  clear f0
  refine wpOT_one ?_
  go_wp2_with (go_at_call 59; refine (sorts_any _).mono ?_; rintro e W2 ⟨b, rfl, hx2, hm2⟩)
  have hy2 := Hy1.out.drew.trans hx2
  have hb2 := hx2.heap Hb1.out
  have hr12 := hx2.heap Hr1.out
  have hr22 := hx2.heap Hr2.out
  refine ⟨HS.out _ ⟨hy2, hb2⟩, ?_⟩
  have hl2 := Hlk.out b hm2
  refine wpOT_one ?_
  go_wp2_with fail
  refine ⟨HS.out _ ⟨hy2, hb2⟩, ?_⟩
  clear hl2 hm2 hx2
  have Hy2 := Lib.hid hy2
  have Hb2 := Lib.hid hb2
  have Hr12 := Lib.hid hr12
  have Hr22 := Lib.hid hr22
  clear hy2 hb2 hr12 hr22
  clear Hb1 Hr1 Hr2
  refine wpOT_one ?_
  go_wp2_with fail
  rename_i K hK
  refine hK _ _ ?_
  clear hK
  go_wp2_with fail
  refine ⟨HS.out _ ⟨Hy2.out, Hb2.out⟩, ?_⟩
  refine wpOT_one ?_
  go_wp2_with (go_at_call 94; refine (HG.out _ (HN.out.ext Hy2.out)).mono ?_; rintro e W3 ⟨x, y, c, rfl, hx3⟩)
  have hy3 := Hy2.out.trans hx3
  have hb3 := hx3.heap Hb2.out
  have hr13 := hx3.heap Hr12.out
  have hr23 := hx3.heap Hr22.out
  refine ⟨HS.out _ ⟨hy3, hb3⟩, ?_⟩
  clear hx3
  have Hy3 := Lib.hid hy3
  have Hb3 := Lib.hid hb3
  have Hr23 := Lib.hid hr23
  clear hy3 hb3 hr23
  clear Hb2 Hr12 Hr22
  refine wpOT_take ?_
  repeat (go_big_quiet_step (fail))
  refine wpQuiet_nil ?_
  refine wpOT_one ?_
  go_wp2_with (refine wpList_store_row rfl 23 (.tmp 2) (.tmp 19) rfl p1 #[.int .i64 L0, .int .i64 L1] rfl rfl 23 _ hr13 (by kernel_rfl) (by kernel_rfl) (by kernel_rfl) ?_)
  refine ⟨HS.out _ ⟨below_setRow Hy3.out (by rw [hp0]; exact Hw1.out) _, (setRow_other _ _ _ _ (Ne.symm Hw3.out)).trans Hb3.out⟩, ?_⟩
  have hr14 := setRow_heap _ _ _ #[.int .i64 L0, .int .i64 L1] _ _ hr13
  have hr24 := (setRow_other W3 p1 p2 #[.int .i64 L0, .int .i64 L1] Hw5.out).trans Hr23.out
  have hy4 : Ext w (W3.setRow p1 #[.int .i64 L0, .int .i64 L1]) := below_setRow Hy3.out (by rw [hp0]; exact Hw1.out) _
  have hb4 := (setRow_other W3 p1 p0 #[.int .i64 L0, .int .i64 L1] (Ne.symm Hw3.out)).trans Hb3.out
  generalize W3.setRow p1 #[.int .i64 L0, .int .i64 L1] = W4 at *
  clear hr13 Hr23 Hy3 Hb3
  have Hr14 := Lib.hid hr14
  have Hy4 := Lib.hid hy4
  have Hb4 := Lib.hid hb4
  clear hr14 hy4 hb4
  refine wpOT_one ?_
  go_wp2_with (refine wpList_store_row rfl 23 (.tmp 3) (.tmp 20) rfl p2 #[.int .i64 x, .int .i64 y] rfl rfl 23 _ hr24 (by kernel_rfl) (by kernel_rfl) (by kernel_rfl) ?_)
  refine ⟨HS.out _ ⟨below_setRow Hy4.out (by rw [hp0]; exact Hw2.out) _, (setRow_other _ _ _ _ (Ne.symm Hw4.out)).trans Hb4.out⟩, ?_⟩
  have hr25 := setRow_heap _ _ _ #[.int .i64 x, .int .i64 y] _ _ hr24
  have hr15 := (setRow_other W4 p2 p1 #[.int .i64 x, .int .i64 y] (Ne.symm Hw5.out)).trans Hr14.out
  have hy5 : Ext w (W4.setRow p2 #[.int .i64 x, .int .i64 y]) := below_setRow Hy4.out (by rw [hp0]; exact Hw2.out) _
  generalize W4.setRow p2 #[.int .i64 x, .int .i64 y] = W5 at *
  clear hr24 Hr14 Hy4 Hb4 HS
  refine wpOT_take ?_
  repeat (go_big_quiet_step (fail))
  refine wpQuiet_nil ?_
  refine wpOT_done ?_
  obtain ⟨c1, d1⟩ := (Ext.refl W5).box hr15
  obtain ⟨c2, d2⟩ := (Ext.refl W5).box hr25
  have Hr15 := Lib.hid hr15
  have Hr25 := Lib.hid hr25
  have Hy5 := Lib.hid hy5
  clear hr15 hr25 hy5
  go_wp2_with fail
  have e1 := Hw5.out
  have e2 := Ne.symm Hw5.out
  go_region
  go_wp2_with fail
  refine bodyPost_ret (results_cell_cell_tmp2 (P := Tryz.prog) (fn := Tryz.f64) rfl _ _ p1 p2 23 23 _ _ (0, 0) (0, 0) _ _ rfl (set2_other (set2_box Hr15.out _ _) (Ne.symm Hw5.out) _ _) Tryz.underlying23 rfl (by kernel_rfl) rfl (set2_box (set2_other Hr25.out Hw5.out _ _) _ _) Tryz.underlying23 rfl (by kernel_rfl)) rfl ?_
  exact ⟨x, y, c, rfl, (set2_ext (set2_ext Hy5.out (by rw [hp0]; exact Hw1.out) _ _) (by rw [hp0]; exact Hw2.out) _ _).drew⟩
/-- what is left of a valid pack -/
theorem left_any (p : Pack) (hp : packOk p = true) (w : World) (hn : NoneAt w) :
    Calls Tryz.prog 64 #[p.val] w fun e w' => ∃ (a b : Int) (c : Int), e = .returned (.tuple #[(leftP p).val, .agg #[.int .i64 a, .int .i64 b], .int .u8 c, .int .i64 0]) ∧ Ext w w' := by
  have hi := packIs hp
  rcases hi.kind with ⟨k, h⟩ | ⟨k, h⟩ | ⟨k, h⟩
  · exact rest1 p k hp (fun W h => slab_any p k hi W h) w hn
  · exact rest2 p k hp (fun W h => bale_any p k W h) w hn
  · exact rest3 p k hp (fun W h => skin_any p k hi W) w hn
end Go.Proofs.YtcoelhpmkhimpaaGreatDoor

namespace Go.Proofs.YtcoelhpmkhimpaaGreatDoor
open Go.RowKit
set_option linter.unusedVariables false
set_option linter.unusedSimpArgs false
def sumTo (l : List Span) (k : Nat) : Span := (l.take k).foldl (fun s x => ⟨s.lo + x.lo, s.hi + x.hi⟩) zspan
theorem sumTo_succ {l : List Span} {k : Nat} {y : Span} (h : l[k]? = some y) : sumTo l (k + 1) = ⟨(sumTo l k).lo + y.lo, (sumTo l k).hi + y.hi⟩ := by
  unfold sumTo
  rw [List.take_add_one, h, Option.toList_some, List.foldl_append]
  rfl
theorem sumTo_is {l : List Span} (hs : ∀ s ∈ l, SpanIs s 0 1000000) : ∀ k, 0 ≤ (sumTo l k).lo ∧ 0 ≤ (sumTo l k).hi ∧ (sumTo l k).lo ≤ k * 1000000 ∧ (sumTo l k).hi ≤ k * 1000000
  | 0 => by simp [sumTo, zspan]
  | k + 1 => by
    have ih := sumTo_is hs k
    cases hk : l[k]? with
    | none =>
      have e : sumTo l (k + 1) = sumTo l k := by
        unfold sumTo
        rw [List.take_add_one, hk]
        simp
      rw [e]
      omega
    | some y =>
      have hy := hs y (List.mem_of_getElem? hk)
      obtain ⟨h1, h2, h3⟩ := hy
      rw [sumTo_succ hk]
      simp only
      omega
set_option maxRecDepth 100000 in
set_option maxHeartbeats 4000000 in
theorem sum_any (a : Option Addr) (n cap : Nat) (l : List Span) (w : World) (hl : SpansAt w a n l) (hn : n ≤ 1000) (hs : ∀ s ∈ l, SpanIs s 0 1000000) :
    Calls Tryz.prog 65 #[.slice a n cap] w fun e w' => e = .returned (sumTo l n).val ∧ Ext w w' := by
  have hx0 := (Ext.refl w).alloc (.cells #[.int .i64 0, .int .i64 0] 23)
  have hp0 := heap_alloc_new w (.cells #[.int .i64 0, .int .i64 0] 23)
  have hb := sumTo_is hs
  have Hl := Lib.hid hl
  have Hs := Lib.hid hs
  have Hx0 := Lib.hid hx0
  have Hp0 := Lib.hid hp0
  have Hb := Lib.hid hb
  clear hl hs hx0 hp0 hb
  go_enter Tryz.func65, Tryz.ntmps65
  go_wp2_with fail
  go_loopw [7] (fun i wr => ∃ k : Nat, k ≤ n ∧ i = .int .i64 k ∧ Ext w wr ∧ wr.heap[w.heap.size]? = some (.cells #[.int .i64 (sumTo l k).lo, .int .i64 (sumTo l k).hi] 23 (0, 0))) (fun i _ => n - (intOf i).toNat)
  case atStart => exact ⟨0, Nat.zero_le _, rfl, Hx0.out, Hp0.out⟩
  case round =>
    obtain ⟨k, hk, rfl, hx, hp⟩ := hrel
    have hbk := Hb.out k
    obtain ⟨p0, p1⟩ := (Ext.refl wr).box hp
    have hpl := heap_lt hp
    have hne : w.heap.size ≠ wr.heap.size := by omega
    have hne2 := Ne.symm hne
    by_cases hlt : k < n
    · obtain ⟨b, off, ⟨z0, z1⟩, rfl, hzk, hb', c0, c1⟩ := (Hl.out.ext hx).get k hlt
      have hbz := Hs.out _ (List.mem_of_getElem? hzk)
      obtain ⟨g1, g2, g3⟩ := hbz
      have hsx := sumTo_succ hzk
      generalize sumTo l k = S at *
      obtain ⟨A, B⟩ := S
      simp only at hbk hsx hp p0 g1 g2 g3 c0 c1 ⊢
      have Hx := Lib.hid hx
      have Hp := Lib.hid hp
      have Hzk := Lib.hid hzk
      have Hsx := Lib.hid hsx
      clear hx hp hzk hsx
      go_wp2_with fail
      go_region
      go_wp2_with fail
      go_roundw
      case rel =>
        refine ⟨k + 1, by omega, by go_num, ?_, ?_⟩
        · exact ((set2_ext Hx.out (Nat.le_refl _) _ _).alloc _).drew
        · rw [Hsx.out]
          exact alloc_heap (set2_box Hp.out _ _) _
      case measure => simp [intOf]; omega
    · obtain rfl : k = n := by omega
      obtain ⟨A, hA⟩ : ∃ A, (sumTo l k).lo = A := ⟨_, rfl⟩
      obtain ⟨B, hB⟩ : ∃ B, (sumTo l k).hi = B := ⟨_, rfl⟩
      rw [hA, hB] at hbk hp
      clear p0 p1
      obtain ⟨p0, p1⟩ := (Ext.refl wr).box hp
      have Hx := Lib.hid hx
      have Hp := Lib.hid hp
      have HA := Lib.hid hA
      have HB := Lib.hid hB
      clear hx hp hA hB
      go_wp2_with fail
      refine bodyPost_ret (results_cell_row rfl _ _ (w.heap.size) 23 #[.int .i64 A, .int .i64 B] (0, 0) _ rfl (set2_box Hp.out _ _) Tryz.underlying23 rfl (by kernel_rfl)) rfl ?_
      exact ⟨ret_val (by unfold Span.val; rw [HA.out, HB.out]), set2_ext Hx.out (Nat.le_refl _) _ _⟩
end Go.Proofs.YtcoelhpmkhimpaaGreatDoor

namespace Go.Proofs.YtcoelhpmkhimpaaGreatDoor
open Go.RowKit
set_option linter.unusedVariables false
set_option linter.unusedSimpArgs false
set_option maxRecDepth 100000 in
theorem lists_any (a1 a2 a3 : Option Addr) (n1 n2 n3 c1 c2 c3 : Nat) (w : World) : Calls Tryz.prog 25 #[.agg #[.slice a1 n1 c1, .slice a2 n2 c2, .slice a3 n3 c3]] w fun e w' => e = .returned (.agg #[.slice a1 n1 c1, .slice a2 n2 c2, .slice a3 n3 c3]) ∧ Ext w w' := by
  go_enter Tryz.func25, Tryz.ntmps25
  go_wp2_with fail
  refine bodyPost_ret (results_cell_row rfl _ _ (w.heap.size + 1) 67 _ (0, 0) _ rfl (alloc_at _ _ _ (by simp)) Tryz.underlying67 rfl (by kernel_rfl)) rfl ?_
  exact ⟨rfl, ((Ext.refl _).alloc _).alloc _⟩
end Go.Proofs.YtcoelhpmkhimpaaGreatDoor

namespace Go.Proofs.YtcoelhpmkhimpaaGreatDoor
open Go.RowKit
set_option linter.unusedVariables false
set_option linter.unusedSimpArgs false
theorem bounded_yes (b : Int) (hb : inB b 0 1000000000 = true) (w : World) : Calls Tryz.prog 31 #[.int .i64 b] w fun e w' => e = .returned (.tuple #[]) ∧ Ext w w' := by
  have Hb := Lib.hid hb
  clear hb
  go_enter Tryz.func31, Tryz.ntmps31
  go_wp2_with (first
    | (go_at_call 21; refine (inL1 (alloc_at _ _ _ (by simp)) Hb.out).mono ?_; rintro e w1 ⟨rfl, hx1⟩; have hy1 := ((Ext.refl w).alloc _).trans hx1)
    | (go_at_call 20; refine (need_yes _ _).mono ?_; rintro e w2 ⟨rfl, hx2⟩))
  go_end0
  exact ⟨rfl, hy1.trans hx2⟩
theorem bounded_no (b : Int) (hb : inB b 0 1000000000 = false) (w : World) : Calls Tryz.prog 31 #[.int .i64 b] w fun e w' => e = stopped 2 ∧ Ext w w' := by
  have Hb := Lib.hid hb
  clear hb
  go_enter Tryz.func31, Tryz.ntmps31
  go_wp2_with (first
    | (go_at_call 21; refine (inL1 (alloc_at _ _ _ (by simp)) Hb.out).mono ?_; rintro e w1 ⟨rfl, hx1⟩; have hy1 := ((Ext.refl w).alloc _).trans hx1)
    | (go_at_call 20; refine (need_no _ _).mono ?_; rintro e w2 ⟨he, hx2⟩; unfold stopped at he; subst he))
  exact ⟨rfl, rfl, hy1.trans hx2⟩
end Go.Proofs.YtcoelhpmkhimpaaGreatDoor

namespace Go.Proofs.YtcoelhpmkhimpaaGreatDoor
open Go.RowKit
set_option linter.unusedVariables false
set_option linter.unusedSimpArgs false
theorem everyP_fn (p : Pack) (q0 : Nat) (w : World) (hq : w.heap[q0]? = some (.cells #[.func (.func 27) #[] #[]] 70 (0, 0))) (hn : NoneAt w) : Calls Tryz.prog 58 #[p.val, .pointer (some ⟨q0, 0, none⟩)] w fun e w' => e = .returned (.bool (!packOk p)) ∧ Ext w w' := by
  have hv := fun W h => valid_any p W h
  generalize packOk p = R at hv ⊢
  obtain ⟨k, ⟨m0, m1⟩, ⟨a0, a1⟩, ⟨b0, b1⟩, ⟨l0, l1⟩, u, d⟩ := p
  unfold Pack.val at hv ⊢
  simp only at hv ⊢
  have hql := heap_lt hq
  have c0 := ((Ext.refl w).box hq).1 0
  have hx0 := (Ext.refl w).alloc (.cells #[.int .u8 k, .int .i64 m0, .int .i64 m1, .int .i64 a0, .int .i64 a1, .int .i64 b0, .int .i64 b1, .int .i64 l0, .int .i64 l1, .int .i64 u, .int .i64 d] 50)
  have Hv := Lib.hid hv
  have Hx0 := Lib.hid hx0
  have Hn := Lib.hid hn
  have Hq := Lib.hid hq
  clear hv hx0 hn hq
  go_enter Tryz.func58, Tryz.ntmps58
  go_wp2_with (go_at_call 27; refine (Hv.out _ (Hn.out.ext Hx0.out)).mono ?_; rintro e w1 ⟨rfl, hx1⟩)
  go_ret
  exact ⟨rfl, Hx0.out.trans hx1⟩
/-! ### over packs, closure 58 -/
set_option maxHeartbeats 400000 in
theorem indexFunc_pack58 (a : Option Addr) (n cap q0 : Nat) (l : List Pack) (p : Pack → Bool) (w : World) (hl : PacksAt w a n l) (hn : n ≤ 1000000000)
    (hp : ∀ o, o ∈ l → ∀ W, Ext w W → Calls Tryz.prog 58 #[o.val, .pointer (some ⟨q0, 0, none⟩)] W fun e W' => e = .returned (.bool (p o)) ∧ Ext W W') :
    Calls Tryz.prog 88 #[.slice a n cap, .func (.func 58) #[] #[.pointer (some ⟨q0, 0, none⟩)]] w fun e w' =>
      e = .returned (.int .i64 (idxI p l)) ∧ Ext w w' := by
  have Hp := Lib.hid hp
  have Hl := Lib.hid hl
  clear hp hl
  go_enter Tryz.func88, Tryz.ntmps88
  go_wp2_with fail
  go_loopw [5, 8] (fun i5 i8 wr => ∃ k : Nat, k ≤ n ∧ i8 = .int .i64 k ∧ Ext w wr ∧ ∀ (j : Nat) (y : Pack), j < k → l[j]? = some y → p y = false) (fun _ i8 _ => n - (intOf i8).toNat)
  case atStart => exact ⟨0, Nat.zero_le _, rfl, Ext.refl _, fun j y h => by omega⟩
  case round =>
    obtain ⟨k, hk, rfl, hx, hall⟩ := hrel
    have Hall := Lib.hid hall
    clear hall
    by_cases hlt : k < n
    · obtain ⟨b, off, x, rfl, hxk, hb, c0, c1, c2, c3, c4, c5, c6, c7, c8, c9, c10⟩ := (Hl.out.ext hx).get k hlt
      have Hxk := Lib.hid hxk
      clear hxk
      have hc := Hp.out x (List.mem_of_getElem? Hxk.out) wr hx
      have Hc := Lib.hid hc
      clear hc
      cases hpx : p x with
      | true =>
        have Hpx := Lib.hid hpx
        rw [hpx] at Hc
        clear hpx
        go_wp2_with (go_at_call 58; refine Hc.out.mono ?_; rintro e w' ⟨rfl, hb⟩)
        go_ret
        exact ⟨ret_int (idxI_some Hxk.out Hpx.out Hall.out).symm, hx.trans (by assumption)⟩
      | false =>
        have Hpx := Lib.hid hpx
        rw [hpx] at Hc
        clear hpx
        go_wp2_with (go_at_call 58; refine Hc.out.mono ?_; rintro e w' ⟨rfl, hb⟩)
        go_roundw
        case rel => exact ⟨k + 1, by omega, by go_num, hx.trans (by assumption), fun j y hj hy => by
            rcases Nat.lt_or_ge j k with h | h
            · exact Hall.out j y h hy
            · have e : j = k := by omega
              subst e
              have := Hxk.out
              rw [hy] at this
              cases this
              exact Hpx.out⟩
        case measure => simp [intOf]; omega
    · go_wp2_with fail
      go_ret
      refine ⟨ret_int ?_, hx⟩
      refine (idxI_none (fun j y hy => Hall.out j y ?_ hy)).symm
      have h1 := Hl.out.1
      rcases Nat.lt_or_ge j l.length with h | h
      · omega
      · simp [List.getElem?_eq_none h] at hy

theorem contains_pack58 (a : Option Addr) (n cap q0 : Nat) (l : List Pack) (p : Pack → Bool) (w : World) (hl : PacksAt w a n l) (hn : n ≤ 1000000000)
    (hp : ∀ o, o ∈ l → ∀ W, Ext w W → Calls Tryz.prog 58 #[o.val, .pointer (some ⟨q0, 0, none⟩)] W fun e W' => e = .returned (.bool (p o)) ∧ Ext W W') :
    Calls Tryz.prog 57 #[.slice a n cap, .func (.func 58) #[] #[.pointer (some ⟨q0, 0, none⟩)]] w fun e w' =>
      e = .returned (.bool (l.any p)) ∧ Ext w w' := by
  have Hc := Lib.hid (indexFunc_pack58 a n cap q0 l p w hl hn hp)
  clear hp hl
  go_enter Tryz.func57, Tryz.ntmps57
  go_wp2_with (go_at_call 88; refine Hc.out.mono ?_; rintro e w' ⟨rfl, hb⟩)
  go_ret
  exact ⟨ret_bool (idxI_ge p l), by assumption⟩



theorem everyP_any (a : Option Addr) (n cap : Nat) (l : List Pack) (w : World) (hl : PacksAt w a n l) (hn : n ≤ 1000) (h0 : NoneAt w) :
    Calls Tryz.prog 26 #[.slice a n cap, .func (.func 27) #[] #[]] w fun e w' => e = .returned (.bool (l.all packOk)) ∧ Ext w w' := by
  have hx1 : Ext w (w.alloc (.cells #[.func (.func 27) #[] #[]] 70)) := (Ext.refl _).alloc _
  have hb1 := heap_alloc_new w (.cells #[.func (.func 27) #[] #[]] 70)
  have hc := contains_pack58 a n cap w.heap.size l (fun x => !packOk x) _ (hl.ext hx1) (by omega) (fun o _ W hW => everyP_fn o _ W (hW.heap hb1) ((h0.ext hx1).ext hW))
  have Hc := Lib.hid hc
  have Hx1 := Lib.hid hx1
  clear hc hx1
  clear hl hb1 h0
  go_enter Tryz.func26, Tryz.ntmps26
  go_wp2_with (go_at_call 57; refine Hc.out.mono ?_; rintro e w3 ⟨rfl, hx3⟩)
  go_ret
  exact ⟨ret_bool (any_not packOk l), Hx1.out.trans hx3⟩
end Go.Proofs.YtcoelhpmkhimpaaGreatDoor

namespace Go.Proofs.YtcoelhpmkhimpaaGreatDoor
open Go.RowKit
set_option linter.unusedVariables false
set_option linter.unusedSimpArgs false
theorem rise_fn (x last n : Int) (g h : Nat) (w : World) (hg : w.heap[g]? = some (.cells #[.int .i64 last] 3 (0, 0))) (hh : w.heap[h]? = some (.cells #[.int .i64 n] 3 (0, 0))) (hgh : h ≠ g) (hla : -1 ≤ last ∧ last ≤ 1000000) (hn : 0 ≤ n ∧ n ≤ 1000000) :
    Calls Tryz.prog 85 #[.int .i64 x, .pointer (some ⟨g, 0, none⟩), .pointer (some ⟨h, 0, none⟩)] w fun e w' => e = .returned (.bool (inB x (last + 1) (n - 1))) ∧ ∃ w1, Ext w w1 ∧ w' = w1.setCell ⟨g, 0, none⟩ (.int .i64 x) := by
  have c0 := ((Ext.refl w).box hg).1 0
  have d0 := ((Ext.refl w).box hh).1 0
  have hgl := heap_lt hg
  have hhl := heap_lt hh
  obtain ⟨P, hP⟩ : ∃ P, inB x (last + 1) (n - 1) = P := ⟨_, rfl⟩
  rw [hP]
  have Hg := Lib.hid hg
  have HP := Lib.hid hP
  clear hg hP
  clear hh
  go_enter Tryz.func85, Tryz.ntmps85
  go_wp2_with (go_at_call 21; refine (inL1 (alloc_at _ _ _ (by simp)) HP.out).mono ?_; rintro e w1 ⟨rfl, hx1⟩; have hy1 := ((Ext.refl w).alloc _).trans hx1; clear c0; obtain ⟨c0, c1⟩ := (Ext.refl w1).box (hy1.heap Hg.out))
  go_ret
  exact ⟨rfl, _, hy1, rfl⟩
end Go.Proofs.YtcoelhpmkhimpaaGreatDoor

namespace Go.Proofs.YtcoelhpmkhimpaaGreatDoor
open Go.RowKit
set_option linter.unusedVariables false
set_option linter.unusedSimpArgs false
theorem jolt_fn (j : Jolt) (g n c : Nat) (a : Option Addr) (w : World) (hg : w.heap[g]? = some (.cells #[.slice a n c] 38 (0, 0))) (hn : n ≤ 1000) :
    Calls Tryz.prog 23 #[j.val, .pointer (some ⟨g, 0, none⟩)] w fun e w' => e = .returned (.bool (inB j.tie 0 ((n : Int) - 1) && inB j.hurt 0 100000)) ∧ Ext w w' := by
  obtain ⟨t, u⟩ := j
  unfold Jolt.val
  simp only
  have c0 := ((Ext.refl w).box hg).1 0
  have hgl := heap_lt hg
  have hx0 := (Ext.refl w).alloc (.cells #[.int .i64 t, .int .i64 u] 64)
  have hb0 := heap_alloc_new w (.cells #[.int .i64 t, .int .i64 u] 64)
  obtain ⟨P, hP⟩ : ∃ P, inB t 0 ((n : Int) - 1) = P := ⟨_, rfl⟩
  obtain ⟨Q, hQ⟩ : ∃ Q, inB u 0 100000 = Q := ⟨_, rfl⟩
  rw [hP, hQ]
  have HP := Lib.hid hP
  have HQ := Lib.hid hQ
  have Hx0 := Lib.hid hx0
  have Hb0 := Lib.hid hb0
  clear hP hQ hx0 hb0
  clear hg
  go_enter Tryz.func23, Tryz.ntmps23
  go_wp2_with (first
    | (have qq := hx1; clear qq; go_at_call 21; refine (inL1 (alloc_at _ _ _ (by simp)) HQ.out).mono ?_; rintro e w2 ⟨rfl, hx2⟩; have hy2 := (hy1.alloc _).trans hx2)
    | (go_at_call 21; refine (inL1 (alloc_at _ _ _ (by simp)) HP.out).mono ?_; rintro e w1 ⟨rfl, hx1⟩; have hy1 := (Hx0.out.alloc _).trans hx1; have hb1 := (((Ext.refl _).alloc _).trans hx1).heap Hb0.out; have hbl := heap_lt hb1; obtain ⟨y0, _⟩ := (Ext.refl w1).box hb1))
  all_goals go_ret
  all_goals refine ⟨ret_bool (by clear HP HQ Hx0 Hb0 hy1 y0; simp [*]), ?_⟩
  all_goals first | exact hy2 | exact hy1
end Go.Proofs.YtcoelhpmkhimpaaGreatDoor

namespace Go.Proofs.YtcoelhpmkhimpaaGreatDoor
open Go.RowKit
set_option linter.unusedVariables false
set_option linter.unusedSimpArgs false
def joltOk (n : Nat) (j : Jolt) : Bool := inB j.tie 0 ((n : Int) - 1) && inB j.hurt 0 100000
theorem everyJ_fn (j : Jolt) (q0 g n c : Nat) (a : Option Addr) (w : World) (hq : w.heap[q0]? = some (.cells #[.func (.func 23) #[] #[.pointer (some ⟨g, 0, none⟩)]] 65 (0, 0))) (hg : w.heap[g]? = some (.cells #[.slice a n c] 38 (0, 0))) (hn : n ≤ 1000) :
    Calls Tryz.prog 56 #[j.val, .pointer (some ⟨q0, 0, none⟩)] w fun e w' => e = .returned (.bool (!joltOk n j)) ∧ Ext w w' := by
  have hv := fun W h => jolt_fn j g n c a W h hn
  rw [show joltOk n j = (inB j.tie 0 ((n : Int) - 1) && inB j.hurt 0 100000) from rfl]
  generalize (inB j.tie 0 ((n : Int) - 1) && inB j.hurt 0 100000) = R at hv ⊢
  obtain ⟨t, u⟩ := j
  unfold Jolt.val at hv ⊢
  simp only at hv ⊢
  have hql := heap_lt hq
  have c0 := ((Ext.refl w).box hq).1 0
  have hx0 := (Ext.refl w).alloc (.cells #[.int .i64 t, .int .i64 u] 64)
  have Hv := Lib.hid hv
  have Hx0 := Lib.hid hx0
  have Hg := Lib.hid hg
  have Hq := Lib.hid hq
  clear hv hx0 hg hq
  go_enter Tryz.func56, Tryz.ntmps56
  go_wp2_with (go_at_call 23; refine (Hv.out _ (Hx0.out.heap Hg.out)).mono ?_; rintro e w1 ⟨rfl, hx1⟩)
  go_ret
  exact ⟨rfl, Hx0.out.trans hx1⟩
/-! ### over jolts, closure 56 -/
set_option maxHeartbeats 400000 in
theorem indexFunc_jolt56 (a : Option Addr) (n cap q0 : Nat) (l : List Jolt) (p : Jolt → Bool) (w : World) (hl : JoltsAt w a n l) (hn : n ≤ 1000000000)
    (hp : ∀ o, o ∈ l → ∀ W, Ext w W → Calls Tryz.prog 56 #[o.val, .pointer (some ⟨q0, 0, none⟩)] W fun e W' => e = .returned (.bool (p o)) ∧ Ext W W') :
    Calls Tryz.prog 87 #[.slice a n cap, .func (.func 56) #[] #[.pointer (some ⟨q0, 0, none⟩)]] w fun e w' =>
      e = .returned (.int .i64 (idxI p l)) ∧ Ext w w' := by
  have Hp := Lib.hid hp
  have Hl := Lib.hid hl
  clear hp hl
  go_enter Tryz.func87, Tryz.ntmps87
  go_wp2_with fail
  go_loopw [5, 8] (fun i5 i8 wr => ∃ k : Nat, k ≤ n ∧ i8 = .int .i64 k ∧ Ext w wr ∧ ∀ (j : Nat) (y : Jolt), j < k → l[j]? = some y → p y = false) (fun _ i8 _ => n - (intOf i8).toNat)
  case atStart => exact ⟨0, Nat.zero_le _, rfl, Ext.refl _, fun j y h => by omega⟩
  case round =>
    obtain ⟨k, hk, rfl, hx, hall⟩ := hrel
    have Hall := Lib.hid hall
    clear hall
    by_cases hlt : k < n
    · obtain ⟨b, off, x, rfl, hxk, hb, c0, c1⟩ := (Hl.out.ext hx).get k hlt
      have Hxk := Lib.hid hxk
      clear hxk
      have hc := Hp.out x (List.mem_of_getElem? Hxk.out) wr hx
      have Hc := Lib.hid hc
      clear hc
      cases hpx : p x with
      | true =>
        have Hpx := Lib.hid hpx
        rw [hpx] at Hc
        clear hpx
        go_wp2_with (go_at_call 56; refine Hc.out.mono ?_; rintro e w' ⟨rfl, hb⟩)
        go_ret
        exact ⟨ret_int (idxI_some Hxk.out Hpx.out Hall.out).symm, hx.trans (by assumption)⟩
      | false =>
        have Hpx := Lib.hid hpx
        rw [hpx] at Hc
        clear hpx
        go_wp2_with (go_at_call 56; refine Hc.out.mono ?_; rintro e w' ⟨rfl, hb⟩)
        go_roundw
        case rel => exact ⟨k + 1, by omega, by go_num, hx.trans (by assumption), fun j y hj hy => by
            rcases Nat.lt_or_ge j k with h | h
            · exact Hall.out j y h hy
            · have e : j = k := by omega
              subst e
              have := Hxk.out
              rw [hy] at this
              cases this
              exact Hpx.out⟩
        case measure => simp [intOf]; omega
    · go_wp2_with fail
      go_ret
      refine ⟨ret_int ?_, hx⟩
      refine (idxI_none (fun j y hy => Hall.out j y ?_ hy)).symm
      have h1 := Hl.out.1
      rcases Nat.lt_or_ge j l.length with h | h
      · omega
      · simp [List.getElem?_eq_none h] at hy

theorem contains_jolt56 (a : Option Addr) (n cap q0 : Nat) (l : List Jolt) (p : Jolt → Bool) (w : World) (hl : JoltsAt w a n l) (hn : n ≤ 1000000000)
    (hp : ∀ o, o ∈ l → ∀ W, Ext w W → Calls Tryz.prog 56 #[o.val, .pointer (some ⟨q0, 0, none⟩)] W fun e W' => e = .returned (.bool (p o)) ∧ Ext W W') :
    Calls Tryz.prog 55 #[.slice a n cap, .func (.func 56) #[] #[.pointer (some ⟨q0, 0, none⟩)]] w fun e w' =>
      e = .returned (.bool (l.any p)) ∧ Ext w w' := by
  have Hc := Lib.hid (indexFunc_jolt56 a n cap q0 l p w hl hn hp)
  clear hp hl
  go_enter Tryz.func55, Tryz.ntmps55
  go_wp2_with (go_at_call 87; refine Hc.out.mono ?_; rintro e w' ⟨rfl, hb⟩)
  go_ret
  exact ⟨ret_bool (idxI_ge p l), by assumption⟩




theorem everyJ_any (a : Option Addr) (n cap : Nat) (l : List Jolt) (g tn tc : Nat) (ta : Option Addr) (w : World) (hl : JoltsAt w a n l) (hn : n ≤ 1000) (hg : w.heap[g]? = some (.cells #[.slice ta tn tc] 38 (0, 0))) (htn : tn ≤ 1000) :
    Calls Tryz.prog 22 #[.slice a n cap, .func (.func 23) #[] #[.pointer (some ⟨g, 0, none⟩)]] w fun e w' => e = .returned (.bool (l.all (joltOk tn))) ∧ Ext w w' := by
  have hx1 : Ext w (w.alloc (.cells #[.func (.func 23) #[] #[.pointer (some ⟨g, 0, none⟩)]] 65)) := (Ext.refl _).alloc _
  have hb1 := heap_alloc_new w (.cells #[.func (.func 23) #[] #[.pointer (some ⟨g, 0, none⟩)]] 65)
  have hc := contains_jolt56 a n cap w.heap.size l (fun x => !joltOk tn x) _ (hl.ext hx1) (by omega) (fun o _ W hW => everyJ_fn o _ g tn tc ta W (hW.heap hb1) ((hx1.trans hW).heap hg) htn)
  have Hc := Lib.hid hc
  have Hx1 := Lib.hid hx1
  clear hc hx1
  clear hl hb1 hg
  go_enter Tryz.func22, Tryz.ntmps22
  go_wp2_with (go_at_call 55; refine Hc.out.mono ?_; rintro e w3 ⟨rfl, hx3⟩)
  go_ret
  exact ⟨ret_bool (any_not (joltOk tn) l), Hx1.out.trans hx3⟩
end Go.Proofs.YtcoelhpmkhimpaaGreatDoor

namespace Go.Proofs.YtcoelhpmkhimpaaGreatDoor
open Go.RowKit
set_option linter.unusedVariables false
set_option linter.unusedSimpArgs false

theorem Owns.empty' {w : World} {base b cap : Nat} {e : TypeId} {sz : Nat} {cur : Array Value} (hb : w.heap[b]? = some (.cells cur e (0, 0))) (hB : base ≤ b) (hc : cur.size = cap * sz) (hm : cap ≤ maxLen) : Owns w base e sz (.slice (some ⟨b, 0, none⟩) 0 cap) [] :=
  ⟨⟨by simp, .inr ⟨b, cap, cur, rfl, hB, hb, Nat.zero_le _, hm, hc, by simp⟩⟩, by simp⟩
def GrowPost (w : World) (e : Ending) (w' : World) : Prop := ∃ b cap, e = .returned (.slice (some ⟨b, 0, none⟩) 0 cap) ∧ Ext w w' ∧ Owns w' w.heap.size 3 1 (.slice (some ⟨b, 0, none⟩) 0 cap) []
set_option maxRecDepth 100000 in
theorem grow_any (n : Nat) (w : World) (h1 : 1 ≤ n) (hn : n ≤ 100000) : Calls Tryz.prog 97 #[.slice none 0 0, .int .i64 n] w (GrowPost w) := by
  obtain ⟨i, hi, hz, hs, hb⟩ := info_parts info3w
  have happ := Lib.run_append_nil_zeros (P := Tryz.prog) w 29 3 29 3 i (.int .i64 0) .i64 .i64 Tryz.underlying29 Tryz.underlying3 hi hz n (by omega) (by omega) (by omega) (by rw [hb]; omega)
  have hge : n ≤ grownCap w n 0 3 := grownCap_ge w _ 0 3
  have hle : grownCap w n 0 3 ≤ maxLen := grownCap_le_maxLen w _ 0 3 (by unfold maxLen; omega)
  generalize grownCap w n 0 3 = cap at *
  obtain ⟨Z, hZ⟩ : ∃ Z, (Builtin.zeroCells (Value.int .i64 0).cells n ++ Builtin.zeroCells (Value.int .i64 0).cells (cap - n)) = Z := ⟨_, rfl⟩
  have hZs : Z.size = cap * 1 := by
    rw [← hZ]
    simp [size_zeroCells, Value.cells]
    omega
  rw [hZ] at happ
  have hnB : decide ((n : Int) < 0) = false := decide_eq_false (by omega)
  have hnB2 : decide (0 < (n : Int)) = true := decide_eq_true (by omega)
  have hcap : (cap : Int) ≤ 9223372036854775807 := by unfold maxLen at hle; omega
  have Hle := Lib.hid hle
  have HZs := Lib.hid hZs
  clear hle hZs
  clear hZ
  go_enter Tryz.func97, Tryz.ntmps97
  go_wp2_with (at_builtin; refine Lib.wpList_append_run _ rfl _ _ _ _ rfl _ _ rfl rfl _ _ happ ?_)
  go_ret
  exact ⟨_, _, rfl, ((Ext.refl w).drew).alloc _, Owns.empty' (heap_alloc_new w.drew _) (Nat.le_refl _) HZs.out Hle.out⟩
theorem grow_zero (w : World) : Calls Tryz.prog 97 #[.slice none 0 0, .int .i64 0] w fun e w' => e = .returned (.slice none 0 0) ∧ w' = w := by
  go_enter Tryz.func97, Tryz.ntmps97
  go_wp2_with fail
  go_ret
  exact ⟨rfl, rfl⟩
/-- a slice of lists of halves -/
def ListsAt (w : World) (a : Option Addr) (n : Nat) (ls : List (List Int)) : Prop :=
  ls.length = n ∧ (0 < n → ∃ b off, a = some ⟨b, off, none⟩ ∧ ∀ k r, ls[k]? = some r → ∃ ka kn kc, Cells w b (off + k * 1) [.slice ka kn kc] ∧ kn ≤ kc ∧ kc ≤ maxLen ∧ IntsAt .i64 w ka kn r)
theorem ListsAt.ext {w w' : World} {a : Option Addr} {n : Nat} {l : List (List Int)} (h : ListsAt w a n l) (e : Ext w w') : ListsAt w' a n l :=
  ⟨h.1, fun hn => let ⟨b, off, ha, hc⟩ := h.2 hn; ⟨b, off, ha, fun k f hf => let ⟨ka, kn, kc, h1, h2, h3, h4⟩ := hc k f hf; ⟨ka, kn, kc, h1.ext e, h2, h3, h4.ext e⟩⟩⟩
theorem ListsAt.get {w : World} {a : Option Addr} {n : Nat} {l : List (List Int)} (h : ListsAt w a n l) (k : Nat) (hk : k < n) :
    ∃ b off x ka kn kc, a = some ⟨b, off, none⟩ ∧ l[k]? = some x ∧ b < w.heap.size ∧ w.cell? ⟨b, off + k, none⟩ = some (.slice ka kn kc) ∧ kn ≤ kc ∧ kc ≤ maxLen ∧ IntsAt .i64 w ka kn x := by
  obtain ⟨hl, h⟩ := h
  obtain ⟨b, off, ha, hc⟩ := h (by omega)
  obtain ⟨x, hx⟩ : ∃ x, l[k]? = some x := ⟨l[k], by simp⟩
  obtain ⟨ka, kn, kc, h1, h2, h3, h4⟩ := hc k x hx
  have h0 := h1 0 _ rfl
  simp only [Nat.mul_one, Nat.add_zero] at h0
  exact ⟨b, off, x, ka, kn, kc, ha, hx, block_lt_of_cell h0, h0, h2, h3, h4⟩
theorem flat_take_succ {ls : List (List Int)} {k : Nat} {x : List Int} (h : ls[k]? = some x) : (ls.take (k + 1)).flatten = (ls.take k).flatten ++ x := by
  rw [List.take_add_one, h]
  simp
theorem flat_take_le (ls : List (List Int)) (k : Nat) : (ls.take k).flatten.length ≤ ls.flatten.length := by
  have : ls.flatten = (ls.take k).flatten ++ (ls.drop k).flatten := by rw [← List.flatten_append, List.take_append_drop]
  rw [this]
  simp
theorem intRows_len (l : List Int) : (intRows .i64 l).length = l.length := List.length_map ..
/-- the first k lists, joined -/
def flatTo (ls : List (List Int)) (k : Nat) : List Int := (ls.take k).flatten
def lenTo (ls : List (List Int)) (k : Nat) : Nat := (ls.take k).flatten.length
def ConcatPost (l : List Int) (w : World) (e : Ending) (w' : World) : Prop := ∃ a cap, e = .returned (.slice a l.length cap) ∧ Ext w w' ∧ IntsAt .i64 w' a l.length l ∧ l.length ≤ cap ∧ cap ≤ maxLen ∧ From w.heap.size a
set_option maxRecDepth 100000 in
set_option maxHeartbeats 4000000 in
theorem concat_any (a : Option Addr) (n cap : Nat) (ls : List (List Int)) (w : World) (hl : ListsAt w a n ls) (hn : n ≤ 1000) (hN : ls.flatten.length ≤ 1000) : Calls Tryz.prog 66 #[.slice a n cap] w (ConcatPost ls.flatten w) := by
  have hll := hl.1
  have Hl := Lib.hid hl
  have Hll := Lib.hid hll
  have HN := Lib.hid hN
  clear hl hll hN
  go_enter Tryz.func66, Tryz.ntmps66
  go_upto_region 3 with fail
  go_loopw [3, 11] (fun s i wr => ∃ k : Nat, k ≤ n ∧ i = .int .i64 k ∧ s = .int .i64 ((lenTo ls k : Nat) : Int) ∧ wr = w) (fun _ i _ => n - (intOf i).toNat)
  case atStart => exact ⟨0, Nat.zero_le _, rfl, rfl, rfl⟩
  case round =>
    obtain ⟨k, hk, rfl, rfl, rfl⟩ := hrel
    by_cases hlt : k < n
    · have hltB : decide ((k : Int) < (n : Int)) = true := by simp; omega
      obtain ⟨lb, lo, x, ka, kn, kc, rfl, hx, hlb, c0, h1, h2, h3⟩ := Hl.out.get k hlt
      have hst : lenTo ls (k + 1) = lenTo ls k + kn := by unfold lenTo; rw [flat_take_succ hx, List.length_append, h3.1]
      have hle : lenTo ls (k + 1) ≤ ls.flatten.length := flat_take_le ls (k + 1)
      have hN := HN.out
      generalize lenTo ls k = S at *
      have hbd : S + kn ≤ 1000 := by omega
      have hsB : decide ((S : Int) + (kn : Int) < 0) = false := decide_eq_false (by omega)
      unfold maxLen at h2
      have Hst := Lib.hid hst
      clear hst
      clear hx h3
      go_wp2_with fail
      go_roundw
      case rel => exact ⟨k + 1, by omega, by go_num, by rw [Hst.out]; go_num, trivial⟩
      case measure => simp [intOf]; omega
    · have hltB : decide ((k : Int) < (n : Int)) = false := by simp; omega
      obtain rfl : n = k := by omega
      have hall : lenTo ls n = ls.flatten.length := by unfold lenTo; rw [List.take_of_length_le (by have := Hll.out; omega)]
      obtain ⟨N, hNN⟩ : ∃ N, lenTo ls n = N := ⟨_, rfl⟩
      rw [hNN] at hall ⊢
      obtain ⟨w0, rfl⟩ : ∃ w0 : World, w0 = wr := ⟨_, rfl⟩
      have hN := HN.out
      have key : Calls Tryz.prog 97 #[.slice none 0 0, .int .i64 (N : Int)] w0 fun e w' => ∃ v, e = .returned v ∧ Ext w0 w' ∧ Owns w' w0.heap.size 3 1 v [] := by
        by_cases hz : N = 0
        · rw [hz]
          exact (grow_zero w0).mono fun e w' ⟨h1, h2⟩ => by subst h2; exact ⟨_, h1, Ext.refl _, Owns.nil _ _ _ _⟩
        · exact (grow_any _ w0 (by omega) (by omega)).mono fun e w' ⟨b, c, h1, h2, h3⟩ => ⟨_, h1, h2, h3⟩
      have Key := Lib.hid key
      clear key
      clear hall hN hNN
      go_upto_region 11 with (go_at_call 97; refine Key.out.mono ?_; rintro e w1 ⟨v1, rfl, hx1, ho1⟩)
      clear Key
      obtain ⟨va, vc, hv1, _, _, _, _⟩ := ho1.slAt
      rw [List.length_nil] at hv1
      subst hv1
      have Hx1 := Lib.hid hx1
      have Ho1 := Lib.hid ho1
      clear hx1 ho1
      go_loopw [6, 27] (fun v i wr => ∃ k : Nat, k ≤ n ∧ i = .int .i64 k ∧ Ext w0 wr ∧ Owns wr w0.heap.size 3 1 v (intRows .i64 (flatTo ls k))) (fun _ i _ => n - (intOf i).toNat)
      case atStart => exact ⟨0, Nat.zero_le _, rfl, Hx1.out, Ho1.out⟩
      case round =>
        clear Hx1 Ho1
        obtain ⟨k, hk, rfl, hx, how⟩ := hrel
        obtain ⟨va, vc, hv, _, hvc, hvm, _⟩ := how.slAt
        subst hv
        rw [intRows_len] at how hvc ⊢
        by_cases hlt : k < n
        · have hltB : decide ((k : Int) < (n : Int)) = true := by simp; omega
          obtain ⟨lb, lo, x, ka, kn, kc, rfl, hxk, hlb, c0, h1, h2, h3⟩ := (Hl.out.ext hx).get k hlt
          have hft : flatTo ls (k + 1) = flatTo ls k ++ x := flat_take_succ hxk
          have hst : (flatTo ls (k + 1)).length = (flatTo ls k).length + kn := by rw [hft, List.length_append, h3.1]
          have hle : (flatTo ls (k + 1)).length ≤ ls.flatten.length := flat_take_le ls (k + 1)
          have hsrc := h3.src
          have hrl : (intRows .i64 x).length = kn := by rw [intRows_len]; exact h3.1
          have hnx : intRows .i64 (flatTo ls (k + 1)) = intRows .i64 (flatTo ls k) ++ intRows .i64 x := by rw [hft, intRows_append]
          have hsz := hx.size
          have hpl := intRows_len (flatTo ls k)
          unfold maxLen at h2
          have Hsrc := Lib.hid hsrc
          have Hrl := Lib.hid hrl
          have Hnx := Lib.hid hnx
          have How := Lib.hid how
          have Hx := Lib.hid hx
          have Hpl := Lib.hid hpl
          have Hst := Lib.hid hst
          clear hsrc hrl hnx how hx hpl hst
          clear hxk h3 hft
          go_wp2_with (at_builtin; refine wpList_app elem34 _ rfl (.tmp 31) (.tmp 32) rfl w0.heap.size _ (intRows .i64 (flatTo ls k)) rfl How.out ka kn kc (intRows .i64 x) rfl Hrl.out Hsrc.out (intRows_row _ _) ?_ ?_ ?_)
          · rw [Hpl.out]
            have := HN.out
            have := Hst.out
            omega
          · exact hsz
          · intro v6 w6 ho6 hg6 _
            rw [← Hnx.out] at ho6
            have hx6 := Hx.out.app How.out hg6
            obtain ⟨va6, vc6, hv6, _, _, _, _⟩ := ho6.slAt
            rw [intRows_len] at hv6
            subst hv6
            have Ho6 := Lib.hid ho6
            have Hx6 := Lib.hid hx6
            clear ho6 hx6
            clear hg6
            go_wp2_with fail
            go_roundw
            case rel => exact ⟨k + 1, by omega, by go_num, Hx6.out, Ho6.out⟩
            case measure => simp [intOf]; omega
        · have hltB : decide ((k : Int) < (n : Int)) = false := by simp; omega
          obtain rfl : n = k := by omega
          have hall : flatTo ls n = ls.flatten := by unfold flatTo; rw [List.take_of_length_le (by have := Hll.out; omega)]
          obtain ⟨wa, wc, e, hf, _, _, hh⟩ := ints_of_owns how
          cases e
          have Hall := Lib.hid hall
          have Hx := Lib.hid hx
          have Hh := Lib.hid hh
          have Hf := Lib.hid hf
          clear hall hx hh hf
          go_wp2_with fail
          go_ret
          rw [← Hall.out]
          exact ⟨_, _, rfl, Hx.out, Hh.out, hvc, hvm, Hf.out⟩
end Go.Proofs.YtcoelhpmkhimpaaGreatDoor

namespace Go.Proofs.YtcoelhpmkhimpaaGreatDoor
open Go.RowKit
set_option linter.unusedVariables false
set_option linter.unusedSimpArgs false
/-- the three places of a load -/
structure TiedAt (w : World) (a1 a2 a3 : Option Addr) (n1 n2 n3 c1 c2 c3 : Nat) (t : Tied) : Prop where
  left : IntsAt .i64 w a1 n1 t.left
  right : IntsAt .i64 w a2 n2 t.right
  top : IntsAt .i64 w a3 n3 t.top
  cl : n1 ≤ c1 ∧ c1 ≤ maxLen
  cr : n2 ≤ c2 ∧ c2 ≤ maxLen
  ct : n3 ≤ c3 ∧ c3 ≤ maxLen
theorem TiedAt.ext {w w' : World} {a1 a2 a3 : Option Addr} {n1 n2 n3 c1 c2 c3 : Nat} {t : Tied} (h : TiedAt w a1 a2 a3 n1 n2 n3 c1 c2 c3 t) (e : Ext w w') : TiedAt w' a1 a2 a3 n1 n2 n3 c1 c2 c3 t := ⟨h.left.ext e, h.right.ext e, h.top.ext e, h.cl, h.cr, h.ct⟩
theorem TiedAt.len {w : World} {a1 a2 a3 : Option Addr} {n1 n2 n3 c1 c2 c3 : Nat} {t : Tied} (h : TiedAt w a1 a2 a3 n1 n2 n3 c1 c2 c3 t) : (allOf t).length = n1 + n2 + n3 := by
  unfold allOf
  rw [List.length_append, List.length_append, h.left.1, h.right.1, h.top.1]
theorem tied_lists {w : World} {b : Nat} {a1 a2 a3 : Option Addr} {n1 n2 n3 c1 c2 c3 : Nat} {t : Tied} (h : TiedAt w a1 a2 a3 n1 n2 n3 c1 c2 c3 t) (hb : w.heap[b]? = some (.cells #[.slice a1 n1 c1, .slice a2 n2 c2, .slice a3 n3 c3] 29 (0, 0))) :
    ListsAt w (some ⟨b, 0, none⟩) 3 [t.left, t.right, t.top] := by
  refine ⟨rfl, fun _ => ⟨b, 0, rfl, fun k r hk => ?_⟩⟩
  have hc : ∀ (k : Nat) (v : Value), (#[Value.slice a1 n1 c1, .slice a2 n2 c2, .slice a3 n3 c3] : Array Value)[k]? = some v → Cells w b (0 + k * 1) [v] := by
    intro k v hv j u hu
    have hj : j = 0 := by
      have := (List.getElem?_eq_some_iff.1 hu).1
      simp at this
      exact this
    subst hj
    simp only [List.getElem?_cons_zero, Option.some.injEq] at hu
    subst hu
    rw [cell_of_row w b _ _ 29 (0, 0) hb]
    simpa using hv
  match k, hk with
  | 0, hk => cases hk; exact ⟨_, _, _, hc 0 _ rfl, h.cl.1, h.cl.2, h.left⟩
  | 1, hk => cases hk; exact ⟨_, _, _, hc 1 _ rfl, h.cr.1, h.cr.2, h.right⟩
  | 2, hk => cases hk; exact ⟨_, _, _, hc 2 _ rfl, h.ct.1, h.ct.2, h.top⟩
  | k + 3, hk => simp at hk
theorem all_any (a1 a2 a3 : Option Addr) (n1 n2 n3 c1 c2 c3 : Nat) (t : Tied) (w : World) (h : TiedAt w a1 a2 a3 n1 n2 n3 c1 c2 c3 t) (hn : (allOf t).length ≤ 1000) : Calls Tryz.prog 34 #[.agg #[.slice a1 n1 c1, .slice a2 n2 c2, .slice a3 n3 c3]] w (ConcatPost (allOf t) w) := by
  have hx0 : Ext w ((w.alloc (.cells #[.slice a1 n1 c1, .slice a2 n2 c2, .slice a3 n3 c3] 31)).alloc (.cells #[.slice a1 n1 c1, .slice a2 n2 c2, .slice a3 n3 c3] 29)) := ((Ext.refl w).alloc _).alloc _
  have hfl : [t.left, t.right, t.top].flatten = allOf t := by simp [allOf]
  have hc := concat_any (some ⟨w.heap.size + 1, 0, none⟩) 3 3 [t.left, t.right, t.top] _ (tied_lists (h.ext hx0) (alloc_at _ _ _ (by simp))) (by omega) (by rw [hfl]; exact hn)
  rw [hfl] at hc
  have Hc := Lib.hid hc
  have Hx0 := Lib.hid hx0
  clear hc hx0
  clear h hn hfl
  go_enter Tryz.func34, Tryz.ntmps34
  go_wp2_with (go_at_call 66; refine Hc.out.mono ?_; rintro e w3 ⟨va, vc, rfl, hx3, hi, h1, h2, hf⟩)
  go_ret
  exact ⟨va, vc, rfl, Hx0.out.trans hx3, hi, h1, h2, fun x hx => Nat.le_trans (by simp; omega) (hf x hx)⟩
end Go.Proofs.YtcoelhpmkhimpaaGreatDoor

namespace Go.Proofs.YtcoelhpmkhimpaaGreatDoor
open Go.RowKit
set_option linter.unusedVariables false
set_option linter.unusedSimpArgs false
/-- the boxes of a test whether numbers rise -/
structure RiseAt (w0 : World) (g h q : Nat) (n last : Int) (W : World) : Prop where
  ext : Ext w0 W
  lo : w0.heap.size ≤ g
  gh : h ≠ g
  gq : q ≠ g
  gs : W.heap[g]? = some (.cells #[.int .i64 last] 3 (0, 0))
  hs : W.heap[h]? = some (.cells #[.int .i64 n] 3 (0, 0))
  qs : W.heap[q]? = some (.cells #[.func (.func 85) #[] #[.pointer (some ⟨g, 0, none⟩), .pointer (some ⟨h, 0, none⟩)]] 88 (0, 0))
theorem RiseAt.next {w0 : World} {g h q : Nat} {n last : Int} {W V : World} (r : RiseAt w0 g h q n last W) (hx : Ext W V) : RiseAt w0 g h q n last V :=
  ⟨r.ext.trans hx, r.lo, r.gh, r.gq, hx.heap r.gs, hx.heap r.hs, hx.heap r.qs⟩
theorem RiseAt.set {w0 : World} {g h q : Nat} {n last : Int} {W : World} (r : RiseAt w0 g h q n last W) (x : Int) : RiseAt w0 g h q n x (W.setCell ⟨g, 0, none⟩ (.int .i64 x)) := by
  refine ⟨r.ext.setCell (p := ⟨g, 0, none⟩) r.lo _, r.lo, r.gh, r.gq, ?_, ?_, ?_⟩
  · rw [heap_setCell_box, r.gs]
    rfl
  · exact (Below.heap_setCell _ _ _ _ (by simp only; exact r.gh)).trans r.hs
  · exact (Below.heap_setCell _ _ _ _ (by simp only; exact r.gq)).trans r.qs
theorem everyI_fn (x : Int) (w0 : World) (g h q : Nat) (n last : Int) (w : World) (r : RiseAt w0 g h q n last w) (hla : -1 ≤ last ∧ last ≤ 1000000) (hn : 0 ≤ n ∧ n ≤ 1000000) (hb : inB x (last + 1) (n - 1) = true) :
    Calls Tryz.prog 121 #[.int .i64 x, .pointer (some ⟨q, 0, none⟩)] w fun e w' => e = .returned (.bool false) ∧ RiseAt w0 g h q n x w' := by
  have hv := rise_fn x last n g h w r.gs r.hs r.gh hla hn
  rw [hb] at hv
  have c0 := ((Ext.refl w).box r.qs).1 0
  have hql := heap_lt r.qs
  have hr := r
  have Hv := Lib.hid hv
  have Hr := Lib.hid hr
  clear hv hr
  clear r hb hla hn
  go_enter Tryz.func121, Tryz.ntmps121
  go_wp2_with (go_at_call 85; refine Hv.out.mono ?_; rintro e w1 ⟨rfl, w2, hx2, rfl⟩)
  go_ret
  exact ⟨rfl, (Hr.out.next hx2).set x⟩
set_option maxRecDepth 100000 in
set_option maxHeartbeats 400000 in
theorem indexFunc_rise (a : Option Addr) (m cap : Nat) (l : List Int) (w0 : World) (g h q : Nat) (n : Int) (w : World) (hl : IntsAt .i64 w0 a m l) (hm : m ≤ 1000) (hn : 0 ≤ n ∧ n ≤ 1000000) (r : RiseAt w0 g h q n (-1) w) (hr : riseB n (-1) l = true) :
    Calls Tryz.prog 86 #[.slice a m cap, .func (.func 121) #[] #[.pointer (some ⟨q, 0, none⟩)]] w fun e w' => e = .returned (.int .i64 (-1)) ∧ Ext w0 w' := by
  have hll := hl.1
  have Hl := Lib.hid hl
  have R := Lib.hid r
  have Hr := Lib.hid hr
  have Hll := Lib.hid hll
  have Hn := Lib.hid hn
  clear hl r hr hll hn
  go_enter Tryz.func86, Tryz.ntmps86
  go_wp2_with fail
  go_loopw [5, 8] (fun i5 i8 wr => ∃ k : Nat, k ≤ m ∧ i8 = .int .i64 k ∧ RiseAt w0 g h q n (lastOf (-1) (l.take k)) wr) (fun _ i8 _ => m - (intOf i8).toNat)
  case atStart => exact ⟨0, Nat.zero_le _, rfl, R.out⟩
  case round =>
    obtain ⟨k, hk, rfl, hx⟩ := hrel
    by_cases hlt : k < m
    · obtain ⟨b, off, x, rfl, hxk, hb, c0⟩ := (Hl.out.ext hx.ext).get k hlt
      have ht := riseB_take n l (-1) k Hr.out
      have h1 := lastOf_range ht
      have h2 := lastOf_top (n := n) (last := -1) (by have := Hn.out; omega) ht
      have h3 : inB x (lastOf (-1) (l.take k) + 1) (n - 1) = true := by
        cases e : inB x (lastOf (-1) (l.take k) + 1) (n - 1) with
        | true => rfl
        | false => have := riseB_fail hxk ht e; rw [Hr.out] at this; cases this
      have hlt1 := lastOf_take (last := -1) hxk
      have hc := everyI_fn x w0 g h q n _ wr hx ⟨h1, by have := Hn.out; omega⟩ Hn.out h3
      have Hc := Lib.hid hc
      clear hc
      have Hxx := Lib.hid hlt1
      clear hxk ht h1 h2 h3 hlt1 hx
      go_wp2_with (go_at_call 121; refine (Hc.out.mono ?_); rintro e w' ⟨rfl, hb⟩)
      go_roundw
      case rel => exact ⟨k + 1, by omega, by go_num, by rw [Hxx.out]; exact hb⟩
      case measure => simp [intOf]; omega
    · have hxe := hx.ext
      clear hx
      go_wp2_with fail
      go_ret
      exact ⟨rfl, hxe⟩
theorem contains_rise (a : Option Addr) (m cap : Nat) (l : List Int) (w0 : World) (g h q : Nat) (n : Int) (w : World) (hl : IntsAt .i64 w0 a m l) (hm : m ≤ 1000) (hn : 0 ≤ n ∧ n ≤ 1000000) (r : RiseAt w0 g h q n (-1) w) (hr : riseB n (-1) l = true) :
    Calls Tryz.prog 53 #[.slice a m cap, .func (.func 121) #[] #[.pointer (some ⟨q, 0, none⟩)]] w fun e w' => e = .returned (.bool false) ∧ Ext w0 w' := by
  have hc := indexFunc_rise a m cap l w0 g h q n w hl hm hn r hr
  have Hc := Lib.hid hc
  clear hc
  clear hl r hr hn
  go_enter Tryz.func53, Tryz.ntmps53
  go_wp2_with (go_at_call 86; refine Hc.out.mono ?_; rintro e w' ⟨rfl, hb⟩)
  go_ret
  exact ⟨rfl, by assumption⟩
set_option maxRecDepth 100000 in
theorem everyI_any (a : Option Addr) (m cap : Nat) (l : List Int) (w0 : World) (g h : Nat) (n : Int) (w : World) (hl : IntsAt .i64 w0 a m l) (hm : m ≤ 1000) (hn : 0 ≤ n ∧ n ≤ 1000000)
    (hx : Ext w0 w) (hlo : w0.heap.size ≤ g) (hgh : h ≠ g) (hg : w.heap[g]? = some (.cells #[.int .i64 (-1)] 3 (0, 0))) (hh : w.heap[h]? = some (.cells #[.int .i64 n] 3 (0, 0))) (hr : riseB n (-1) l = true) :
    Calls Tryz.prog 84 #[.slice a m cap, .func (.func 85) #[] #[.pointer (some ⟨g, 0, none⟩), .pointer (some ⟨h, 0, none⟩)]] w fun e w' => e = .returned (.bool true) ∧ Ext w0 w' := by
  have hgl := heap_lt hg
  have hx1 := (Ext.refl w).alloc (.cells #[.func (.func 85) #[] #[.pointer (some ⟨g, 0, none⟩), .pointer (some ⟨h, 0, none⟩)]] 88)
  have r : RiseAt w0 g h w.heap.size n (-1) (w.alloc (.cells #[.func (.func 85) #[] #[.pointer (some ⟨g, 0, none⟩), .pointer (some ⟨h, 0, none⟩)]] 88)) :=
    ⟨hx.trans hx1, hlo, hgh, by omega, hx1.heap hg, hx1.heap hh, heap_alloc_new w _⟩
  have hc := contains_rise a m cap l w0 g h w.heap.size n _ hl hm hn r hr
  have Hc := Lib.hid hc
  clear hc
  clear hl r hr hn hx1 hg hh hgl hx
  go_enter Tryz.func84, Tryz.ntmps84
  go_wp2_with (go_at_call 53; refine Hc.out.mono ?_; rintro e w3 ⟨rfl, hx3⟩)
  go_ret
  exact ⟨rfl, hx3⟩
set_option maxRecDepth 100000 in
/-- a list that rises -/
theorem rising_any (a : Option Addr) (m cap : Nat) (l : List Int) (n : Int) (w : World) (hl : IntsAt .i64 w a m l) (hm : m ≤ 1000) (hn : 0 ≤ n ∧ n ≤ 1000000) (hr : riseB n (-1) l = true) :
    Calls Tryz.prog 52 #[.slice a m cap, .int .i64 n] w fun e w' => e = .returned (.bool true) ∧ Ext w w' := by
  have hmf : ∀ (fn : Fn) (first cap : Array Value) (w : World), (Instr.makeFunc fn first cap).run Tryz.prog w = .ok (.func fn first cap) w := fun _ _ _ _ => rfl
  have hx0 : Ext w ((w.alloc (.cells #[.int .i64 n] 3)).alloc (.cells #[.int .i64 (-1)] 3)) := ((Ext.refl w).alloc _).alloc _
  have hc := everyI_any a m cap l w (w.heap.size + 1) w.heap.size n _ hl hm hn hx0 (by omega) (by omega) (alloc_at _ _ _ (by simp)) (alloc_heap (heap_alloc_new w _) _) hr
  have Hc := Lib.hid hc
  clear hc
  clear hl hn hr hx0
  go_enter Tryz.func52, Tryz.ntmps52
  go_wp2_with (go_at_call 84; refine Hc.out.mono ?_; rintro e w3 ⟨rfl, hx3⟩)
  go_ret
  exact ⟨rfl, hx3⟩
end Go.Proofs.YtcoelhpmkhimpaaGreatDoor

namespace Go.Proofs.YtcoelhpmkhimpaaGreatDoor
open Go.RowKit
set_option linter.unusedVariables false
set_option linter.unusedSimpArgs false
/-- block b is a map with these int keys -/
def UsedIs (w : World) (b : Nat) (ks : List Int) : Prop := ∃ es clock, w.heap[b]? = some (.map es clock) ∧ es.toList.map (·.key) = ks.map (fun k => Value.int .i64 k)
theorem UsedIs.ext {w w' : World} {b : Nat} {ks : List Int} (h : UsedIs w b ks) (e : Ext w w') : UsedIs w' b ks :=
  let ⟨es, c, h1, h2⟩ := h; ⟨es, c, e.heap h1, h2⟩
theorem UsedIs.lt {w : World} {b : Nat} {ks : List Int} (h : UsedIs w b ks) : b < w.heap.size :=
  let ⟨_, _, h1, _⟩ := h; (Array.getElem?_eq_some_iff.1 h1).1
theorem UsedIs.made (w : World) : UsedIs (w.alloc (.map #[] 0)) w.heap.size [] := ⟨#[], 0, heap_alloc_new w _, rfl⟩
theorem UsedIs.len {w : World} {b : Nat} {ks : List Int} (h : UsedIs w b ks) (n : Nat) (hn : ks.length = n) (ty : TypeId) : (Builtin.len_ #[107] ty #[.map (some b)]).run Tryz.prog w = .ok (.int .i64 (n : Int)) w := by
  obtain ⟨es, c, h1, h2⟩ := h
  have := run_len_map (P := Tryz.prog) (w := w) 107 ty b es c (by kernel_rfl) h1
  rw [this]
  have hs : es.size = n := by
    have := congrArg List.length h2
    simp at this
    omega
  rw [hs]
  rfl
theorem UsedIs.put {w : World} {b : Nat} {ks : List Int} (h : UsedIs w b ks) (p : Int) (v : Value) (hp : p ∉ ks) :
    ∃ w', (Instr.mapUpdate 107 (.map (some b)) (.int .i64 p) v).run Tryz.prog w = .ok () w' ∧ UsedIs w' b (ks ++ [p]) ∧ w.grownBy w' (some b) := by
  obtain ⟨es, clock, hb, hk⟩ := h
  have hik : IntKeys es.toList := fun e he => by
    have : e.key ∈ es.toList.map (·.key) := List.mem_map.2 ⟨e, he, rfl⟩
    rw [hk] at this
    obtain ⟨q, _, hq⟩ := List.mem_map.1 this
    exact ⟨q, hq.symm⟩
  have hblt : b < w.heap.size := (Array.getElem?_eq_some_iff.1 hb).1
  have hfind := findNow_int p es.toList 0 hik
  have hget : (getObj b).run Tryz.prog w = .ok (.map es clock) w := by simp [getObj, Sem.run, hb]
  have hset : ∀ o, (setObj b o).run Tryz.prog w = .ok () { w with heap := w.heap.setIfInBounds b o } := by intro o; simp [setObj, Sem.run, hb]
  have hck : (Instr.checkKey false 10000 3 (.int .i64 p)).run Tryz.prog w = .ok () w := by
    rw [show (10000 : Nat) = 9999 + 1 from rfl]
    unfold Instr.checkKey
    simp [Sem.run_bind, run_underlying Tryz.underlying3]
  have hi : es.toList.findIdx? (keyIs p) = none := by
    rw [List.findIdx?_eq_none_iff]
    intro e he
    cases hq : keyIs p e with
    | false => rfl
    | true =>
      have h1 := keyIs_key hq
      have : e.key ∈ es.toList.map (·.key) := List.mem_map.2 ⟨e, he, rfl⟩
      rw [hk, h1] at this
      obtain ⟨q, hq1, hq2⟩ := List.mem_map.1 this
      simp only [Value.int.injEq] at hq2
      exact absurd (hq2.2 ▸ hq1) hp
  have hfk : (Instr.findKey 3 (.int .i64 p) es.toList).run Tryz.prog w = .ok none w := by
    unfold Instr.findKey
    simp only [Sem.run_bind, run_underlying Tryz.underlying3, Result.andThen_ok, hfind, hi, Sem.run_pure, Option.bind_none]
  have hgrown : ∀ o, w.grownBy { w with heap := w.heap.setIfInBounds b o } (some b) := fun o => ⟨rfl, rfl, rfl, by simp, fun i _ hi => by
    have hne : b ≠ i := fun e => hi (by rw [e])
    simp [Array.getElem?_setIfInBounds_ne hne]⟩
  have hnew : ∀ o, ({ w with heap := w.heap.setIfInBounds b o } : World).heap[b]? = some o := fun o => by simp [hblt]
  unfold Instr.mapUpdate
  simp only [Sem.run_bind, run_underlying Tryz.underlying107, Result.andThen_ok, hget, hck, hfk, hset]
  refine ⟨_, rfl, ⟨_, _, hnew _, ?_⟩, hgrown _⟩
  simp [hk]
theorem not_of_prefix {l ks : List Int} {x : Int} (h : l.Nodup) (hp : ks ++ [x] <+: l) : x ∉ ks := by
  obtain ⟨r, hr⟩ := hp
  rw [← hr] at h
  have := (List.nodup_append.1 h).1
  intro hx
  have h3 := (List.nodup_append.1 this).2.2 x hx x (by simp)
  exact h3 rfl
/-- in the midst of the check of a load -/
structure ChkSt (V0 : World) (b q : Nat) (cs : Array Value) (ks : List Int) (W : World) : Prop where
  ext : Ext V0 W
  map : UsedIs W b ks
  box : W.heap[q]? = some (.cells cs 31 (0, 0))
  lo : V0.heap.size ≤ b
  ne : q ≠ b
theorem ChkSt.next {V0 : World} {b q : Nat} {cs : Array Value} {ks : List Int} {W W' : World} (h : ChkSt V0 b q cs ks W) (hx : Ext W W') : ChkSt V0 b q cs ks W' := ⟨h.ext.trans hx, h.map.ext hx, hx.heap h.box, h.lo, h.ne⟩
theorem ext_grown {V0 W W' : World} {b : Nat} (h : Ext V0 W) (hb : V0.heap.size ≤ b) (hg : W.grownBy W' (some b)) : Ext V0 W' :=
  Below.grown h hg h.size (fun k hk => by cases hk; exact hb)
theorem ChkSt.put {V0 : World} {b q : Nat} {cs : Array Value} {ks : List Int} {W : World} (h : ChkSt V0 b q cs ks W) (p : Int) (hp : p ∉ ks) :
    ∃ W', (Instr.mapUpdate 107 (.map (some b)) (.int .i64 p) (.bool true)).run Tryz.prog W = .ok () W' ∧ ChkSt V0 b q cs (ks ++ [p]) W' := by
  obtain ⟨W', h1, h2, h3⟩ := h.map.put p (.bool true) hp
  exact ⟨W', h1, ext_grown h.ext h.lo h3, h2, ((but_block h3).block _ _ h.box h.ne), h.lo, h.ne⟩
end Go.Proofs.YtcoelhpmkhimpaaGreatDoor

namespace Go.Proofs.YtcoelhpmkhimpaaGreatDoor
open Go.RowKit
set_option linter.unusedVariables false
set_option linter.unusedSimpArgs false
theorem pre_mid {P L R l : List Int} (h : P ++ L ++ R = l) (k : Nat) : P ++ L.take k <+: l := by
  refine ⟨L.drop k ++ R, ?_⟩
  rw [← h, List.append_assoc, ← List.append_assoc (L.take k), List.take_append_drop, List.append_assoc]
theorem place0 (a1 a2 a3 : Option Addr) (n1 n2 n3 c1 c2 c3 : Nat) (W : World) : (Instr.index 67 (.agg #[.slice a1 n1 c1, .slice a2 n2 c2, .slice a3 n3 c3]) (.int .i64 0)).run Tryz.prog W = .ok (.slice a1 n1 c1) W := by kernel_rfl
theorem place1 (a1 a2 a3 : Option Addr) (n1 n2 n3 c1 c2 c3 : Nat) (W : World) : (Instr.index 67 (.agg #[.slice a1 n1 c1, .slice a2 n2 c2, .slice a3 n3 c3]) (.int .i64 1)).run Tryz.prog W = .ok (.slice a2 n2 c2) W := by kernel_rfl
theorem place2 (a1 a2 a3 : Option Addr) (n1 n2 n3 c1 c2 c3 : Nat) (W : World) : (Instr.index 67 (.agg #[.slice a1 n1 c1, .slice a2 n2 c2, .slice a3 n3 c3]) (.int .i64 2)).run Tryz.prog W = .ok (.slice a3 n3 c3) W := by kernel_rfl
/-- where a load lies -/
def tiedCells (a1 a2 a3 : Option Addr) (n1 n2 n3 c1 c2 c3 : Nat) : Array Value := #[.slice a1 n1 c1, .slice a2 n2 c2, .slice a3 n3 c3]
set_option maxRecDepth 100000 in
set_option maxHeartbeats 8000000 in
theorem checkL_any (pa : Option Addr) (pn pc : Nat) (l : List Pack) (a1 a2 a3 : Option Addr) (n1 n2 n3 c1 c2 c3 : Nat) (t : Tied) (tb : Nat) (w : World) (hp : PacksAt w pa pn l) (hpn : pn ≤ 30) (hok : l.all packOk = true) (h0 : NoneAt w)
    (ht : TiedAt w a1 a2 a3 n1 n2 n3 c1 c2 c3 t) (hb : w.heap[tb]? = some (.cells (tiedCells a1 a2 a3 n1 n2 n3 c1 c2 c3) 31 (0, 0))) (hr : TiesIs pn t) :
    Calls Tryz.prog 19 #[.slice pa pn pc, .slice (some ⟨tb, 0, none⟩) 1 1] w fun e w' => e = .returned (.tuple #[]) ∧ Ext w w' := by
  have hmm := @run_makeMap Tryz.prog
  have hev := everyP_any pa pn pc l w hp (by omega) h0
  rw [hok] at hev
  have hlen := ht.len
  have hfew := hr.few
  have h1 : n1 ≤ 10 := by omega
  have h2 : n2 ≤ 10 := by omega
  have h3 : n3 ≤ 10 := by omega
  obtain ⟨N, hN⟩ : ∃ N, n1 + n2 + n3 = N := ⟨_, rfl⟩
  have hsum : N ≤ 10 := by omega
  have hT := ht
  have hR := hr
  have hB := hb
  have Hev := Lib.hid hev
  have HT := Lib.hid hT
  have HR := Lib.hid hR
  have HB := Lib.hid hB
  have Hlen := Lib.hid hlen
  have Hfew := Lib.hid hfew
  have HN := Lib.hid hN
  clear hev hT hR hB hlen hfew hN
  clear hp hok h0 ht hr hb
  go_enter Tryz.func19, Tryz.ntmps19
  go_upto_region 1 with (first
    | (go_at_call 26; refine Hev.out.mono ?_; rintro e w1 ⟨rfl, hx1⟩)
    | (go_at_call 20; refine (need_yes _ _).mono ?_; rintro e V0 ⟨rfl, hx2⟩; have hxv := hx1.trans hx2))
  clear hx1 hx2 Hev
  have hbV := hxv.heap HB.out
  have Hxv := Lib.hid hxv
  clear hxv
  have HbV := Lib.hid hbV
  unfold tiedCells at hbV
  have hmd := UsedIs.made V0
  have hmx := (Ext.refl V0).alloc (.map #[] 0)
  have hbM := hmx.heap hbV
  obtain ⟨t0, _⟩ := (Ext.refl _).box hbM
  have HbM := Lib.hid hbM
  have Hmd := Lib.hid hmd
  have Hmx := Lib.hid hmx
  clear hmd hmx
  clear hbV hbM
  go_upto_region 4 with fail
  generalize V0.alloc (.map #[] 0) = M0 at *
  generalize hbd : V0.heap.size = b at *
  have hMl := Hmd.out.lt
  have hbd : V0.heap.size ≤ b := by omega
  have Hbd := Lib.hid hbd
  have HMl := Lib.hid hMl
  clear hbd hMl
  go_loopw [5, 23] (fun i5 i23 wr => (i23 = .int .i64 0 ∧ i5 = .int .i64 0 ∧ wr = M0) ∨ (i23 = .int .i64 1 ∧ i5 = .int .i64 (N : Nat) ∧ Ext V0 wr ∧ UsedIs wr b (allOf t))) (fun _ i _ => 1 - (intOf i).toNat)
  case atStart => exact .inl ⟨rfl, rfl, rfl⟩
  case round =>
    rcases hrel with ⟨rfl, rfl, rfl⟩ | ⟨rfl, rfl, hxe, hue⟩
    · have hx4 := (Ext.refl wr).alloc (.cells #[.slice a1 n1 c1, .slice a2 n2 c2, .slice a3 n3 c3] 31)
      have hq4 := heap_alloc_new wr (.cells #[.slice a1 n1 c1, .slice a2 n2 c2, .slice a3 n3 c3] 31)
      have hS0 : ChkSt V0 b wr.heap.size (tiedCells a1 a2 a3 n1 n2 n3 c1 c2 c3) [] (wr.alloc (.cells #[.slice a1 n1 c1, .slice a2 n2 c2, .slice a3 n3 c3] 31)) :=
        ⟨Hmx.out.trans hx4, Hmd.out.ext hx4, hq4, Hbd.out, by have := HMl.out; omega⟩
      have HS0 := Lib.hid hS0
      clear hS0
      clear hx4 hq4
      go_upto_region 7 with (go_at_call 25; refine (lists_any _ _ _ _ _ _ _ _ _ _).mono ?_; rintro e v1 ⟨rfl, hx5⟩; have hS1 := HS0.out.next hx5)
      generalize wr.heap.size = q at *
      clear HS0 hx5
      have HS1 := Lib.hid hS1
      clear hS1
      go_loopw [5, 29] (fun i5 i29 v => (i29 = .int .i64 0 ∧ i5 = .int .i64 0 ∧ ChkSt V0 b q (tiedCells a1 a2 a3 n1 n2 n3 c1 c2 c3) [] v) ∨ (i29 = .int .i64 1 ∧ i5 = .int .i64 (n1 : Nat) ∧ ChkSt V0 b q (tiedCells a1 a2 a3 n1 n2 n3 c1 c2 c3) t.left v) ∨ (i29 = .int .i64 2 ∧ i5 = .int .i64 ((n1 + n2 : Nat) : Int) ∧ ChkSt V0 b q (tiedCells a1 a2 a3 n1 n2 n3 c1 c2 c3) (t.left ++ t.right) v) ∨ (i29 = .int .i64 3 ∧ i5 = .int .i64 (N : Nat) ∧ ChkSt V0 b q (tiedCells a1 a2 a3 n1 n2 n3 c1 c2 c3) (allOf t) v)) (fun _ i _ => 3 - (intOf i).toNat)
      case atStart => exact .inl ⟨rfl, rfl, HS1.out⟩
      case round =>
        clear HS1
        obtain ⟨wr0, rfl⟩ : ∃ wr0 : World, wr0 = wr := ⟨_, rfl⟩
        rcases hrel with ⟨rfl, rfl, hS⟩ | ⟨rfl, rfl, hS⟩ | ⟨rfl, rfl, hS⟩ | ⟨rfl, rfl, hS⟩
        · have hsb := hS.box
          unfold tiedCells at hsb
          obtain ⟨y0, _⟩ := (Ext.refl wr0).box hsb
          have hri := rising_any a1 n1 c1 t.left (pn : Int) wr0 (HT.out.left.ext (Hxv.out.trans hS.ext)) (by omega) ⟨by omega, by omega⟩ HR.out.left
          have Hri := Lib.hid hri
          have HS := Lib.hid hS
          clear hri hS
          clear hsb y0
          have hpl := place0 a1 a2 a3 n1 n2 n3 c1 c2 c3
          go_upto_region 11 with (first
            | (go_at_call 52; refine Hri.out.mono ?_; rintro e w1 ⟨rfl, hx1⟩)
            | (go_at_call 20; refine (need_yes _ _).mono ?_; rintro e w2 ⟨rfl, hx2⟩; have hS2 := HS.out.next (hx1.trans hx2)))
          clear hx1 hx2 HS Hri hpl
          have HS2 := Lib.hid hS2
          clear hS2
          go_loopw [39] (fun i v => ∃ j : Nat, j ≤ n1 ∧ i = .int .i64 j ∧ ChkSt V0 b q (tiedCells a1 a2 a3 n1 n2 n3 c1 c2 c3) ([] ++ t.left.take j) v) (fun i _ => n1 - (intOf i).toNat)
          case atStart => exact ⟨0, Nat.zero_le _, rfl, by simpa using HS2.out⟩
          case round =>
            clear HS2
            obtain ⟨j, hj, rfl, hS⟩ := hrel
            by_cases hlt : j < n1
            · obtain ⟨lb, lo, x, rfl, hxk, hlb, c0⟩ := (HT.out.left.ext (Hxv.out.trans hS.ext)).get j hlt
              have hpre : ([] ++ t.left.take j) ++ [x] <+: allOf t := by
                rw [List.append_assoc, ← take_succ_of hxk]
                exact pre_mid (R := t.right ++ t.top) (by simp [allOf]) _
              obtain ⟨W', hrun, hS'⟩ := hS.put x (not_of_prefix HR.out.once hpre)
              have hst : [] ++ t.left.take (j + 1) = ([] ++ t.left.take j) ++ [x] := by rw [take_succ_of hxk]; simp only [List.append_assoc]
              rw [← hst] at hS'
              have HS' := Lib.hid hS'
              clear hS'
              clear hS hxk hpre hst
              go_wp2_with fail
              go_roundw
              case rel => exact ⟨j + 1, by omega, by go_num, HS'.out⟩
              case measure => simp [intOf]; omega
            · rw [List.take_of_length_le (by rw [HT.out.left.1]; omega)] at hS
              have HS := Lib.hid hS
              clear hS
              go_wp2_with fail
              go_roundw
              case rel => exact .inr (.inl ⟨by go_num, by go_num, by simpa using HS.out⟩)
              case measure => simp [intOf]
        · have hsb := hS.box
          unfold tiedCells at hsb
          obtain ⟨y0, _⟩ := (Ext.refl wr0).box hsb
          have hri := rising_any a2 n2 c2 t.right (pn : Int) wr0 (HT.out.right.ext (Hxv.out.trans hS.ext)) (by omega) ⟨by omega, by omega⟩ HR.out.right
          have Hri := Lib.hid hri
          have HS := Lib.hid hS
          clear hri hS
          clear hsb y0
          have hpl := place1 a1 a2 a3 n1 n2 n3 c1 c2 c3
          go_upto_region 11 with (first
            | (go_at_call 52; refine Hri.out.mono ?_; rintro e w1 ⟨rfl, hx1⟩)
            | (go_at_call 20; refine (need_yes _ _).mono ?_; rintro e w2 ⟨rfl, hx2⟩; have hS2 := HS.out.next (hx1.trans hx2)))
          clear hx1 hx2 HS Hri hpl
          have HS2 := Lib.hid hS2
          clear hS2
          go_loopw [39] (fun i v => ∃ j : Nat, j ≤ n2 ∧ i = .int .i64 j ∧ ChkSt V0 b q (tiedCells a1 a2 a3 n1 n2 n3 c1 c2 c3) (t.left ++ t.right.take j) v) (fun i _ => n2 - (intOf i).toNat)
          case atStart => exact ⟨0, Nat.zero_le _, rfl, by simpa using HS2.out⟩
          case round =>
            clear HS2
            obtain ⟨j, hj, rfl, hS⟩ := hrel
            by_cases hlt : j < n2
            · obtain ⟨lb, lo, x, rfl, hxk, hlb, c0⟩ := (HT.out.right.ext (Hxv.out.trans hS.ext)).get j hlt
              have hpre : (t.left ++ t.right.take j) ++ [x] <+: allOf t := by
                rw [List.append_assoc, ← take_succ_of hxk]
                exact pre_mid (R := t.top) rfl _
              obtain ⟨W', hrun, hS'⟩ := hS.put x (not_of_prefix HR.out.once hpre)
              have hst : t.left ++ t.right.take (j + 1) = (t.left ++ t.right.take j) ++ [x] := by rw [take_succ_of hxk]; simp only [List.append_assoc]
              rw [← hst] at hS'
              have HS' := Lib.hid hS'
              clear hS'
              clear hS hxk hpre hst
              go_wp2_with fail
              go_roundw
              case rel => exact ⟨j + 1, by omega, by go_num, HS'.out⟩
              case measure => simp [intOf]; omega
            · rw [List.take_of_length_le (by rw [HT.out.right.1]; omega)] at hS
              have HS := Lib.hid hS
              clear hS
              go_wp2_with fail
              go_roundw
              case rel => exact .inr (.inr (.inl ⟨by go_num, by go_num, HS.out⟩))
              case measure => simp [intOf]
        · have hsb := hS.box
          unfold tiedCells at hsb
          obtain ⟨y0, _⟩ := (Ext.refl wr0).box hsb
          have hri := rising_any a3 n3 c3 t.top (pn : Int) wr0 (HT.out.top.ext (Hxv.out.trans hS.ext)) (by omega) ⟨by omega, by omega⟩ HR.out.top
          have Hri := Lib.hid hri
          have HS := Lib.hid hS
          clear hri hS
          clear hsb y0
          have hpl := place2 a1 a2 a3 n1 n2 n3 c1 c2 c3
          go_upto_region 11 with (first
            | (go_at_call 52; refine Hri.out.mono ?_; rintro e w1 ⟨rfl, hx1⟩)
            | (go_at_call 20; refine (need_yes _ _).mono ?_; rintro e w2 ⟨rfl, hx2⟩; have hS2 := HS.out.next (hx1.trans hx2)))
          clear hx1 hx2 HS Hri hpl
          have HS2 := Lib.hid hS2
          clear hS2
          go_loopw [39] (fun i v => ∃ j : Nat, j ≤ n3 ∧ i = .int .i64 j ∧ ChkSt V0 b q (tiedCells a1 a2 a3 n1 n2 n3 c1 c2 c3) ((t.left ++ t.right) ++ t.top.take j) v) (fun i _ => n3 - (intOf i).toNat)
          case atStart => exact ⟨0, Nat.zero_le _, rfl, by simpa using HS2.out⟩
          case round =>
            clear HS2
            obtain ⟨j, hj, rfl, hS⟩ := hrel
            by_cases hlt : j < n3
            · obtain ⟨lb, lo, x, rfl, hxk, hlb, c0⟩ := (HT.out.top.ext (Hxv.out.trans hS.ext)).get j hlt
              have hpre : ((t.left ++ t.right) ++ t.top.take j) ++ [x] <+: allOf t := by
                rw [List.append_assoc, ← take_succ_of hxk]
                exact pre_mid (R := []) (by simp only [allOf, List.append_nil]) _
              obtain ⟨W', hrun, hS'⟩ := hS.put x (not_of_prefix HR.out.once hpre)
              have hst : (t.left ++ t.right) ++ t.top.take (j + 1) = ((t.left ++ t.right) ++ t.top.take j) ++ [x] := by rw [take_succ_of hxk]; simp only [List.append_assoc]
              rw [← hst] at hS'
              have HS' := Lib.hid hS'
              clear hS'
              clear hS hxk hpre hst
              go_wp2_with fail
              go_roundw
              case rel => exact ⟨j + 1, by omega, by go_num, HS'.out⟩
              case measure => simp [intOf]; omega
            · rw [List.take_of_length_le (by rw [HT.out.top.1]; omega)] at hS
              have HS := Lib.hid hS
              clear hS
              go_wp2_with fail
              go_roundw
              case rel => exact .inr (.inr (.inr ⟨by go_num, by rw [← HN.out]; go_num, HS.out⟩))
              case measure => simp [intOf]
        · have hsb := hS.box
          unfold tiedCells at hsb
          obtain ⟨y0, _⟩ := (Ext.refl wr0).box hsb
          have hal : Calls Tryz.prog 34 #[.agg #[.slice a1 n1 c1, .slice a2 n2 c2, .slice a3 n3 c3]] wr0 fun e w' => ∃ a c, e = .returned (.slice a N c) ∧ Ext wr0 w' := by
            refine (all_any a1 a2 a3 n1 n2 n3 c1 c2 c3 t wr0 (HT.out.ext (Hxv.out.trans hS.ext)) (by have := Hfew.out; omega)).mono ?_
            rintro e w' ⟨a, c, rfl, hx, -⟩
            exact ⟨a, c, by rw [Hlen.out, HN.out], hx⟩
          have hNI : decide ((N : Int) ≤ 10) = true := decide_eq_true (by omega)
          have hNN : decide (N ≤ 10) = true := decide_eq_true hsum
          have Hal := Lib.hid hal
          have HS := Lib.hid hS
          clear hal hS
          clear hsb
          go_upto_region 17 with fail
          go_wp2_with (first
            | (go_at_call 34; refine Hal.out.mono ?_; rintro e w1 ⟨va, vc, rfl, hx1⟩)
            | (go_at_call 20; refine (need_yes _ _).mono ?_; rintro e w2 ⟨rfl, hx2⟩; have hS2 := HS.out.next (hx1.trans hx2)))
          go_roundw
          case rel => exact .inr ⟨by go_num, rfl, hS2.ext, hS2.map⟩
          case measure => simp [intOf]
    · have hle := hue.len N (Hlen.out.trans HN.out)
      have Hxe := Lib.hid hxe
      have Hue := Lib.hid hue
      clear hxe hue
      go_wp2_with (go_at_call 20; refine (need_yes _ _).mono ?_; rintro e w2 ⟨rfl, hx2⟩)
      go_end0
      exact ⟨rfl, Hxv.out.trans (Hxe.out.trans hx2)⟩
end Go.Proofs.YtcoelhpmkhimpaaGreatDoor

namespace Go.Proofs.YtcoelhpmkhimpaaGreatDoor
open Go.RowKit
set_option linter.unusedVariables false
set_option linter.unusedSimpArgs false
theorem infoPack : (Tryz.prog.info? 50).map (fun i => (i.zero, i.size, i.bytes)) = some (some (.agg #[.int .u8 0, .int .i64 0, .int .i64 0, .int .i64 0, .int .i64 0, .int .i64 0, .int .i64 0, .int .i64 0, .int .i64 0, .int .i64 0, .int .i64 0]), 11, 88) := by kernel_rfl
theorem elemPack : Elem Tryz.prog 28 50 11 := by
  obtain ⟨i, h1, h2, h3, h4⟩ := info_parts infoPack
  exact ⟨Tryz.underlying28, ⟨i, _, _, h1, h2, h3, h4, rfl, by decide⟩, by decide⟩
theorem infoSpan : (Tryz.prog.info? 23).map (fun i => (i.zero, i.size, i.bytes)) = some (some (.agg #[.int .i64 0, .int .i64 0]), 2, 16) := by kernel_rfl
theorem elemSpan : Elem Tryz.prog 74 23 2 := by
  obtain ⟨i, h1, h2, h3, h4⟩ := info_parts infoSpan
  exact ⟨Tryz.underlying74, ⟨i, _, _, h1, h2, h3, h4, rfl, by decide⟩, by decide⟩
def packRows (l : List Pack) : List (List Value) := l.map Pack.cells
theorem packRows_len (l : List Pack) : (packRows l).length = l.length := List.length_map ..
theorem packRows_row (l : List Pack) : ∀ r ∈ packRows l, r.length = 11 ∧ ∀ u ∈ r, u.oneCell' = true := by
  intro r hr
  obtain ⟨t, _, rfl⟩ := List.mem_map.1 hr
  refine ⟨rfl, fun u hu => ?_⟩
  simp only [Pack.cells, List.mem_cons, List.not_mem_nil, or_false] at hu
  rcases hu with rfl | rfl | rfl | rfl | rfl | rfl | rfl | rfl | rfl | rfl | rfl <;> rfl
theorem PacksAt.src {w : World} {a : Option Addr} {n : Nat} {l : List Pack} (h : PacksAt w a n l) : SlAt w 11 a n (fun k => (packRows l).getD k []) :=
  h.2.congr fun k hk => by
    have := h.1
    simp only [packRows, List.getD, List.getElem?_map, List.getElem?_eq_getElem (show k < l.length by omega), Option.map_some, Option.getD_some]
theorem packs_of_owns {w : World} {B : Nat} {e : TypeId} {v : Value} {l : List Pack} (h : Owns w B e 11 v (packRows l)) : ∃ a c, v = .slice a l.length c ∧ From B a ∧ l.length ≤ c ∧ c ≤ maxLen ∧ PacksAt w a l.length l := by
  obtain ⟨a, c, hv, h0, h1, h2, h3⟩ := h.slAt
  have e : (packRows l).length = l.length := by simp [packRows]
  rw [e] at hv h1 h3
  refine ⟨a, c, hv, h0, h1, h2, rfl, h3.congr fun i hi => ?_⟩
  simp [packRows, List.getD, List.getElem?_map, List.getElem?_eq_getElem hi]
def spanRows (l : List Span) : List (List Value) := l.map Span.cells
theorem spanRows_len (l : List Span) : (spanRows l).length = l.length := List.length_map ..
theorem spanRows_append (l m : List Span) : spanRows (l ++ m) = spanRows l ++ spanRows m := by simp [spanRows]
theorem spanRows_row (l : List Span) : ∀ r ∈ spanRows l, r.length = 2 ∧ ∀ u ∈ r, u.oneCell' = true := by
  intro r hr
  obtain ⟨t, _, rfl⟩ := List.mem_map.1 hr
  refine ⟨rfl, fun u hu => ?_⟩
  simp only [Span.cells, List.mem_cons, List.not_mem_nil, or_false] at hu
  rcases hu with rfl | rfl <;> rfl
theorem spans_of_owns {w : World} {B : Nat} {e : TypeId} {v : Value} {l : List Span} (h : Owns w B e 2 v (spanRows l)) : ∃ a c, v = .slice a l.length c ∧ From B a ∧ l.length ≤ c ∧ c ≤ maxLen ∧ SpansAt w a l.length l := by
  obtain ⟨a, c, hv, h0, h1, h2, h3⟩ := h.slAt
  have e : (spanRows l).length = l.length := by simp [spanRows]
  rw [e] at hv h1 h3
  refine ⟨a, c, hv, h0, h1, h2, rfl, h3.congr fun i hi => ?_⟩
  simp [spanRows, List.getD, List.getElem?_map, List.getElem?_eq_getElem hi]
/-- one span in a block of its own -/
theorem one_span (W : World) (s : Span) : SlAt (W.alloc (.cells #[.int .i64 s.lo, .int .i64 s.hi] 23)) 2 (some ⟨W.heap.size, 0, none⟩) 1 (fun k => (spanRows [s]).getD k []) := by
  have := slAt_block (rows := spanRows [s]) (w := W.alloc (.cells #[.int .i64 s.lo, .int .i64 s.hi] 23)) (b := W.heap.size) (t := 23) (heap_alloc_new W _) (fun r hr => (spanRows_row _ r hr).1)
  exact this
def OwnPacks (B : Nat) (l : List Pack) (e : Ending) (w w' : World) : Prop := ∃ a c, e = .returned (.slice a l.length c) ∧ Ext w w' ∧ Owns w' B 50 11 (.slice a l.length c) (packRows l)
set_option maxRecDepth 100000 in
theorem cloneP_any (a : Option Addr) (n cap : Nat) (l : List Pack) (w : World) (hl : PacksAt w a n l) (hn : n ≤ 100000) (ha : a = none → n = 0 ∧ cap = 0) (hoff : ∀ x, a = some x → ∃ b o, x = ⟨b, o, none⟩) : Calls Tryz.prog 24 #[.slice a n cap] w fun e w' => OwnPacks w.heap.size l e w w' := by
  have hll := hl.1
  cases a with
  | none =>
    obtain ⟨rfl, rfl⟩ := ha rfl
    have hL : l = [] := List.length_eq_zero_iff.1 hll
    subst hL
    have heq : (binOp .eql 28 (.slice none 0 0) (.slice none 0 0)).run Tryz.prog w = .ok (.bool true) w := by
      have := Go.Lib.run_eql_slice_nil (P := Tryz.prog) w 28 50 none 0 0 0 0 Tryz.underlying28
      simpa using this
    clear hl
    go_enter Tryz.func24, Tryz.ntmps24
    go_wp2_with fail
    go_ret
    exact ⟨none, 0, rfl, Ext.refl _, Owns.nil _ _ _ _⟩
  | some x =>
    obtain ⟨b, o, rfl⟩ := hoff _ rfl
    have hrl : (packRows l).length = n := by rw [packRows_len]; exact hll
    have hsl := hl.src
    have heq : (binOp .eql 28 (.slice (some ⟨b, o, none⟩) n cap) (.slice none 0 0)).run Tryz.prog w = .ok (.bool false) w := by
      have := Go.Lib.run_eql_slice_nil (P := Tryz.prog) w 28 50 (some ⟨b, o, none⟩) n cap 0 0 Tryz.underlying28
      simpa using this
    have Hrl := Lib.hid hrl
    have Hsl := Lib.hid hsl
    have Hl := Lib.hid hl
    clear hrl hsl hl
    go_enter Tryz.func24, Tryz.ntmps24
    go_wp2_with (at_builtin; refine wpList_app elemPack _ rfl (.tmp 5) (.tmp 6) rfl w.heap.size _ (packRows []) rfl (Owns.emptyM (alloc_at _ _ _ rfl) (Nat.le_refl _) rfl (by decide)) (some ⟨b, o, none⟩) n cap (packRows l) rfl Hrl.out (Hsl.out.ext ((Ext.refl _).alloc _)) (packRows_row _) ?_ ?_ ?_)
    · show 0 + n ≤ 1000000000
      omega
    · simp
    intro v4 w4 ho4 hg4 _
    rw [show packRows [] ++ packRows l = packRows l from rfl] at ho4
    have hx4 : Ext w w4 := ((Ext.refl w).alloc _).app (Owns.emptyM (sz := 11) (cap := 0) (alloc_at _ _ _ rfl) (Nat.le_refl _) rfl (by decide)) hg4
    obtain ⟨a4, c4, e4, _, _, _, _⟩ := ho4.slAt
    rw [packRows_len] at e4
    subst e4
    have Ho4 := Lib.hid ho4
    have Hx4 := Lib.hid hx4
    clear ho4 hx4
    clear hg4
    go_wp2_with fail
    go_ret
    exact ⟨a4, c4, rfl, Hx4.out, Ho4.out⟩
end Go.Proofs.YtcoelhpmkhimpaaGreatDoor

namespace Go.Proofs.YtcoelhpmkhimpaaGreatDoor
set_option linter.unusedVariables false
theorem weigh_fold (l : List Pack) : ∀ (is : List Int) (s : Span), (is.map fun i => leftP (packAt l i)).foldl (fun s x => (⟨s.lo + x.lo, s.hi + x.hi⟩ : Span)) s = ⟨s.lo + (weigh l is).lo, s.hi + (weigh l is).hi⟩
  | [], s => by simp [weigh, zspan]
  | i :: r, s => by
    rw [List.map_cons, List.foldl_cons, weigh_fold l r]
    simp only [weigh, Span.mk.injEq]
    omega
theorem sumTo_weigh (l : List Pack) (is : List Int) (n : Nat) (hn : is.length = n) : sumTo (is.map fun i => leftP (packAt l i)) n = weigh l is := by
  unfold sumTo
  rw [List.take_of_length_le (by simp; omega), weigh_fold]
  simp [zspan]
/-- packs that were jolted: only the hurts are more, by no more than B -/
structure JoltN (l m : List Pack) (B : Int) : Prop where
  len : m.length = l.length
  each : ∀ (i : Nat) (p q : Pack), l[i]? = some p → m[i]? = some q → q = { p with hurt := q.hurt } ∧ p.hurt ≤ q.hurt ∧ q.hurt ≤ p.hurt + B
theorem JoltN.refl (l : List Pack) : JoltN l l 0 := ⟨rfl, fun i p q h1 h2 => by rw [h1] at h2; cases h2; exact ⟨rfl, Int.le_refl _, by omega⟩⟩
theorem JoltN.more {l m : List Pack} {A B : Int} (h : JoltN l m A) (hAB : A ≤ B) : JoltN l m B := ⟨h.len, fun i p q h1 h2 => let ⟨a, b, c⟩ := h.each i p q h1 h2; ⟨a, b, by omega⟩⟩
theorem JoltN.set {l m : List Pack} {B u : Int} (h : JoltN l m B) (hu : 0 ≤ u) {k : Nat} {q : Pack} (hq : m[k]? = some q) : JoltN l (m.set k { q with hurt := q.hurt + u }) (B + u) := by
  refine ⟨by rw [List.length_set, h.len], fun i p r h1 h2 => ?_⟩
  have hlt := (List.getElem?_eq_some_iff.1 hq).1
  by_cases hi : k = i
  · subst hi
    rw [List.getElem?_set_self hlt] at h2
    cases h2
    obtain ⟨a, b, c⟩ := h.each k p q h1 hq
    refine ⟨?_, by simp only; omega, by simp only; omega⟩
    rw [a]
  · rw [List.getElem?_set_ne hi] at h2
    obtain ⟨a, b, c⟩ := h.each i p r h1 h2
    exact ⟨a, b, by omega⟩
/-- the days of the first k packs are d more -/
def daysTo (d : Int) (m : List Pack) (k : Nat) : List Pack := (m.take k).map (fun p => { p with days := p.days + d }) ++ m.drop k
theorem daysTo_zero (d : Int) (m : List Pack) : daysTo d m 0 = m := by simp [daysTo]
theorem daysTo_len (d : Int) (m : List Pack) (k : Nat) : (daysTo d m k).length = m.length := by simp [daysTo]; omega
theorem daysTo_all (d : Int) (m : List Pack) : daysTo d m m.length = m.map (fun p => { p with days := p.days + d }) := by simp [daysTo]
theorem daysTo_get {d : Int} {m : List Pack} {k : Nat} {q : Pack} (h : m[k]? = some q) : (daysTo d m k)[k]? = some q := by
  have hlt := (List.getElem?_eq_some_iff.1 h).1
  unfold daysTo
  rw [List.getElem?_append_right (by simp; omega)]
  simp [List.getElem?_drop, Nat.min_eq_left (Nat.le_of_lt hlt), h]
theorem daysTo_set {d : Int} {m : List Pack} {k : Nat} {q : Pack} (h : m[k]? = some q) : (daysTo d m k).set k { q with days := q.days + d } = daysTo d m (k + 1) := by
  have hlt := (List.getElem?_eq_some_iff.1 h).1
  unfold daysTo
  have hk : ((m.take k).map (fun p => { p with days := p.days + d })).length = k := by simp; omega
  rw [List.set_append_right (i := k) _ (by omega), hk, Nat.sub_self, List.take_add_one, h, Option.toList_some, List.map_append, List.append_assoc]
  congr 1
  rw [← List.getElem_cons_drop hlt]
  have := (List.getElem?_eq_some_iff.1 h).2
  simp [this]
theorem packAt_get {l : List Pack} {i : Int} (h0 : 0 ≤ i) (h1 : i < l.length) : ∃ p, l[i.toNat]? = some p ∧ packAt l i = p := by
  have hlt : i.toNat < l.length := by omega
  exact ⟨l[i.toNat], List.getElem?_eq_getElem hlt, by simp [packAt, List.getD, hlt]⟩
theorem all_at {l : List Pack} {i : Int} (h : l.all packOk = true) (h0 : 0 ≤ i) (h1 : i < l.length) : PackIs (packAt l i) := by
  obtain ⟨p, hp, e⟩ := packAt_get h0 h1
  rw [e]
  exact packIs (List.all_eq_true.1 h p (List.mem_of_getElem? hp))
/-- the packs after the days -/
def aged (d : Int) (m : List Pack) : List Pack := m.map (fun p => { p with days := p.days + d })
theorem jolt_later {l m : List Pack} {B d : Int} (h : JoltN l m B) (hd : 0 ≤ d) {i : Int} (h0 : 0 ≤ i) (h1 : i < l.length) : Later (packAt l i) (packAt (aged d m) i) := by
  obtain ⟨p, hp, e⟩ := packAt_get h0 h1
  have hlen := h.len
  obtain ⟨q, hq, _⟩ := packAt_get (l := m) h0 (by omega)
  have e2 : packAt (aged d m) i = { q with days := q.days + d } := by
    simp [packAt, aged, List.getD, List.getElem?_map, hq]
  obtain ⟨a, b, c⟩ := h.each i.toNat p q hp hq
  rw [e, e2, a]
  exact ⟨rfl, rfl, rfl, rfl, rfl, b, by simp only; omega⟩
end Go.Proofs.YtcoelhpmkhimpaaGreatDoor

namespace Go.Proofs.YtcoelhpmkhimpaaGreatDoor
open Go.RowKit
set_option linter.unusedVariables false
set_option linter.unusedSimpArgs false
def leftAt (packs : List Pack) (i : Int) : Span := leftP (packAt packs i)
/-- the spans of the first k of some packs -/
def lefts (packs : List Pack) (is : List Int) (k : Nat) : List Span := (is.take k).map (leftAt packs)
theorem lefts_succ {packs : List Pack} {is : List Int} {k : Nat} {x : Int} (h : is[k]? = some x) : lefts packs is (k + 1) = lefts packs is k ++ [leftAt packs x] := by
  unfold lefts
  rw [List.take_add_one, h]
  simp
theorem lefts_len {packs : List Pack} {is : List Int} {k n : Nat} (h : is.length = n) (hk : k ≤ n) : (lefts packs is k).length = k := by
  unfold lefts
  simp
  omega
theorem left_get {packs : List Pack} {k : Nat} {y : Span} (h : (packs.map leftP)[k]? = some y) : leftAt packs (k : Int) = y := by
  rw [List.getElem?_map] at h
  cases hp : packs[k]? with
  | none => rw [hp] at h; cases h
  | some p =>
    rw [hp] at h
    simp only [Option.map_some, Option.some.injEq] at h
    rw [← h]
    unfold leftAt packAt
    rw [Int.toNat_natCast, List.getD, hp]
    rfl
set_option maxRecDepth 100000 in
set_option maxHeartbeats 4000000 in
theorem weight_any (a1 a2 a3 : Option Addr) (n1 n2 n3 c1 c2 c3 : Nat) (ra : Option Addr) (rn rc : Nat) (a : Option Addr) (n cap : Nat) (is : List Int) (packs : List Pack) (w : World) (hr : SpansAt w ra rn (packs.map leftP)) (hl : IntsAt .i64 w a n is) (hn : n ≤ 1000) (hrn : rn ≤ 1000)
    (hi : ∀ i ∈ is, 0 ≤ i ∧ i < rn) (hs : ∀ s ∈ packs.map leftP, SpanIs s 0 1000000) :
    Calls Tryz.prog 33 #[.agg #[.slice a1 n1 c1, .slice a2 n2 c2, .slice a3 n3 c3, .slice ra rn rc], .slice a n cap] w fun e w' => e = .returned (weigh packs is).val ∧ Ext w w' := by
  have hx0 : Ext w ((w.alloc (.cells #[.slice a1 n1 c1, .slice a2 n2 c2, .slice a3 n3 c3, .slice ra rn rc] 77)).alloc (.cells #[.int .i64 0, .int .i64 0] 23)) := ((Ext.refl w).alloc _).alloc _
  have hp0 : ((w.alloc (.cells #[.slice a1 n1 c1, .slice a2 n2 c2, .slice a3 n3 c3, .slice ra rn rc] 77)).alloc (.cells #[.int .i64 0, .int .i64 0] 23)).heap[w.heap.size]? = some (.cells #[.slice a1 n1 c1, .slice a2 n2 c2, .slice a3 n3 c3, .slice ra rn rc] 77 (0, 0)) := alloc_heap (heap_alloc_new w _) _
  have hp1 : ((w.alloc (.cells #[.slice a1 n1 c1, .slice a2 n2 c2, .slice a3 n3 c3, .slice ra rn rc] 77)).alloc (.cells #[.int .i64 0, .int .i64 0] 23)).heap[w.heap.size + 1]? = some (.cells #[.int .i64 0, .int .i64 0] 23 (0, 0)) := alloc_at _ _ _ (by simp)
  have hsz : ((w.alloc (.cells #[.slice a1 n1 c1, .slice a2 n2 c2, .slice a3 n3 c3, .slice ra rn rc] 77)).alloc (.cells #[.int .i64 0, .int .i64 0] 23)).heap.size = w.heap.size + 1 + 1 := by simp
  have hll := hl.1
  have hrr : (packs.map leftP).length = rn := hr.1
  obtain ⟨A, hA⟩ : ∃ A, (weigh packs is).lo = A := ⟨_, rfl⟩
  obtain ⟨B, hB⟩ : ∃ B, (weigh packs is).hi = B := ⟨_, rfl⟩
  have hwv : (weigh packs is).val = .agg #[.int .i64 A, .int .i64 B] := by unfold Span.val; rw [hA, hB]
  rw [hwv]
  clear hA hB
  have Hl := Lib.hid hl
  have Hr := Lib.hid hr
  have Hi := Lib.hid hi
  have Hs := Lib.hid hs
  have Hx0 := Lib.hid hx0
  have Hp0 := Lib.hid hp0
  have Hp1 := Lib.hid hp1
  have Hsz := Lib.hid hsz
  have Hll := Lib.hid hll
  have Hrr := Lib.hid hrr
  have Hwv := Lib.hid hwv
  clear hl hr hi hs hx0 hp0 hp1 hsz hll hrr hwv
  go_enter Tryz.func33, Tryz.ntmps33
  go_upto_region 3 with fail
  generalize (w.alloc (.cells #[.slice a1 n1 c1, .slice a2 n2 c2, .slice a3 n3 c3, .slice ra rn rc] 77)).alloc (.cells #[.int .i64 0, .int .i64 0] 23) = W0 at *
  go_loopw [5, 10] (fun v i wr => ∃ k : Nat, k ≤ n ∧ i = .int .i64 k ∧ Ext W0 wr ∧ Owns wr W0.heap.size 23 2 v (spanRows (lefts packs is k))) (fun _ i _ => n - (intOf i).toNat)
  case atStart => exact ⟨0, Nat.zero_le _, rfl, Ext.refl _, Owns.nil _ _ _ _⟩
  case round =>
    obtain ⟨k, hk, rfl, hx, how⟩ := hrel
    obtain ⟨va, vc, hv, _, hvc, hvm, _⟩ := how.slAt
    subst hv
    have hlk := lefts_len (packs := packs) Hll.out hk
    rw [spanRows_len, hlk] at how hvc ⊢
    have hxw := Hx0.out.trans hx
    have hq0 := hx.heap Hp0.out
    obtain ⟨d0, _⟩ := (Ext.refl wr).box hq0
    have hq0l := heap_lt hq0
    by_cases hlt : k < n
    · obtain ⟨lb, lo, x, rfl, hxk, hlb, c0⟩ := (Hl.out.ext hxw).get k hlt
      obtain ⟨hx1, hx2⟩ := Hi.out x (List.mem_of_getElem? hxk)
      obtain ⟨j, rfl⟩ : ∃ j : Nat, x = (j : Int) := ⟨x.toNat, by omega⟩
      have hjlt : j < rn := by omega
      obtain ⟨rb, ro, ⟨y0, y1⟩, rfl, hyk, hrb, e0, e1⟩ := (Hr.out.ext hxw).get j hjlt
      have hst : spanRows (lefts packs is k) ++ spanRows [⟨y0, y1⟩] = spanRows (lefts packs is (k + 1)) := by
        rw [lefts_succ hxk, left_get hyk, spanRows_append]
      have hsrc := one_span wr ⟨y0, y1⟩
      have hown := how.alloc (.cells #[.int .i64 y0, .int .i64 y1] 23)
      have hx5 := hx.alloc (.cells #[.int .i64 y0, .int .i64 y1] 23)
      have hpl : (spanRows (lefts packs is k)).length = k := by rw [spanRows_len, hlk]
      have hlk2 := lefts_len (packs := packs) (k := k + 1) Hll.out hlt
      have hsz5 := hx5.size
      simp only at e0 e1 hsrc
      have Hst := Lib.hid hst
      have Hsrc := Lib.hid hsrc
      have Hown := Lib.hid hown
      have Hx := Lib.hid hx
      have Hx5 := Lib.hid hx5
      have Hpl := Lib.hid hpl
      have Hlk2 := Lib.hid hlk2
      have Hsz5 := Lib.hid hsz5
      clear hst hsrc hown hx hx5 hpl hlk2 hsz5
      clear how hxk hyk hx1 hxw hq0 hlk
      go_wp2_with (at_builtin; refine wpList_app elemSpan _ rfl (.tmp 14) (.tmp 20) rfl W0.heap.size (.slice va k vc) (spanRows (lefts packs is k)) rfl Hown.out (some ⟨wr.heap.size, 0, none⟩) 1 1 (spanRows [⟨y0, y1⟩]) rfl rfl Hsrc.out (spanRows_row _) ?_ ?_ ?_)
      · rw [Hpl.out]
        omega
      · exact Hsz5.out
      · intro v6 w6 ho6 hg6 _
        rw [Hst.out] at ho6
        have hx6 := Hx5.out.app Hown.out hg6
        obtain ⟨va6, vc6, hv6, _, _, _, _⟩ := ho6.slAt
        rw [spanRows_len, Hlk2.out] at hv6
        subst hv6
        have Ho6 := Lib.hid ho6
        have Hx6 := Lib.hid hx6
        clear ho6 hx6
        clear hg6
        go_wp2_with fail
        go_roundw
        case rel => exact ⟨k + 1, by omega, by go_num, Hx6.out, Ho6.out⟩
        case measure => simp [intOf]; omega
    · obtain rfl : n = k := by omega
      obtain ⟨ua, uc, hu, hf, hc1, hc2, hsp⟩ := spans_of_owns how
      simp only [Value.slice.injEq] at hu
      obtain ⟨rfl, -, rfl⟩ := hu
      have hsum : sumTo (lefts packs is n) n = weigh packs is := by
        unfold lefts
        rw [List.take_of_length_le (Nat.le_of_eq Hll.out)]
        exact sumTo_weigh packs is n Hll.out
      have hsl : ∀ s ∈ lefts packs is n, SpanIs s 0 1000000 := by
        intro s h
        obtain ⟨i, hi1, rfl⟩ := List.mem_map.1 h
        have hi2 := Hi.out i (List.mem_of_mem_take hi1)
        obtain ⟨j, rfl⟩ : ∃ j : Nat, i = (j : Int) := ⟨i.toNat, by omega⟩
        have hj : j < (packs.map leftP).length := by have := Hrr.out; omega
        rw [left_get (List.getElem?_eq_getElem hj)]
        exact Hs.out _ (List.getElem_mem hj)
      rw [hlk] at hsp
      have hsm := sum_any va n vc (lefts packs is n) wr hsp hn hsl
      rw [hsum, Hwv.out] at hsm
      have hq1 := hx.heap Hp1.out
      have Hsm := Lib.hid hsm
      have Hx := Lib.hid hx
      have Hq1 := Lib.hid hq1
      clear hsm hx hq1
      clear hsp how hsl hsum hq0 hxw d0 hf hc1 hc2 hlk hvc hvm hlt hk
      go_wp2_with (go_at_call 65; refine Hsm.out.mono ?_; rintro e w1 ⟨rfl, hx1⟩; have hq2 := hx1.heap Hq1.out; obtain ⟨f0, f1⟩ := (Ext.refl w1).box hq2; have Hq2 := Lib.hid hq2; clear hq2)
      refine bodyPost_ret (results_cell_row rfl _ _ (w.heap.size + 1) 23 #[.int .i64 A, .int .i64 B] (0, 0) _ rfl (set2_box Hq2.out _ _) Tryz.underlying23 rfl (by kernel_rfl)) rfl ?_
      exact ⟨rfl, set2_ext (Hx0.out.trans (Hx.out.trans hx1)) (by omega) _ _⟩
end Go.Proofs.YtcoelhpmkhimpaaGreatDoor

namespace Go.Proofs.YtcoelhpmkhimpaaGreatDoor
open Go.RowKit
set_option linter.unusedVariables false
set_option linter.unusedSimpArgs false
theorem one_spanB {W : World} {b : Nat} {x y : Int} (hb : W.heap[b]? = some (.cells #[.int .i64 x, .int .i64 y] 23 (0, 0))) : SlAt W 2 (some ⟨b, 0, none⟩) 1 (fun k => (spanRows [⟨x, y⟩]).getD k []) :=
  slAt_block (rows := spanRows [⟨x, y⟩]) hb (fun r hr => (spanRows_row _ r hr).1)
def restsTo (l : List Pack) (k : Nat) : List Span := (l.take k).map leftP
theorem restsTo_succ {l : List Pack} {k : Nat} {p : Pack} (h : l[k]? = some p) : restsTo l (k + 1) = restsTo l k ++ [leftP p] := by
  unfold restsTo
  rw [List.take_add_one, h]
  simp
theorem restsTo_len {l : List Pack} {k n : Nat} (h : l.length = n) (hk : k ≤ n) : (restsTo l k).length = k := by
  unfold restsTo
  simp
  omega
def RestsPost (l : List Pack) (n : Nat) (w : World) (e : Ending) (w' : World) : Prop := ∃ a c, e = .returned (.slice a n c) ∧ Ext w w' ∧ SpansAt w' a n (l.map leftP) ∧ n ≤ c ∧ c ≤ maxLen
set_option maxRecDepth 100000 in
set_option maxHeartbeats 4000000 in
theorem rests_any (a : Option Addr) (n cap : Nat) (l : List Pack) (w : World) (hl : PacksAt w a n l) (hn : n ≤ 1000) (hok : l.all packOk = true) (h0 : NoneAt w) : Calls Tryz.prog 32 #[.slice a n cap] w (RestsPost l n w) := by
  have hll := hl.1
  have Hl := Lib.hid hl
  have Hok := Lib.hid hok
  have H0 := Lib.hid h0
  have Hll := Lib.hid hll
  clear hl hok h0 hll
  go_enter Tryz.func32, Tryz.ntmps32
  go_upto_region 3 with fail
  go_loopw [3, 12] (fun v i wr => ∃ k : Nat, k ≤ n ∧ i = .int .i64 k ∧ Ext w wr ∧ Owns wr w.heap.size 23 2 v (spanRows (restsTo l k))) (fun _ i _ => n - (intOf i).toNat)
  case atStart => exact ⟨0, Nat.zero_le _, rfl, Ext.refl _, Owns.nil _ _ _ _⟩
  case round =>
    obtain ⟨k, hk, rfl, hx, how⟩ := hrel
    obtain ⟨va, vc, hv, _, hvc, hvm, _⟩ := how.slAt
    subst hv
    have hlk := restsTo_len Hll.out hk
    rw [spanRows_len, hlk] at how hvc ⊢
    by_cases hlt : k < n
    · obtain ⟨lb, lo, x, rfl, hxk, hlb, c0, c1, c2, c3, c4, c5, c6, c7, c8, c9, c10⟩ := (Hl.out.ext hx).get k hlt
      have hlf := fun W h => left_any x (List.all_eq_true.1 Hok.out x (List.mem_of_getElem? hxk)) W h
      have hsc := restsTo_succ hxk
      obtain ⟨A, hA⟩ : ∃ A, (leftP x).lo = A := ⟨_, rfl⟩
      obtain ⟨B, hB⟩ : ∃ B, (leftP x).hi = B := ⟨_, rfl⟩
      have hlv : leftP x = ⟨A, B⟩ := by rw [← hA, ← hB]
      rw [hlv] at hlf hsc
      clear hA hB hlv hxk
      obtain ⟨pk, ⟨m0, m1⟩, ⟨a0, a1⟩, ⟨b0, b1⟩, ⟨l0, l1⟩, u, d⟩ := x
      unfold Pack.val Span.val at hlf
      simp only at hlf c0 c1 c2 c3 c4 c5 c6 c7 c8 c9 c10
      have hst : spanRows (restsTo l k) ++ spanRows [⟨A, B⟩] = spanRows (restsTo l (k + 1)) := by rw [hsc, spanRows_append]
      have hx5 := hx.alloc (.cells #[.int .u8 pk, .int .i64 m0, .int .i64 m1, .int .i64 a0, .int .i64 a1, .int .i64 b0, .int .i64 b1, .int .i64 l0, .int .i64 l1, .int .i64 u, .int .i64 d] 50)
      have hr5 := (Ext.refl wr).alloc (.cells #[.int .u8 pk, .int .i64 m0, .int .i64 m1, .int .i64 a0, .int .i64 a1, .int .i64 b0, .int .i64 b1, .int .i64 l0, .int .i64 l1, .int .i64 u, .int .i64 d] 50)
      have hn5 := H0.out.ext hx5
      have hpl : (spanRows (restsTo l k)).length = k := by rw [spanRows_len, hlk]
      have hlk2 := restsTo_len (k := k + 1) Hll.out hlt
      have hszr := hx.size
      have Hst := Lib.hid hst
      have Hlf := Lib.hid hlf
      have Hx5 := Lib.hid hx5
      have Hr5 := Lib.hid hr5
      have Hn5 := Lib.hid hn5
      have Hpl := Lib.hid hpl
      have Hlk2 := Lib.hid hlk2
      have How := Lib.hid how
      clear hst hlf hx5 hr5 hn5 hpl hlk2 how
      clear hsc hx hlk
      go_wp2_with (first
        | (go_at_call 64; refine (Hlf.out _ Hn5.out).mono ?_; rintro e w2 ⟨A2, B2, C2, rfl, hx2⟩; have hx7 := Hx5.out.trans hx2; have hr7 := Hr5.out.trans hx2; have hs7 := hx7.size; have hs8 := hr7.size; have Hx7 := Lib.hid hx7; have Hr7 := Lib.hid hr7; clear hx7 hr7 hx2)
        | (at_builtin; refine wpList_app elemSpan _ rfl (.tmp 23) (.tmp 25) rfl w.heap.size (.slice va k vc) (spanRows (restsTo l k)) rfl ?_ (some ⟨_, 0, none⟩) 1 1 (spanRows [⟨A, B⟩]) rfl rfl (one_spanB (alloc_at _ _ _ (by simp))) (spanRows_row _) ?_ ?_ ?_))
      · refine How.out.ext ?_
        repeat (first | exact Hr7.out | refine Ext.alloc ?_ _ | refine Ext.drew ?_ | refine Ext.setCell ?_ (by first | (simp; done) | (simp; omega)) _)
      · rw [Hpl.out]
        omega
      · simp
        omega
      · intro v6 w6 ho6 hg6 _
        rw [Hst.out] at ho6
        have hx6 : Ext w w6 := by
          refine Ext.app ?_ (How.out.ext ?_) hg6
          · repeat (first | exact Hx7.out | refine Ext.alloc ?_ _ | refine Ext.drew ?_ | refine Ext.setCell ?_ (by first | (simp; done) | (simp; omega)) _)
          · repeat (first | exact Hr7.out | refine Ext.alloc ?_ _ | refine Ext.drew ?_ | refine Ext.setCell ?_ (by first | (simp; done) | (simp; omega)) _)
        obtain ⟨va6, vc6, hv6, _, _, _, _⟩ := ho6.slAt
        rw [spanRows_len, Hlk2.out] at hv6
        subst hv6
        have Ho6 := Lib.hid ho6
        have Hx6 := Lib.hid hx6
        clear ho6 hx6
        clear hg6
        go_wp2_with fail
        go_roundw
        case rel => exact ⟨k + 1, by omega, by go_num, Hx6.out, Ho6.out⟩
        case measure => simp [intOf]; omega
    · obtain rfl : n = k := by omega
      obtain ⟨ua, uc, hu, hf, hc1, hc2, hsp⟩ := spans_of_owns how
      simp only [Value.slice.injEq] at hu
      obtain ⟨rfl, -, rfl⟩ := hu
      have hall : restsTo l n = l.map leftP := by
        unfold restsTo
        rw [List.take_of_length_le (Nat.le_of_eq Hll.out)]
      rw [hall] at hsp hlk
      rw [hlk] at hsp
      have Hsp := Lib.hid hsp
      have Hx := Lib.hid hx
      have Hvc := Lib.hid hvc
      have Hvm := Lib.hid hvm
      clear hsp hx hvc hvm
      clear how hall hlk hc1 hc2
      go_wp2_with fail
      go_ret
      exact ⟨_, _, rfl, Hx.out, Hsp.out, Hvc.out, Hvm.out⟩
end Go.Proofs.YtcoelhpmkhimpaaGreatDoor

namespace Go.Proofs.YtcoelhpmkhimpaaGreatDoor
open Go.RowKit
set_option linter.unusedVariables false
set_option linter.unusedSimpArgs false
/-- an even load, by its sides -/
def evenS (L R : Span) (bound : Int) : Int :=
  if -bound ≤ L.lo - R.hi ∧ L.hi - R.lo ≤ bound then 2 else if bound < L.lo - R.hi ∨ L.hi - R.lo < -bound then 0 else 1
theorem evenS_of (l : List Pack) (t : Tied) (bound : Int) : evenOf l t bound = evenS (weigh l t.left) (weigh l t.right) bound := rfl
set_option maxRecDepth 100000 in
set_option maxHeartbeats 8000000 in
theorem balance_any (a1 a2 a3 : Option Addr) (n1 n2 n3 c1 c2 c3 : Nat) (t : Tied) (ra : Option Addr) (rn rc : Nat) (packs : List Pack) (bound : Int) (w : World) (ht : TiedAt w a1 a2 a3 n1 n2 n3 c1 c2 c3 t) (hr : SpansAt w ra rn (packs.map leftP))
    (hn1 : n1 ≤ 1000) (hn2 : n2 ≤ 1000) (hrn : rn ≤ 1000) (hi : ∀ i ∈ allOf t, 0 ≤ i ∧ i < rn) (hs : packs.all packOk = true) (hb : 0 ≤ bound ∧ bound ≤ 1000000000) :
    Calls Tryz.prog 35 #[.agg #[.slice a1 n1 c1, .slice a2 n2 c2, .slice a3 n3 c3, .slice ra rn rc], .int .i64 bound] w fun e w' => e = .returned (.int .u8 (evenOf packs t bound)) ∧ Ext w w' := by
  have hss : ∀ s ∈ packs.map leftP, SpanIs s 0 1000000 := fun s h => by
    obtain ⟨p, hp, rfl⟩ := List.mem_map.1 h
    exact left_of (packIs (List.all_eq_true.1 hs p hp))
  have hpl : packs.length = rn := by have := hr.1; simpa using this
  have hil : ∀ i ∈ t.left, 0 ≤ i ∧ i < rn := fun i h => hi i (by simp [allOf, h])
  have hir : ∀ i ∈ t.right, 0 ≤ i ∧ i < rn := fun i h => hi i (by simp [allOf, h])
  have hwl := fun W (hW : Ext w W) => weight_any a1 a2 a3 n1 n2 n3 c1 c2 c3 ra rn rc a1 n1 c1 t.left packs W (hr.ext hW) (ht.left.ext hW) hn1 hrn hil hss
  have hwr := fun W (hW : Ext w W) => weight_any a1 a2 a3 n1 n2 n3 c1 c2 c3 ra rn rc a2 n2 c2 t.right packs W (hr.ext hW) (ht.right.ext hW) hn2 hrn hir hss
  have bl := weigh_is (l := packs) t.left fun i h => all_at hs (hil i h).1 (by have := (hil i h).2; omega)
  have br := weigh_is (l := packs) t.right fun i h => all_at hs (hir i h).1 (by have := (hir i h).2; omega)
  rw [ht.left.1] at bl
  rw [ht.right.1] at br
  rw [evenS_of]
  generalize weigh packs t.left = L at *
  generalize weigh packs t.right = R at *
  obtain ⟨l0, l1⟩ := L
  obtain ⟨r0, r1⟩ := R
  unfold Span.val at hwl hwr
  unfold evenS
  simp only at hwl hwr bl br ⊢
  obtain ⟨x1, x2, x3⟩ := bl
  obtain ⟨y1, y2, y3⟩ := br
  have x3 : l1 ≤ 1000000000 := by omega
  have y3 : r1 ≤ 1000000000 := by omega
  obtain ⟨b1, b2⟩ := hb
  clear hi hil hir hss hs hpl ht hr
  obtain ⟨P, hP⟩ : ∃ P, (inB (l0 - r1) (-bound) bound && inB (l1 - r0) (-bound) bound) = P := ⟨_, rfl⟩
  have hev : (if -bound ≤ l0 - r1 ∧ l1 - r0 ≤ bound then (2 : Int) else if bound < l0 - r1 ∨ l1 - r0 < -bound then 0 else 1) = if P = true then 2 else if bound < l0 - r1 ∨ l1 - r0 < -bound then 0 else 1 := by
    have : (P = true) ↔ (-bound ≤ l0 - r1 ∧ l1 - r0 ≤ bound) := by
      rw [← hP]
      simp only [inB, Bool.and_eq_true, decide_eq_true_eq]
      omega
    simp only [this]
  rw [hev]
  clear hev
  obtain ⟨W0, hW0⟩ : ∃ W0, w.alloc (.cells #[.slice a1 n1 c1, .slice a2 n2 c2, .slice a3 n3 c3, .slice ra rn rc] 77) = W0 := ⟨_, rfl⟩
  have hx0 : Ext w W0 := by rw [← hW0]; exact (Ext.refl w).alloc _
  have hc0 : W0.heap[w.heap.size]? = some (.cells #[.slice a1 n1 c1, .slice a2 n2 c2, .slice a3 n3 c3, .slice ra rn rc] 77 (0, 0)) := by rw [← hW0]; exact heap_alloc_new w _
  have Hwl := Lib.hid hwl
  have Hwr := Lib.hid hwr
  have Hx0 := Lib.hid hx0
  have Hc0 := Lib.hid hc0
  have HP := Lib.hid hP
  clear hwl hwr hx0 hc0 hP
  go_enter Tryz.func35, Tryz.ntmps35
  go_upto_region 1 with fail
  clear hW0
  refine wp_region_plan (.take [0, 1, 2, 3, 5, 6, 7, 8] (.call 4 (.call 9 (.two 10 (.one 11 (.fin (.one 12 (.one 13 .done)))) 11 (.one 10 (.fin (.one 12 (.one 13 .done)))))))) [12, 13] (Ext W0) _ (by kernel_rfl) (by kernel_rfl) rfl (EC.ext W0) ((Ext.refl _).drew) ?_
  simp only [planOf, treeOf, oneOp, twoOp, opsOf, consOp, callOC, oneOC, twoOC, List.getElem?_toArray, List.getElem?_cons_succ, List.getElem?_cons_zero]
  intro ι _ f hf
  have f0 := fun q => ((hf q).box Hc0.out).1
  clear hf
  repeat (go_big_quiet_step (fail))
  refine wpQuiet_nil ?_
  clear f0
  refine wpOC_call (args := #[.agg #[.slice a1 n1 c1, .slice a2 n2 c2, .slice a3 n3 c3, .slice ra rn rc], .slice a1 n1 c1]) (v := .agg #[.int .i64 l0, .int .i64 l1]) rfl rfl (enters_of Tryz.func33 (by kernel_rfl) rfl) (by kernel_rfl) (fun V hV => Hwl.out V (Hx0.out.trans hV)) ?_
  simp only [Act.put, List.setIfInBounds_toArray, List.set_cons_succ, List.set_cons_zero]
  refine wpOC_call (args := #[.agg #[.slice a1 n1 c1, .slice a2 n2 c2, .slice a3 n3 c3, .slice ra rn rc], .slice a2 n2 c2]) (v := .agg #[.int .i64 r0, .int .i64 r1]) rfl rfl (enters_of Tryz.func33 (by kernel_rfl) rfl) (by kernel_rfl) (fun V hV => Hwr.out V (Hx0.out.trans hV)) ?_
  simp only [Act.put, List.setIfInBounds_toArray, List.set_cons_succ, List.set_cons_zero]
  refine wpOC_two ?_
  apply join_orders (F := fun p7 p8 V => Ext W0 V ∧ p8 ≠ p7 ∧ V.heap[p7]? = some (.cells #[.int .i64 l0, .int .i64 l1] 23 (0, 0)) ∧ V.heap[p8]? = some (.cells #[.int .i64 r0, .int .i64 r1] 23 (0, 0)))
  · intro g Wa hxa
    have G := Lib.hid g
    clear g
    go_wp2_with fail
    have hpa := hxa.size
    have haa := heap_alloc_new Wa (.cells #[.int .i64 0, .int .i64 0] 23)
    have hxa' := hxa.alloc (.cells #[.int .i64 0, .int .i64 0] 23)
    generalize Wa.alloc (.cells #[.int .i64 0, .int .i64 0] 23) = Wa' at *
    generalize Wa.heap.size = pa at *
    refine ⟨fun V => Ext W0 V ∧ V.heap[pa]? = some (.cells #[.int .i64 0, .int .i64 0] 23 (0, 0)), (EC.ext W0).and (EC.heap pa _), fun _ h => h.1, ⟨hxa', haa⟩, ?_⟩
    clear hxa hxa' haa Wa Wa'
    rintro Wb ⟨hxb, hab⟩
    go_wp2_with fail
    have hpb := hxb.size
    have hlb := heap_lt hab
    have hbb := heap_alloc_new Wb (.cells #[.int .i64 0, .int .i64 0] 23)
    have hxb' := hxb.alloc (.cells #[.int .i64 0, .int .i64 0] 23)
    have hab' := ((Ext.refl Wb).alloc (.cells #[.int .i64 0, .int .i64 0] 23)).heap hab
    have hne : pa ≠ Wb.heap.size := by omega
    clear hlb
    generalize Wb.alloc (.cells #[.int .i64 0, .int .i64 0] 23) = Wb' at *
    generalize Wb.heap.size = pb at *
    refine ⟨fun V => (Ext W0 V ∧ V.heap[pa]? = some (.cells #[.int .i64 0, .int .i64 0] 23 (0, 0))) ∧ V.heap[pb]? = some (.cells #[.int .i64 0, .int .i64 0] 23 (0, 0)), ((EC.ext W0).and (EC.heap pa _)).and (EC.heap pb _), fun _ h => h.1, ⟨⟨hxb', hab'⟩, hbb⟩, ?_⟩
    clear hxb hxb' hab hab' hbb Wb Wb'
    rintro Wc ⟨⟨hxc, hac⟩, hbc⟩
    refine wpOT_one ?_
    obtain ⟨k0, k1⟩ := (Ext.refl Wc).box hac
    obtain ⟨j0, j1⟩ := (Ext.refl Wc).box hbc
    have hla := heap_lt hac
    have hlb := heap_lt hbc
    go_wp2_with fail
    refine wpOT_one ?_
    go_wp2_with fail
    refine wpOT_done ?_
    have hxe := set2_ext (set2_ext hxc (b := pa) hpa (.int .i64 l0) (.int .i64 l1)) (b := pb) hpb (.int .i64 r0) (.int .i64 r1)
    have hb7 := set2_other (set2_box hac (.int .i64 l0) (.int .i64 l1)) (b := pb) hne (.int .i64 r0) (.int .i64 r1)
    have hb8 := set2_box (set2_other hbc (b := pa) (Ne.symm hne) (.int .i64 l0) (.int .i64 l1)) (.int .i64 r0) (.int .i64 r1)
    exact G.out _ _ _ ⟨hxe, (Ne.symm hne), hb7, hb8⟩
  · intro g Wa hxa
    have G := Lib.hid g
    clear g
    go_wp2_with fail
    have hpa := hxa.size
    have haa := heap_alloc_new Wa (.cells #[.int .i64 0, .int .i64 0] 23)
    have hxa' := hxa.alloc (.cells #[.int .i64 0, .int .i64 0] 23)
    generalize Wa.alloc (.cells #[.int .i64 0, .int .i64 0] 23) = Wa' at *
    generalize Wa.heap.size = pa at *
    refine ⟨fun V => Ext W0 V ∧ V.heap[pa]? = some (.cells #[.int .i64 0, .int .i64 0] 23 (0, 0)), (EC.ext W0).and (EC.heap pa _), fun _ h => h.1, ⟨hxa', haa⟩, ?_⟩
    clear hxa hxa' haa Wa Wa'
    rintro Wb ⟨hxb, hab⟩
    go_wp2_with fail
    have hpb := hxb.size
    have hlb := heap_lt hab
    have hbb := heap_alloc_new Wb (.cells #[.int .i64 0, .int .i64 0] 23)
    have hxb' := hxb.alloc (.cells #[.int .i64 0, .int .i64 0] 23)
    have hab' := ((Ext.refl Wb).alloc (.cells #[.int .i64 0, .int .i64 0] 23)).heap hab
    have hne : pa ≠ Wb.heap.size := by omega
    clear hlb
    generalize Wb.alloc (.cells #[.int .i64 0, .int .i64 0] 23) = Wb' at *
    generalize Wb.heap.size = pb at *
    refine ⟨fun V => (Ext W0 V ∧ V.heap[pa]? = some (.cells #[.int .i64 0, .int .i64 0] 23 (0, 0))) ∧ V.heap[pb]? = some (.cells #[.int .i64 0, .int .i64 0] 23 (0, 0)), ((EC.ext W0).and (EC.heap pa _)).and (EC.heap pb _), fun _ h => h.1, ⟨⟨hxb', hab'⟩, hbb⟩, ?_⟩
    clear hxb hxb' hab hab' hbb Wb Wb'
    rintro Wc ⟨⟨hxc, hac⟩, hbc⟩
    refine wpOT_one ?_
    obtain ⟨k0, k1⟩ := (Ext.refl Wc).box hac
    obtain ⟨j0, j1⟩ := (Ext.refl Wc).box hbc
    have hla := heap_lt hac
    have hlb := heap_lt hbc
    go_wp2_with fail
    refine wpOT_one ?_
    go_wp2_with fail
    refine wpOT_done ?_
    have hxe := set2_ext (set2_ext hxc (b := pb) hpb (.int .i64 l0) (.int .i64 l1)) (b := pa) hpa (.int .i64 r0) (.int .i64 r1)
    have hb7 := set2_other (set2_box hbc (.int .i64 l0) (.int .i64 l1)) (b := pa) (Ne.symm hne) (.int .i64 r0) (.int .i64 r1)
    have hb8 := set2_box (set2_other hac (b := pb) hne (.int .i64 l0) (.int .i64 l1)) (.int .i64 r0) (.int .i64 r1)
    exact G.out _ _ _ ⟨hxe, hne, hb7, hb8⟩
  rintro p7 p8 V ⟨hV, hne, hb7, hb8⟩
  have hxV := Hx0.out.trans hV
  clear hV hne Hx0 Hc0 Hwl Hwr
  have HxV := Lib.hid hxV
  have Hb7 := Lib.hid hb7
  have Hb8 := Lib.hid hb8
  clear hxV hb7 hb8
  go_upto_region 2 with fail
  refine wp_region_ext (by kernel_rfl) (by kernel_rfl) (fun f hf hs => ?_)
  have f7 := fun q => ((hf q).box Hb7.out).1
  have f8 := fun q => ((hf q).box Hb8.out).1
  clear hf hs
  repeat (go_big_quiet_step (fail))
  refine wpQuiet_nil ?_
  intro W1 hW1
  clear f7 f8
  have hxW := HxV.out.trans hW1
  clear hW1
  have HxW := Lib.hid hxW
  clear hxW
  cases P with
  | true =>
    go_wp2_with (go_at_call 21; refine (inL2 (alloc_at _ _ _ (by simp)) HP.out).mono ?_; rintro e w1 ⟨rfl, hx1⟩)
    go_ret
    exact ⟨rfl, HxW.out.trans (((Ext.refl _).alloc _).trans hx1)⟩
  | false =>
    by_cases q1 : bound < l0 - r1
    · have q1B : decide (bound < l0 - r1) = true := decide_eq_true q1
      go_wp2_with (go_at_call 21; refine (inL2 (alloc_at _ _ _ (by simp)) HP.out).mono ?_; rintro e w1 ⟨rfl, hx1⟩)
      go_ret
      exact ⟨by simp [q1], HxW.out.trans (((Ext.refl _).alloc _).trans hx1)⟩
    · have q1B : decide (bound < l0 - r1) = false := decide_eq_false q1
      by_cases q2 : l1 - r0 < -bound
      · have q2B : decide (l1 - r0 < -bound) = true := decide_eq_true q2
        go_wp2_with (go_at_call 21; refine (inL2 (alloc_at _ _ _ (by simp)) HP.out).mono ?_; rintro e w1 ⟨rfl, hx1⟩)
        go_ret
        exact ⟨by simp [q2], HxW.out.trans (((Ext.refl _).alloc _).trans hx1)⟩
      · have q2B : decide (l1 - r0 < -bound) = false := decide_eq_false q2
        go_wp2_with (go_at_call 21; refine (inL2 (alloc_at _ _ _ (by simp)) HP.out).mono ?_; rintro e w1 ⟨rfl, hx1⟩)
        go_ret
        exact ⟨by simp [q1, q2], HxW.out.trans (((Ext.refl _).alloc _).trans hx1)⟩
end Go.Proofs.YtcoelhpmkhimpaaGreatDoor

namespace Go.Proofs.YtcoelhpmkhimpaaGreatDoor
open Go.RowKit
set_option linter.unusedVariables false
set_option linter.unusedSimpArgs false
/-- packs and a load, valid ones -/
structure LoadIn (pa : Option Addr) (pn : Nat) (l : List Pack) (a1 a2 a3 : Option Addr) (n1 n2 n3 c1 c2 c3 : Nat) (t : Tied) (W : World) : Prop where
  packs : PacksAt W pa pn l
  tied : TiedAt W a1 a2 a3 n1 n2 n3 c1 c2 c3 t
  nil0 : NoneAt W
  few : pn ≤ 30
  ok : l.all packOk = true
  ties : TiesIs pn t
theorem LoadIn.ext {pa : Option Addr} {pn : Nat} {l : List Pack} {a1 a2 a3 : Option Addr} {n1 n2 n3 c1 c2 c3 : Nat} {t : Tied} {W V : World} (h : LoadIn pa pn l a1 a2 a3 n1 n2 n3 c1 c2 c3 t W) (e : Ext W V) : LoadIn pa pn l a1 a2 a3 n1 n2 n3 c1 c2 c3 t V :=
  ⟨h.packs.ext e, h.tied.ext e, h.nil0.ext e, h.few, h.ok, h.ties⟩
set_option maxRecDepth 20000
section
variable {pa : Option Addr} {pn : Nat} {l : List Pack} {a1 a2 a3 : Option Addr} {n1 n2 n3 c1 c2 c3 : Nat} {t : Tied} {W : World}
theorem LoadIn.small (h : LoadIn pa pn l a1 a2 a3 n1 n2 n3 c1 c2 c3 t W) : n1 ≤ 10 ∧ n2 ≤ 10 ∧ n3 ≤ 10 := by
  have h1 := h.tied.len
  have h2 := h.ties.few
  omega
theorem LoadIn.check (h : LoadIn pa pn l a1 a2 a3 n1 n2 n3 c1 c2 c3 t W) (pc tb : Nat) (hb : W.heap[tb]? = some (.cells #[.slice a1 n1 c1, .slice a2 n2 c2, .slice a3 n3 c3] 31 (0, 0))) :
    Calls Tryz.prog 19 #[.slice pa pn pc, .slice (some ⟨tb, 0, none⟩) 1 1] W fun e w' => e = .returned (.tuple #[]) ∧ Ext W w' :=
  checkL_any pa pn pc l a1 a2 a3 n1 n2 n3 c1 c2 c3 t tb W h.packs h.few h.ok h.nil0 h.tied hb h.ties
theorem LoadIn.rests (h : LoadIn pa pn l a1 a2 a3 n1 n2 n3 c1 c2 c3 t W) (pc : Nat) : Calls Tryz.prog 32 #[.slice pa pn pc] W (RestsPost l pn W) :=
  rests_any pa pn pc l W h.packs (by have := h.few; omega) h.ok h.nil0
theorem LoadIn.spans (h : LoadIn pa pn l a1 a2 a3 n1 n2 n3 c1 c2 c3 t W) : ∀ s ∈ l.map leftP, SpanIs s 0 1000000 := fun s hs => by
  obtain ⟨p, hp, rfl⟩ := List.mem_map.1 hs
  exact left_of (packIs (List.all_eq_true.1 h.ok p hp))
theorem LoadIn.all (h : LoadIn pa pn l a1 a2 a3 n1 n2 n3 c1 c2 c3 t W) : Calls Tryz.prog 34 #[.agg #[.slice a1 n1 c1, .slice a2 n2 c2, .slice a3 n3 c3]] W (ConcatPost (allOf t) W) :=
  all_any a1 a2 a3 n1 n2 n3 c1 c2 c3 t W h.tied (by have := h.ties.few; omega)
theorem LoadIn.weight (h : LoadIn pa pn l a1 a2 a3 n1 n2 n3 c1 c2 c3 t W) {ra : Option Addr} (rc : Nat) (hr : SpansAt W ra pn (l.map leftP)) {a : Option Addr} {n : Nat} (cap : Nat) {is : List Int} (hl : IntsAt .i64 W a n is) (hi : ∀ i ∈ is, i ∈ allOf t) (hn : n ≤ 1000) :
    Calls Tryz.prog 33 #[.agg #[.slice a1 n1 c1, .slice a2 n2 c2, .slice a3 n3 c3, .slice ra pn rc], .slice a n cap] W fun e w' => e = .returned (weigh l is).val ∧ Ext W w' :=
  weight_any a1 a2 a3 n1 n2 n3 c1 c2 c3 ra pn rc a n cap is l W hr hl hn (by have := h.few; omega) (fun i hx => h.ties.range i (hi i hx)) h.spans
theorem LoadIn.balance (h : LoadIn pa pn l a1 a2 a3 n1 n2 n3 c1 c2 c3 t W) {ra : Option Addr} (rc : Nat) (hr : SpansAt W ra pn (l.map leftP)) (bound : Int) (hb : 0 ≤ bound ∧ bound ≤ 1000000000) :
    Calls Tryz.prog 35 #[.agg #[.slice a1 n1 c1, .slice a2 n2 c2, .slice a3 n3 c3, .slice ra pn rc], .int .i64 bound] W fun e w' => e = .returned (.int .u8 (evenOf l t bound)) ∧ Ext W w' :=
  balance_any a1 a2 a3 n1 n2 n3 c1 c2 c3 t ra pn rc l bound W h.tied hr (by have := h.small; omega) (by have := h.small; omega) (by have := h.few; omega) (fun i hx => h.ties.range i hx) h.ok hb
end
/-- what is left of packs, as a slice -/
def IsRests (l : List Pack) (n : Nat) : Rel := fun v W => ∃ a c, v = .slice a n c ∧ SpansAt W a n (l.map leftP)
theorem isRests_ec (l : List Pack) (n : Nat) (v : Value) : EC (IsRests l n v) := fun _ _ ⟨a, c, h1, h2⟩ e => ⟨a, c, h1, h2.ext e⟩
/-- a load at work -/
def IsWork (l : List Pack) (n : Nat) (x y z : Value) : Rel := fun v W => ∃ a c, v = .agg #[x, y, z, .slice a n c] ∧ SpansAt W a n (l.map leftP)
theorem isWork_ec (l : List Pack) (n : Nat) (x y z : Value) (v : Value) : EC (IsWork l n x y z v) := fun _ _ ⟨a, c, h1, h2⟩ e => ⟨a, c, h1, h2.ext e⟩
set_option maxRecDepth 100000 in
set_option maxHeartbeats 8000000 in
theorem balF_any (k0 k1 k2 k3 : Nat) (pa : Option Addr) (pn pc : Nat) (l : List Pack) (a1 a2 a3 : Option Addr) (n1 n2 n3 c1 c2 c3 : Nat) (t : Tied) (bound : Int) (r0 : Int) (w : World) (h : LoadIn pa pn l a1 a2 a3 n1 n2 n3 c1 c2 c3 t w)
    (g0 : w.heap[k0]? = some (.cells #[.slice pa pn pc] 28 (0, 0))) (g1 : w.heap[k1]? = some (.cells #[.slice a1 n1 c1, .slice a2 n2 c2, .slice a3 n3 c3] 31 (0, 0))) (g2 : w.heap[k2]? = some (.cells #[.int .i64 bound] 3 (0, 0))) (g3 : w.heap[k3]? = some (.cells #[.int .u8 r0] 5 (0, 0))) (hb : 0 ≤ bound ∧ bound ≤ 1000000000) :
    Calls Tryz.prog 36 #[.pointer (some ⟨k0, 0, none⟩), .pointer (some ⟨k1, 0, none⟩), .pointer (some ⟨k2, 0, none⟩), .pointer (some ⟨k3, 0, none⟩)] w fun e w' => e = .returned (.tuple #[]) ∧ ∃ V, Ext w V ∧ w' = V.setCell ⟨k3, 0, none⟩ (.int .u8 (evenOf l t bound)) := by
  have hbo := bounded_yes bound (by unfold inB; simp; omega)
  obtain ⟨E, hE⟩ : ∃ E, evenOf l t bound = E := ⟨_, rfl⟩
  have hbal := fun W (hW : Ext w W) a c (hs : SpansAt W a pn (l.map leftP)) => (h.ext hW).balance (ra := a) c hs bound hb
  rw [hE] at hbal ⊢
  clear hE
  obtain ⟨f0, _⟩ := (Ext.refl w).box g0
  obtain ⟨f1, _⟩ := (Ext.refl w).box g1
  obtain ⟨f2, _⟩ := (Ext.refl w).box g2
  have gl0 := heap_lt g0
  have gl1 := heap_lt g1
  have gl2 := heap_lt g2
  have H := Lib.hid h
  have G0 := Lib.hid g0
  have G1 := Lib.hid g1
  have G2 := Lib.hid g2
  have G3 := Lib.hid g3
  have Hbo := Lib.hid hbo
  have Hbal := Lib.hid hbal
  clear h g0 g1 g2 g3 hbo hbal
  clear hb
  go_enter Tryz.func36, Tryz.ntmps36
  go_upto_region 2 with (first
    | (go_at_call 19; refine ((H.out.ext ((Ext.refl w).alloc _)).check _ _ (alloc_at _ _ _ rfl)).mono ?_; rintro e w1 ⟨rfl, hx1⟩; have hy1 := ((Ext.refl w).alloc _).trans hx1; clear f0 f1 f2; obtain ⟨f2, _⟩ := (Ext.refl w1).box (hy1.heap G2.out); have gl3 := heap_lt (hy1.heap G2.out))
    | (go_at_call 31; refine (Hbo.out _).mono ?_; rintro e W0 ⟨rfl, hx2⟩; have hy2 := hy1.trans hx2))
  clear f2 hx1 hx2 hy1
  have q0 := hy2.heap G0.out
  have q1 := hy2.heap G1.out
  have q2 := hy2.heap G2.out
  have hin := H.out.ext hy2
  have Q0 := Lib.hid q0
  have Q1 := Lib.hid q1
  have Q2 := Lib.hid q2
  have Hy2 := Lib.hid hy2
  have Hin := Lib.hid hin
  clear q0 q1 q2 hy2 hin
  refine wp_region_flow (.take [0, 1, 4] (.flow [2, 3, 5] [12, 13, 15] [[], [0], [1]] (.one 6 .done))) [6] (Ext W0) _ (by kernel_rfl) (by kernel_rfl) rfl (EC.ext W0) ((Ext.refl _).drew) ?_
  simp only [flowOf, treeOf, oneOp, twoOp, opsOf, consOp, callOF, List.getElem?_toArray, List.getElem?_cons_succ, List.getElem?_cons_zero]
  intro ι _ f hf
  have f0 := fun q => ((hf q).box Q0.out).1
  have f1 := fun q => ((hf q).box Q1.out).1
  have f2 := fun q => ((hf q).box Q2.out).1
  clear hf
  repeat (go_big_quiet_step (fail))
  refine wpQuiet_nil ?_
  clear f0 f1 f2
  refine wpOF_flow [IsRests l pn, IsWork l pn (.slice a1 n1 c1) (.slice a2 n2 c2) (.slice a3 n3 c3), IsV (.int .u8 E)] rfl ⟨isRests_ec l pn, isWork_ec l pn (.slice a1 n1 c1) (.slice a2 n2 c2) (.slice a3 n3 c3), isV_ec (.int .u8 E), trivial⟩ (flowSteps_cons ?_ (flowSteps_cons ?_ (flowSteps_cons ?_ flowSteps_nil))) ?_
  · intro xs W hlen hS hn
    obtain ⟨x0, x1, x2, rfl⟩ := len3 hlen
    simp only [puts, Act.put, List.setIfInBounds_toArray, List.set_cons_succ, List.set_cons_zero]
    go_wp2_with (go_at_call 32; refine ((Hin.out.ext hS).rests pc).mono ?_; rintro e W1 ⟨ra, rc, rfl, hx1, hsp, -, -⟩)
    exact FlowPost.mk (.slice ra pn rc) rfl hx1 ⟨ra, rc, rfl, hsp⟩
  · intro xs W hlen hS hn
    obtain ⟨x0, x1, x2, rfl⟩ := len3 hlen
    simp only [puts, Act.put, List.setIfInBounds_toArray, List.set_cons_succ, List.set_cons_zero]
    obtain ⟨ra, rc, rfl, hsp⟩ : IsRests l pn x0 W := hn.1
    go_wp2_with fail
    exact FlowPost.mk (.agg #[.slice a1 n1 c1, .slice a2 n2 c2, .slice a3 n3 c3, .slice ra pn rc]) rfl (Ext.refl _) ⟨ra, rc, rfl, hsp⟩
  · intro xs W hlen hS hn
    obtain ⟨x0, x1, x2, rfl⟩ := len3 hlen
    simp only [puts, Act.put, List.setIfInBounds_toArray, List.set_cons_succ, List.set_cons_zero]
    obtain ⟨ra, rc, rfl, hsp⟩ : IsWork l pn (.slice a1 n1 c1) (.slice a2 n2 c2) (.slice a3 n3 c3) x1 W := hn.1
    go_wp2_with (go_at_call 35; refine (Hbal.out W (Hy2.out.trans hS) ra rc hsp).mono ?_; rintro e W1 ⟨rfl, hx1⟩)
    exact FlowPost.mk (.int .u8 E) rfl hx1 rfl
  intro xs W hlen hS hn
  obtain ⟨x0, x1, x2, rfl⟩ := len3 hlen
  simp only [puts, Act.put, List.setIfInBounds_toArray, List.set_cons_succ, List.set_cons_zero]
  obtain ⟨-, -, rfl, -⟩ := hn
  have hyW := Hy2.out.trans hS
  obtain ⟨f3, f4⟩ := (Ext.refl W).box (hyW.heap G3.out)
  refine wpOT_one ?_
  go_wp2_with fail
  refine wpOT_done ?_
  go_wp2_with fail
  go_end0
  exact ⟨rfl, W, hyW, rfl⟩
end Go.Proofs.YtcoelhpmkhimpaaGreatDoor

namespace Go.Proofs.YtcoelhpmkhimpaaGreatDoor
open Go.RowKit
set_option linter.unusedVariables false
set_option linter.unusedSimpArgs false
/-- what was tried returns -/
theorem try_done {G : Int → World → Prop} {p : Nat} {V : World} (hp : V.heap[p]? = some (.cells #[.int .i64 0] 35 (0, 0))) (hG : G 0 (V.setCell ⟨p, 0, none⟩ (.int .i64 0))) :
    V.cell? ⟨p, 0, none⟩ = some (.int .i64 0) ∧ V.frozen? ⟨p, 0, none⟩ = false ∧ ∃ k : Int, ((Ending.returned (.tuple #[]) = .returned (.tuple #[]) ∧ k = 0) ∨ Ending.returned (.tuple #[]) = .panicked [{ v := .iface 35 (.int .i64 k), recovered := false }]) ∧ G k (V.setCell ⟨p, 0, none⟩ (.int .i64 k)) := by
  obtain ⟨h1, h2⟩ := (Ext.refl V).box hp
  exact ⟨by simpa using h1 0, h2 0, 0, .inl ⟨rfl, rfl⟩, hG⟩
theorem set1_other {W : World} {b k j : Nat} {o : Obj} (h : W.heap[k]? = some o) (hne : k ≠ b) (x : Value) : (W.setCell ⟨b, j, none⟩ x).heap[k]? = some o := (Below.heap_setCell _ _ _ _ (by simpa using hne)).trans h
theorem set1_box {W : World} {b : Nat} {x0 : Value} {T : TypeId} (h : W.heap[b]? = some (.cells #[x0] T (0, 0))) (x : Value) : (W.setCell ⟨b, 0, none⟩ x).heap[b]? = some (.cells #[x] T (0, 0)) := by
  rw [heap_setCell_box, h]
  rfl
theorem set1_ext {w W : World} (hx : Ext w W) {b : Nat} (hb : w.heap.size ≤ b) (j : Nat) (x : Value) : Ext w (W.setCell ⟨b, j, none⟩ x) := hx.setCell (p := ⟨b, j, none⟩) hb _
set_option maxRecDepth 100000 in
set_option maxHeartbeats 8000000 in
theorem balance9_any (pa : Option Addr) (pn pc : Nat) (l : List Pack) (a1 a2 a3 : Option Addr) (n1 n2 n3 c1 c2 c3 : Nat) (t : Tied) (bound : Int) (w : World) (h : LoadIn pa pn l a1 a2 a3 n1 n2 n3 c1 c2 c3 t w) (hb : 0 ≤ bound ∧ bound ≤ 1000000000) :
    Calls Tryz.prog 9 #[.slice pa pn pc, .agg #[.slice a1 n1 c1, .slice a2 n2 c2, .slice a3 n3 c3], .int .i64 bound] w fun e w' => e = .returned (.tuple #[.int .u8 (evenOf l t bound), .int .i64 0]) ∧ Ext w w' := by
  have hmf : ∀ (fn : Fn) (first cap : Array Value) (w : World), (Instr.makeFunc fn first cap).run Tryz.prog w = .ok (.func fn first cap) w := fun _ _ _ _ => rfl
  obtain ⟨E, hE⟩ : ∃ E, evenOf l t bound = E := ⟨_, rfl⟩
  have hfn := fun k0 k1 k2 k3 W (hW : Ext w W) => balF_any k0 k1 k2 k3 pa pn pc l a1 a2 a3 n1 n2 n3 c1 c2 c3 t bound 0 W (h.ext hW)
  rw [hE] at hfn ⊢
  obtain ⟨W4, hW4⟩ : ∃ W4, (((w.alloc (.cells #[.slice pa pn pc] 28)).alloc (.cells #[.slice a1 n1 c1, .slice a2 n2 c2, .slice a3 n3 c3] 31)).alloc (.cells #[.int .i64 bound] 3)).alloc (.cells #[.int .u8 0] 5) = W4 := ⟨_, rfl⟩
  have hx4 : Ext w W4 := by rw [← hW4]; exact ((((Ext.refl w).alloc _).alloc _).alloc _).alloc _
  have g0 : W4.heap[w.heap.size]? = some (.cells #[.slice pa pn pc] 28 (0, 0)) := by rw [← hW4]; exact alloc_heap (alloc_heap (alloc_heap (heap_alloc_new w _) _) _) _
  have g1 : W4.heap[w.heap.size + 1]? = some (.cells #[.slice a1 n1 c1, .slice a2 n2 c2, .slice a3 n3 c3] 31 (0, 0)) := by rw [← hW4]; exact alloc_heap (alloc_heap (alloc_at _ _ _ (by simp)) _) _
  have g2 : W4.heap[w.heap.size + 1 + 1]? = some (.cells #[.int .i64 bound] 3 (0, 0)) := by rw [← hW4]; exact alloc_heap (alloc_at _ _ _ (by simp)) _
  have g3 : W4.heap[w.heap.size + 1 + 1 + 1]? = some (.cells #[.int .u8 0] 5 (0, 0)) := by rw [← hW4]; exact alloc_at _ _ _ (by simp)
  have hx5 := (Ext.refl W4).alloc (.cells #[.int .i64 0] 35)
  have hp5 := heap_alloc_new W4 (.cells #[.int .i64 0] 35)
  have g3l := heap_lt g3
  have htry := trying_any 36 #[.pointer (some ⟨w.heap.size, 0, none⟩), .pointer (some ⟨w.heap.size + 1, 0, none⟩), .pointer (some ⟨w.heap.size + 1 + 1, 0, none⟩), .pointer (some ⟨w.heap.size + 1 + 1 + 1, 0, none⟩)] (fun _ => rfl) W4 (fun k V => k = 0 ∧ Ext w V ∧ V.heap[w.heap.size + 1 + 1 + 1]? = some (.cells #[.int .u8 E] 5 (0, 0))) (by
    refine (hfn _ _ _ _ _ (hx4.trans hx5) (hx5.heap g0) (hx5.heap g1) (hx5.heap g2) (hx5.heap g3) hb).mono ?_
    rintro e V ⟨rfl, V1, hV1, rfl⟩
    have hp6 := set1_other (b := w.heap.size + 1 + 1 + 1) (j := 0) (hV1.heap hp5) (by omega) (.int .u8 E)
    refine try_done (G := fun k V => k = 0 ∧ Ext w V ∧ V.heap[w.heap.size + 1 + 1 + 1]? = some (.cells #[.int .u8 E] 5 (0, 0))) hp6 ⟨rfl, set1_ext (set1_ext ((hx4.trans hx5).trans hV1) (by omega) _ _) (by omega) _ _, set1_other (set1_box (hV1.heap (hx5.heap g3)) _) (by omega) _⟩)
  have Htry := Lib.hid htry
  clear htry
  clear hfn h hb g0 g1 g2 g3 hx5 hp5 g3l hx4 hE
  go_enter Tryz.func9, Tryz.ntmps9
  go_upto_region 1 with fail
  clear hW4
  go_wp2_with (go_at_call 17; refine Htry.out.mono ?_; rintro e V ⟨k, rfl, rfl, hx, hk3⟩; have hk3l := heap_lt hk3; obtain ⟨f0, f1⟩ := (Ext.refl V).box hk3)
  have e1 : (V.setCell ⟨w.heap.size + 1 + 1 + 1, 0, none⟩ (.int .u8 E)).cell? ⟨w.heap.size + 1 + 1 + 1, 0, none⟩ = some (.int .u8 E) := by simpa using ((Ext.refl _).box (set1_box hk3 (.int .u8 E))).1 0
  refine bodyPost_ret (v := .tuple #[.int .u8 E, .int .i64 0]) (by simp [results, Tryz.results9, asAddr, go_sem, e1]) rfl ?_
  exact ⟨rfl, set1_ext hx (by omega) _ _⟩
end Go.Proofs.YtcoelhpmkhimpaaGreatDoor

namespace Go.Proofs.YtcoelhpmkhimpaaGreatDoor
open Go.RowKit
set_option linter.unusedVariables false
set_option linter.unusedSimpArgs false
/-- numbers, as a slice -/
def IsInts (l : List Int) (n : Nat) : Rel := fun v W => ∃ a c, v = .slice a n c ∧ IntsAt .i64 W a n l
theorem isInts_ec (l : List Int) (n : Nat) (v : Value) : EC (IsInts l n v) := fun _ _ ⟨a, c, h1, h2⟩ e => ⟨a, c, h1, h2.ext e⟩
def set6 (V : World) (k2 k3 k4 : Nat) (L R A : Span) : World :=
  ((((((V.setCell ⟨k2, 0, none⟩ (.int .i64 L.lo)).setCell ⟨k2, 1, none⟩ (.int .i64 L.hi)).setCell ⟨k3, 0, none⟩ (.int .i64 R.lo)).setCell ⟨k3, 1, none⟩ (.int .i64 R.hi)).setCell ⟨k4, 0, none⟩ (.int .i64 A.lo)).setCell ⟨k4, 1, none⟩ (.int .i64 A.hi))
def zWork : Array Value := #[.slice none 0 0, .slice none 0 0, .slice none 0 0, .slice none 0 0]
theorem spans_ne {W V : World} {a : Option Addr} {n q : Nat} {l : List Span} (h : SpansAt W a n l) (hq : W.heap[q]? = some (.cells zWork 77 (0, 0))) (hV : ∀ k, k ≠ q → V.heap[k]? = W.heap[k]?) : SpansAt V a n l := by
  rcases Nat.eq_zero_or_pos n with hn | hn
  · exact ⟨h.1, fun h0 => by omega⟩
  · obtain ⟨b, off, x, ha, hx, hb, c0, c1⟩ := h.get 0 hn
    have hne : b ≠ q := by
      rintro rfl
      rw [cell_of_row W b _ _ 77 (0, 0) hq] at c0
      have := Array.mem_of_getElem? c0
      simp [zWork] at this
    exact ⟨h.1, h.2.same (fun y hy => by rw [ha] at hy; cases hy; exact hV _ hne)⟩
set_option maxRecDepth 100000 in
set_option maxHeartbeats 8000000 in
theorem sidesF_any (k0 k1 k2 k3 k4 : Nat) (pa : Option Addr) (pn pc : Nat) (l : List Pack) (a1 a2 a3 : Option Addr) (n1 n2 n3 c1 c2 c3 : Nat) (t : Tied) (w : World) (h : LoadIn pa pn l a1 a2 a3 n1 n2 n3 c1 c2 c3 t w)
    (g0 : w.heap[k0]? = some (.cells #[.slice pa pn pc] 28 (0, 0))) (g1 : w.heap[k1]? = some (.cells #[.slice a1 n1 c1, .slice a2 n2 c2, .slice a3 n3 c3] 31 (0, 0)))
    (g2 : w.heap[k2]? = some (.cells #[.int .i64 0, .int .i64 0] 23 (0, 0))) (g3 : w.heap[k3]? = some (.cells #[.int .i64 0, .int .i64 0] 23 (0, 0))) (g4 : w.heap[k4]? = some (.cells #[.int .i64 0, .int .i64 0] 23 (0, 0))) (h23 : k3 ≠ k2) (h24 : k4 ≠ k2) (h34 : k4 ≠ k3) :
    Calls Tryz.prog 39 #[.pointer (some ⟨k0, 0, none⟩), .pointer (some ⟨k1, 0, none⟩), .pointer (some ⟨k2, 0, none⟩), .pointer (some ⟨k3, 0, none⟩), .pointer (some ⟨k4, 0, none⟩)] w fun e w' => e = .returned (.tuple #[]) ∧ ∃ V, Ext w V ∧ w' = set6 V k2 k3 k4 (weigh l t.left) (weigh l t.right) (weigh l (allOf t)) := by
  have hwl := fun W (hW : Ext w W) a c (hs : SpansAt W a pn (l.map leftP)) => (h.ext hW).weight (ra := a) c hs c1 (h.ext hW).tied.left (fun i hi => by simp [allOf, hi]) (by have := h.small; omega)
  have hwr := fun W (hW : Ext w W) a c (hs : SpansAt W a pn (l.map leftP)) => (h.ext hW).weight (ra := a) c hs c2 (h.ext hW).tied.right (fun i hi => by simp [allOf, hi]) (by have := h.small; omega)
  have hwa := fun W (hW : Ext w W) a c (hs : SpansAt W a pn (l.map leftP)) b cb (hb : IntsAt .i64 W b (allOf t).length (allOf t)) => (h.ext hW).weight (ra := a) c hs cb hb (fun i hi => hi) (by have := h.ties.few; omega)
  obtain ⟨L, hL⟩ : ∃ L, weigh l t.left = L := ⟨_, rfl⟩
  obtain ⟨R, hR⟩ : ∃ R, weigh l t.right = R := ⟨_, rfl⟩
  obtain ⟨A, hA⟩ : ∃ A, weigh l (allOf t) = A := ⟨_, rfl⟩
  rw [hL] at hwl ⊢
  rw [hR] at hwr ⊢
  rw [hA] at hwa ⊢
  clear hL hR hA
  obtain ⟨l0, l1⟩ := L
  obtain ⟨r0, r1⟩ := R
  obtain ⟨A0, A1⟩ := A
  unfold Span.val at hwl hwr hwa
  simp only at hwl hwr hwa ⊢
  obtain ⟨N, hN⟩ : ∃ N, (allOf t).length = N := ⟨_, rfl⟩
  have hal : ∀ W, Ext w W → Calls Tryz.prog 34 #[.agg #[.slice a1 n1 c1, .slice a2 n2 c2, .slice a3 n3 c3]] W fun e w' => ∃ a c, e = .returned (.slice a N c) ∧ Ext W w' ∧ IntsAt .i64 w' a N (allOf t) := by
    intro W hW
    have := (h.ext hW).all
    unfold ConcatPost at this
    rw [hN] at this
    exact this.mono fun e w' ⟨a, c, h1, h2, h3, _⟩ => ⟨a, c, h1, h2, h3⟩
  rw [hN] at hwa
  obtain ⟨f0, _⟩ := (Ext.refl w).box g0
  obtain ⟨f1, _⟩ := (Ext.refl w).box g1
  have gl0 := heap_lt g0
  have gl1 := heap_lt g1
  have H := Lib.hid h
  have G0 := Lib.hid g0
  have G1 := Lib.hid g1
  have G2 := Lib.hid g2
  have G3 := Lib.hid g3
  have G4 := Lib.hid g4
  have Hwl := Lib.hid hwl
  have Hwr := Lib.hid hwr
  have Hwa := Lib.hid hwa
  have Hal := Lib.hid hal
  clear h g0 g1 g2 g3 g4 hwl hwr hwa hal
  clear hN
  go_enter Tryz.func39, Tryz.ntmps39
  go_upto_region 1 with (go_at_call 19; refine ((H.out.ext ((Ext.refl w).alloc _)).check _ _ (alloc_at _ _ _ rfl)).mono ?_; rintro e W0 ⟨rfl, hx1⟩; have hy1 := ((Ext.refl w).alloc _).trans hx1; clear f0 f1)
  clear hx1
  have q0 := hy1.heap G0.out
  have q1 := hy1.heap G1.out
  have hin := H.out.ext hy1
  have Q0 := Lib.hid q0
  have Q1 := Lib.hid q1
  have Hy1 := Lib.hid hy1
  have Hin := Lib.hid hin
  clear q0 q1 hy1 hin
  refine wp_region_flow (.take [0, 1] (.flow [2, 3, 4] [12, 13, 5] [[], [0], []] (.one 5 .done))) [5] (Ext W0) _ (by kernel_rfl) (by kernel_rfl) rfl (EC.ext W0) ((Ext.refl _).drew) ?_
  simp only [flowOf, treeOf, oneOp, twoOp, opsOf, consOp, callOF, List.getElem?_toArray, List.getElem?_cons_succ, List.getElem?_cons_zero]
  intro ι _ f hf
  have f0 := fun q => ((hf q).box Q0.out).1
  have f1 := fun q => ((hf q).box Q1.out).1
  clear hf
  repeat (go_big_quiet_step (fail))
  refine wpQuiet_nil ?_
  clear f0 f1
  refine wpOF_flow [IsRests l pn, IsWork l pn (.slice a1 n1 c1) (.slice a2 n2 c2) (.slice a3 n3 c3), IsBox W0.heap.size 77 #[.slice none 0 0, .slice none 0 0, .slice none 0 0, .slice none 0 0]] rfl ⟨isRests_ec l pn, isWork_ec l pn (.slice a1 n1 c1) (.slice a2 n2 c2) (.slice a3 n3 c3), isBox_ec W0.heap.size 77 #[.slice none 0 0, .slice none 0 0, .slice none 0 0, .slice none 0 0], trivial⟩ (flowSteps_cons ?_ (flowSteps_cons ?_ (flowSteps_cons ?_ flowSteps_nil))) ?_
  · intro xs W hlen hS hn
    obtain ⟨x0, x1, x2, rfl⟩ := len3 hlen
    simp only [puts, Act.put, List.setIfInBounds_toArray, List.set_cons_succ, List.set_cons_zero]
    go_wp2_with (go_at_call 32; refine ((Hin.out.ext hS).rests pc).mono ?_; rintro e W1 ⟨ra, rc, rfl, hx1, hsp, -, -⟩)
    exact FlowPost.mk (.slice ra pn rc) rfl hx1 ⟨ra, rc, rfl, hsp⟩
  · intro xs W hlen hS hn
    obtain ⟨x0, x1, x2, rfl⟩ := len3 hlen
    simp only [puts, Act.put, List.setIfInBounds_toArray, List.set_cons_succ, List.set_cons_zero]
    obtain ⟨ra, rc, rfl, hsp⟩ : IsRests l pn x0 W := hn.1
    go_wp2_with fail
    exact FlowPost.mk (.agg #[.slice a1 n1 c1, .slice a2 n2 c2, .slice a3 n3 c3, .slice ra pn rc]) rfl (Ext.refl _) ⟨ra, rc, rfl, hsp⟩
  · intro xs W hlen hS hn
    obtain ⟨x0, x1, x2, rfl⟩ := len3 hlen
    simp only [puts, Act.put, List.setIfInBounds_toArray, List.set_cons_succ, List.set_cons_zero]
    go_wp2_with fail
    exact FlowPost.mk (.pointer (some ⟨W.heap.size, 0, none⟩)) rfl ((Ext.refl _).alloc _) (IsBox.new hS.size)
  intro xs W hlen hS hn
  obtain ⟨x0, x1, x2, rfl⟩ := len3 hlen
  simp only [puts, Act.put, List.setIfInBounds_toArray, List.set_cons_succ, List.set_cons_zero]
  obtain ⟨-, ⟨ra, rc, rfl, hsp⟩, ⟨q, rfl, hq0, hq⟩, -⟩ := hn
  refine wpOT_one ?_
  go_wp2_with (refine wpList_store_row rfl 77 (.tmp 5) (.tmp 13) rfl q #[.slice a1 n1 c1, .slice a2 n2 c2, .slice a3 n3 c3, .slice ra pn rc] rfl rfl 77 _ hq (by kernel_rfl) (by kernel_rfl) (by kernel_rfl) ?_)
  refine wpOT_done ?_
  have hxs : Ext W0 (W.setRow q #[.slice a1 n1 c1, .slice a2 n2 c2, .slice a3 n3 c3, .slice ra pn rc]) := below_setRow hS hq0 _
  have hqs := setRow_heap _ _ _ #[.slice a1 n1 c1, .slice a2 n2 c2, .slice a3 n3 c3, .slice ra pn rc] _ _ hq
  have hsp0 : SpansAt (W.setRow q #[.slice a1 n1 c1, .slice a2 n2 c2, .slice a3 n3 c3, .slice ra pn rc]) ra pn (l.map leftP)  := spans_ne hsp hq (fun k hk => setRow_other _ _ _ _ hk)
  clear hS hsp hq hq0
  generalize W.setRow q #[.slice a1 n1 c1, .slice a2 n2 c2, .slice a3 n3 c3, .slice ra pn rc] = W2 at *
  have hy2 := Hy1.out.trans hxs
  have g12 := hxs.heap Q1.out
  have Hqs := Lib.hid hqs
  have Hsp0 := Lib.hid hsp0
  have Hy2 := Lib.hid hy2
  have G12 := Lib.hid g12
  clear hqs hsp0 hy2 g12
  clear hxs Q0 Q1 Hin Hy1
  go_upto_region 2 with fail
  refine wp_region_flow (.take [0, 1, 2, 3, 5, 6, 7, 8, 10, 11] (.flow [4, 9, 12, 13] [18, 23, 26, 27] [[], [], [], [2]] (.one 14 (.one 15 (.one 16 .done))))) [14, 15, 16] (Ext W2) _ (by kernel_rfl) (by kernel_rfl) rfl (EC.ext W2) ((Ext.refl _).drew) ?_
  simp only [flowOf, treeOf, oneOp, twoOp, opsOf, consOp, callOF, List.getElem?_toArray, List.getElem?_cons_succ, List.getElem?_cons_zero]
  intro ι _ f hf
  have f0 := fun q => ((hf q).box Hqs.out).1
  have f1 := fun q => ((hf q).box G12.out).1
  clear hf
  repeat (go_big_quiet_step (fail))
  refine wpQuiet_nil ?_
  clear f0 f1
  refine wpOF_flow [IsV (.agg #[.int .i64 l0, .int .i64 l1]), IsV (.agg #[.int .i64 r0, .int .i64 r1]), IsInts (allOf t) N, IsV (.agg #[.int .i64 A0, .int .i64 A1])] rfl ⟨isV_ec (.agg #[.int .i64 l0, .int .i64 l1]), isV_ec (.agg #[.int .i64 r0, .int .i64 r1]), isInts_ec (allOf t) N, isV_ec (.agg #[.int .i64 A0, .int .i64 A1]), trivial⟩ (flowSteps_cons ?_ (flowSteps_cons ?_ (flowSteps_cons ?_ (flowSteps_cons ?_ flowSteps_nil)))) ?_
  · intro xs W hlen hS hn
    obtain ⟨x0, x1, x2, x3, rfl⟩ := len4 hlen
    simp only [puts, Act.put, List.setIfInBounds_toArray, List.set_cons_succ, List.set_cons_zero]
    go_wp2_with (go_at_call 33; refine (Hwl.out W (Hy2.out.trans hS) ra rc (Hsp0.out.ext hS)).mono ?_; rintro e W1 ⟨rfl, hx1⟩)
    exact FlowPost.mk (.agg #[.int .i64 l0, .int .i64 l1]) rfl hx1 rfl
  · intro xs W hlen hS hn
    obtain ⟨x0, x1, x2, x3, rfl⟩ := len4 hlen
    simp only [puts, Act.put, List.setIfInBounds_toArray, List.set_cons_succ, List.set_cons_zero]
    go_wp2_with (go_at_call 33; refine (Hwr.out W (Hy2.out.trans hS) ra rc (Hsp0.out.ext hS)).mono ?_; rintro e W1 ⟨rfl, hx1⟩)
    exact FlowPost.mk (.agg #[.int .i64 r0, .int .i64 r1]) rfl hx1 rfl
  · intro xs W hlen hS hn
    obtain ⟨x0, x1, x2, x3, rfl⟩ := len4 hlen
    simp only [puts, Act.put, List.setIfInBounds_toArray, List.set_cons_succ, List.set_cons_zero]
    go_wp2_with (go_at_call 34; refine (Hal.out W (Hy2.out.trans hS)).mono ?_; rintro e W1 ⟨ia, ic, rfl, hx1, hi⟩)
    exact FlowPost.mk (.slice ia N ic) rfl hx1 ⟨ia, ic, rfl, hi⟩
  · intro xs W hlen hS hn
    obtain ⟨x0, x1, x2, x3, rfl⟩ := len4 hlen
    simp only [puts, Act.put, List.setIfInBounds_toArray, List.set_cons_succ, List.set_cons_zero]
    obtain ⟨ia, ic, rfl, hi⟩ : IsInts (allOf t) N x2 W := hn.1
    go_wp2_with (go_at_call 33; refine (Hwa.out W (Hy2.out.trans hS) ra rc (Hsp0.out.ext hS) ia ic hi).mono ?_; rintro e W1 ⟨rfl, hx1⟩)
    exact FlowPost.mk (.agg #[.int .i64 A0, .int .i64 A1]) rfl hx1 rfl
  intro xs W hlen hS hn
  obtain ⟨x0, x1, x2, x3, rfl⟩ := len4 hlen
  simp only [puts, Act.put, List.setIfInBounds_toArray, List.set_cons_succ, List.set_cons_zero]
  obtain ⟨rfl, rfl, -, rfl, -⟩ := hn
  have hyW := Hy2.out.trans hS
  have b2 := hyW.heap G2.out
  have b3 := hyW.heap G3.out
  have b4 := hyW.heap G4.out
  have b3' := set2_other b3 h23 (.int .i64 l0) (.int .i64 l1)
  have b4' := set2_other (set2_other b4 h24 (.int .i64 l0) (.int .i64 l1)) h34 (.int .i64 r0) (.int .i64 r1)
  obtain ⟨z0, z1⟩ := (Ext.refl _).box b2
  obtain ⟨z2, z3⟩ := (Ext.refl _).box b3'
  obtain ⟨z4, z5⟩ := (Ext.refl _).box b4'
  have HyW := Lib.hid hyW
  have B2 := Lib.hid b2
  have B3 := Lib.hid b3
  have B4 := Lib.hid b4
  have B3' := Lib.hid b3'
  have B4' := Lib.hid b4'
  clear hyW b2 b3 b4 b3' b4'
  refine wpOT_one ?_
  go_wp2_with fail
  refine wpOT_one ?_
  go_wp2_with fail
  refine wpOT_one ?_
  go_wp2_with fail
  refine wpOT_done ?_
  go_wp2_with fail
  go_end0
  exact ⟨rfl, W, HyW.out, rfl⟩
end Go.Proofs.YtcoelhpmkhimpaaGreatDoor

namespace Go.Proofs.YtcoelhpmkhimpaaGreatDoor
open Go.RowKit
set_option linter.unusedVariables false
set_option linter.unusedSimpArgs false
theorem spot0 (a b c d e f : Int) (W : World) : (Instr.index 156 (.agg #[.int .i64 a, .int .i64 b, .int .i64 c, .int .i64 d, .int .i64 e, .int .i64 f]) (.int .i64 0)).run Tryz.prog W = .ok (.agg #[.int .i64 a, .int .i64 b]) W := by kernel_rfl
theorem spot1 (a b c d e f : Int) (W : World) : (Instr.index 156 (.agg #[.int .i64 a, .int .i64 b, .int .i64 c, .int .i64 d, .int .i64 e, .int .i64 f]) (.int .i64 1)).run Tryz.prog W = .ok (.agg #[.int .i64 c, .int .i64 d]) W := by kernel_rfl
theorem spot2 (a b c d e f : Int) (W : World) : (Instr.index 156 (.agg #[.int .i64 a, .int .i64 b, .int .i64 c, .int .i64 d, .int .i64 e, .int .i64 f]) (.int .i64 2)).run Tryz.prog W = .ok (.agg #[.int .i64 e, .int .i64 f]) W := by kernel_rfl
/-- the fitness so far -/
structure FitIn (w : World) (q : Nat) (x y : Int) (W : World) : Prop where
  ext : Ext w W
  res : W.heap[w.heap.size + 1]? = some (.cells #[.int .i64 0, .int .i64 0] 23 (0, 0))
  fit : W.heap[q]? = some (.cells #[.int .i64 x, .int .i64 y] 23 (0, 0))
  lt : w.heap.size + 1 < q
theorem FitIn.next {w : World} {q : Nat} {x y : Int} {W V : World} (h : FitIn w q x y W) (hx : Ext W V) : FitIn w q x y V := ⟨h.ext.trans hx, hx.heap h.res, hx.heap h.fit, h.lt⟩
theorem FitIn.set {w : World} {q : Nat} {x y : Int} {W : World} (h : FitIn w q x y W) (a b : Int) : FitIn w q a b ((W.setCell ⟨q, 0, none⟩ (.int .i64 a)).setCell ⟨q, 1, none⟩ (.int .i64 b)) :=
  ⟨set2_ext h.ext (by have := h.lt; omega) _ _, set2_other h.res (by have := h.lt; omega) _ _, set2_box h.fit _ _, h.lt⟩
set_option maxRecDepth 100000 in
set_option maxHeartbeats 8000000 in
theorem fit_any (s : Breed) (c : Camel) (w : World) (hb : BreedOk s) (hc : CamelOk s c) : Calls Tryz.prog 69 #[beastVal s c] w fun e w' => e = .returned (fitOf s c).val ∧ Ext w w' := by
  obtain ⟨fu1, fu2⟩ := hb.full
  obtain ⟨fe1, fe2⟩ := hb.fed
  obtain ⟨wa1, wa2, wa3⟩ := hc.water
  obtain ⟨fa1, fa2, fa3⟩ := hc.fat
  obtain ⟨so1, so2, so3⟩ := hc.sore
  clear hb hc
  obtain ⟨fu, fe, ⟨r0, r1⟩, ⟨h0, h1⟩, ⟨t0, t1⟩, ⟨b0, b1⟩, ⟨u0, u1⟩, ⟨m0, m1⟩, hl, ⟨s0, s1⟩⟩ := s
  obtain ⟨⟨w0, w1⟩, ⟨k0, k1⟩, ⟨o0, o1⟩, mk⟩ := c
  simp only at *
  have hfo : fitOf ⟨fu, fe, ⟨r0, r1⟩, ⟨h0, h1⟩, ⟨t0, t1⟩, ⟨b0, b1⟩, ⟨u0, u1⟩, ⟨m0, m1⟩, hl, ⟨s0, s1⟩⟩ ⟨⟨w0, w1⟩, ⟨k0, k1⟩, ⟨o0, o1⟩, mk⟩ = ⟨min (min (min 1000 (w0 * 2 * 1000 / fu)) (k0 * 2 * 1000 / fe)) (1000 - o1), min (min (min 1000 (upq (w1 * 2 * 1000) fu)) (upq (k1 * 2 * 1000) fe)) (1000 - o0)⟩ := rfl
  have hs1 := fun (W : World) (b : Nat) (hb : W.heap[b]? = some (Obj.cells #[.int .i64 2, .int .i64 1000] 3 (0, 0))) => scaled2 (a := w0) (b := w1) (d := fu) hb ⟨by omega, by omega⟩ ⟨by omega, by omega⟩ ⟨by omega, by omega⟩ ⟨by omega, by omega⟩ ⟨by omega, by omega⟩ ⟨by omega, by omega⟩ ⟨by omega, by omega⟩
  have hs2 := fun (W : World) (b : Nat) (hb : W.heap[b]? = some (Obj.cells #[.int .i64 2, .int .i64 1000] 3 (0, 0))) => scaled2 (a := k0) (b := k1) (d := fe) hb ⟨by omega, by omega⟩ ⟨by omega, by omega⟩ ⟨by omega, by omega⟩ ⟨by omega, by omega⟩ ⟨by omega, by omega⟩ ⟨by omega, by omega⟩ ⟨by omega, by omega⟩
  have hs3 := fun W => rest_any 1000 ⟨o0, o1⟩ W ⟨by omega, by omega⟩ ⟨by simp only; omega, by simp only; omega⟩ ⟨by simp only; omega, by simp only; omega⟩
  unfold Span.val at hs3
  simp only at hs3
  have hA0 : 0 ≤ w0 * 2 * 1000 / fu ∧ w0 * 2 * 1000 / fu ≤ upq (w1 * 2 * 1000) fu := ⟨Int.ediv_nonneg (by omega) (by omega), ediv_le_upq (by omega) (by omega)⟩
  have hB0 : 0 ≤ k0 * 2 * 1000 / fe ∧ k0 * 2 * 1000 / fe ≤ upq (k1 * 2 * 1000) fe := ⟨Int.ediv_nonneg (by omega) (by omega), ediv_le_upq (by omega) (by omega)⟩
  generalize w0 * 2 * 1000 / fu = A0 at *
  generalize upq (w1 * 2 * 1000) fu = A1 at *
  generalize k0 * 2 * 1000 / fe = B0 at *
  generalize upq (k1 * 2 * 1000) fe = B1 at *
  obtain ⟨X1, hX1⟩ : ∃ X, (if A0 < 1000 then A0 else 1000) = X := ⟨_, rfl⟩
  obtain ⟨Y1, hY1⟩ : ∃ X, (if A1 < 1000 then A1 else 1000) = X := ⟨_, rfl⟩
  obtain ⟨X2, hX2⟩ : ∃ X, (if B0 < X1 then B0 else X1) = X := ⟨_, rfl⟩
  obtain ⟨Y2, hY2⟩ : ∃ X, (if B1 < Y1 then B1 else Y1) = X := ⟨_, rfl⟩
  obtain ⟨X3, hX3⟩ : ∃ X, (if 1000 - o1 < X2 then 1000 - o1 else X2) = X := ⟨_, rfl⟩
  obtain ⟨Y3, hY3⟩ : ∃ X, (if 1000 - o0 < Y2 then 1000 - o0 else Y2) = X := ⟨_, rfl⟩
  have hval : fitOf ⟨fu, fe, ⟨r0, r1⟩, ⟨h0, h1⟩, ⟨t0, t1⟩, ⟨b0, b1⟩, ⟨u0, u1⟩, ⟨m0, m1⟩, hl, ⟨s0, s1⟩⟩ ⟨⟨w0, w1⟩, ⟨k0, k1⟩, ⟨o0, o1⟩, mk⟩ = ⟨X3, Y3⟩ := by
    rw [hfo, ← hX3, ← hY3, ← hX2, ← hY2, ← hX1, ← hY1]
    simp only [min_if]
  rw [hval]
  unfold beastVal Span.val
  simp only
  clear hval hfo hA0 hB0
  obtain ⟨W0, hW0⟩ : ∃ W0, ((w.alloc (.cells #[.int .i64 fu, .int .i64 fe, .int .i64 r0, .int .i64 r1, .int .i64 h0, .int .i64 h1, .int .i64 t0, .int .i64 t1, .int .i64 b0, .int .i64 b1, .int .i64 u0, .int .i64 u1, .int .i64 m0, .int .i64 m1, .int .i64 hl, .int .i64 s0, .int .i64 s1, .int .i64 w0, .int .i64 w1, .int .i64 k0, .int .i64 k1, .int .i64 o0, .int .i64 o1, .bool mk] 83)).alloc (.cells #[.int .i64 0, .int .i64 0] 23)).alloc (.cells #[.int .i64 1000, .int .i64 1000] 23) = W0 := ⟨_, rfl⟩
  have hx0 : Ext w W0 := by rw [← hW0]; exact (((Ext.refl w).alloc _).alloc _).alloc _
  have hc0 : W0.heap[w.heap.size]? = some (.cells #[.int .i64 fu, .int .i64 fe, .int .i64 r0, .int .i64 r1, .int .i64 h0, .int .i64 h1, .int .i64 t0, .int .i64 t1, .int .i64 b0, .int .i64 b1, .int .i64 u0, .int .i64 u1, .int .i64 m0, .int .i64 m1, .int .i64 hl, .int .i64 s0, .int .i64 s1, .int .i64 w0, .int .i64 w1, .int .i64 k0, .int .i64 k1, .int .i64 o0, .int .i64 o1, .bool mk] 83 (0, 0)) := by rw [← hW0]; exact alloc_heap (alloc_heap (heap_alloc_new w _) _) _
  have hr0 : W0.heap[w.heap.size + 1]? = some (.cells #[.int .i64 0, .int .i64 0] 23 (0, 0)) := by rw [← hW0]; exact alloc_heap (alloc_at _ _ _ (by simp)) _
  have hq0 : W0.heap[w.heap.size + 1 + 1]? = some (.cells #[.int .i64 1000, .int .i64 1000] 23 (0, 0)) := by rw [← hW0]; exact alloc_at _ _ _ (by simp)
  have Hs1 := Lib.hid hs1
  have Hs2 := Lib.hid hs2
  have Hs3 := Lib.hid hs3
  have HX1 := Lib.hid hX1
  have HX2 := Lib.hid hX2
  have HX3 := Lib.hid hX3
  have HY1 := Lib.hid hY1
  have HY2 := Lib.hid hY2
  have HY3 := Lib.hid hY3
  have Hx0 := Lib.hid hx0
  have Hc0 := Lib.hid hc0
  have Hr0 := Lib.hid hr0
  have Hq0 := Lib.hid hq0
  clear hs1 hs2 hs3 hX1 hX2 hX3 hY1 hY2 hY3 hx0 hc0 hr0 hq0
  clear fu1 fu2 fe1 fe2 wa1 wa2 wa3 fa1 fa2 fa3
  go_enter Tryz.func69, Tryz.ntmps69
  go_upto_region 2 with fail
  clear hW0
  refine wp_region_flow (.take [0, 1, 2, 3, 4, 5, 8, 9, 10, 11, 12, 13, 16, 17, 18] (.free [21] (.flow [6, 7, 14, 15, 19] [13, 14, 21, 22, 26] [[], [0], [], [2], []] (.take [20] .done)))) [20] (Ext W0) _ (by kernel_rfl) (by kernel_rfl) rfl (EC.ext W0) ((Ext.refl _).drew) ?_
  simp only [flowOf, treeOf, oneOp, twoOp, opsOf, consOp, callOF, List.getElem?_toArray, List.getElem?_cons_succ, List.getElem?_cons_zero]
  intro ι _ f hf
  have f0 := fun q => ((hf q).box Hc0.out).1
  clear hf
  repeat (go_big_quiet_step (fail))
  refine wpQuiet_nil ?_
  clear f0
  refine wpOF_free ?_
  repeat (go_big_quiet_step (fail))
  refine wpQuiet_nil ?_
  refine wpOF_flow [IsSl 3 2 #[.int .i64 2, .int .i64 1000], IsV (.agg #[.int .i64 A0, .int .i64 A1]), IsSl 3 2 #[.int .i64 2, .int .i64 1000], IsV (.agg #[.int .i64 B0, .int .i64 B1]), IsV (.agg #[.int .i64 (1000 - o1), .int .i64 (1000 - o0)])] rfl ⟨isSl_ec 3 2 #[.int .i64 2, .int .i64 1000], isV_ec (.agg #[.int .i64 A0, .int .i64 A1]), isSl_ec 3 2 #[.int .i64 2, .int .i64 1000], isV_ec (.agg #[.int .i64 B0, .int .i64 B1]), isV_ec (.agg #[.int .i64 (1000 - o1), .int .i64 (1000 - o0)]), trivial⟩ (flowSteps_cons ?_ (flowSteps_cons ?_ (flowSteps_cons ?_ (flowSteps_cons ?_ (flowSteps_cons ?_ flowSteps_nil))))) ?_
  · intro xs W hlen hS hn
    obtain ⟨x0, x1, x2, x3, x4, rfl⟩ := len5 hlen
    simp only [puts, Act.put, List.setIfInBounds_toArray, List.set_cons_succ, List.set_cons_zero]
    go_wp2_with fail
    exact FlowPost.mk (.slice (some ⟨W.heap.size, 0, none⟩) 2 2) rfl ((Ext.refl _).alloc _) IsSl.new
  · intro xs W hlen hS hn
    obtain ⟨x0, x1, x2, x3, x4, rfl⟩ := len5 hlen
    simp only [puts, Act.put, List.setIfInBounds_toArray, List.set_cons_succ, List.set_cons_zero]
    obtain ⟨b, rfl, hbs⟩ : IsSl 3 2 #[.int .i64 2, .int .i64 1000] x0 W := hn.1
    go_wp2_with (go_at_call 74; refine (Hs1.out W b hbs).mono ?_; rintro e W1 ⟨rfl, hx1⟩)
    exact FlowPost.mk (.agg #[.int .i64 A0, .int .i64 A1]) rfl hx1 rfl
  · intro xs W hlen hS hn
    obtain ⟨x0, x1, x2, x3, x4, rfl⟩ := len5 hlen
    simp only [puts, Act.put, List.setIfInBounds_toArray, List.set_cons_succ, List.set_cons_zero]
    go_wp2_with fail
    exact FlowPost.mk (.slice (some ⟨W.heap.size, 0, none⟩) 2 2) rfl ((Ext.refl _).alloc _) IsSl.new
  · intro xs W hlen hS hn
    obtain ⟨x0, x1, x2, x3, x4, rfl⟩ := len5 hlen
    simp only [puts, Act.put, List.setIfInBounds_toArray, List.set_cons_succ, List.set_cons_zero]
    obtain ⟨b, rfl, hbs⟩ : IsSl 3 2 #[.int .i64 2, .int .i64 1000] x2 W := hn.1
    go_wp2_with (go_at_call 74; refine (Hs2.out W b hbs).mono ?_; rintro e W1 ⟨rfl, hx1⟩)
    exact FlowPost.mk (.agg #[.int .i64 B0, .int .i64 B1]) rfl hx1 rfl
  · intro xs W hlen hS hn
    obtain ⟨x0, x1, x2, x3, x4, rfl⟩ := len5 hlen
    simp only [puts, Act.put, List.setIfInBounds_toArray, List.set_cons_succ, List.set_cons_zero]
    go_wp2_with (go_at_call 75; refine (Hs3.out W).mono ?_; rintro e W1 ⟨rfl, hx1⟩)
    exact FlowPost.mk (.agg #[.int .i64 (1000 - o1), .int .i64 (1000 - o0)]) rfl hx1 rfl
  intro xs W hlen hS hn
  obtain ⟨x0, x1, x2, x3, x4, rfl⟩ := len5 hlen
  simp only [puts, Act.put, List.setIfInBounds_toArray, List.set_cons_succ, List.set_cons_zero]
  obtain ⟨-, rfl, -, rfl, rfl, -⟩ := hn
  refine wpOT_take ?_
  repeat (go_big_quiet_step (fail))
  refine wpQuiet_nil ?_
  refine wpOT_done ?_
  have hI : FitIn w (w.heap.size + 1 + 1) 1000 1000 W := ⟨Hx0.out.trans hS, hS.heap Hr0.out, hS.heap Hq0.out, by omega⟩
  clear hS Hx0 Hc0 Hr0 Hq0 Hs1 Hs2 Hs3
  have HI := Lib.hid hI
  clear hI
  go_upto_region 3 with fail
  generalize w.heap.size + 1 + 1 = q at *
  go_loopw [28] (fun i wr => (i = .int .i64 0 ∧ FitIn w q 1000 1000 wr) ∨ (i = .int .i64 1 ∧ FitIn w q X1 Y1 wr) ∨ (i = .int .i64 2 ∧ FitIn w q X2 Y2 wr) ∨ (i = .int .i64 3 ∧ FitIn w q X3 Y3 wr)) (fun i _ => 3 - (intOf i).toNat)
  case atStart => exact .inl ⟨rfl, HI.out⟩
  case round =>
    clear HI
    rcases hrel with ⟨rfl, hI⟩ | ⟨rfl, hI⟩ | ⟨rfl, hI⟩ | ⟨rfl, hI⟩
    · have hI0 := hI
      have hf := hI.fit
      have hql := heap_lt hf
      obtain ⟨z0, z1⟩ := (Ext.refl wr).box hf
      have hne : q ≠ wr.heap.size := by omega
      have hix := spot0 A0 A1 B0 B1 (1000 - o1) (1000 - o0)
      have hm1 := HX1.out
      have hm2 := HY1.out
      have hI5 := (hI.set X1 Y1).next ((Ext.refl _).alloc (.cells #[.int .i64 A0, .int .i64 A1] 23))
      have HI5 := Lib.hid hI5
      have Hf := Lib.hid hf
      clear hI5 hf
      clear hI hI0
      go_wp2_with fail
      go_roundw
      case rel => exact .inr (.inl ⟨by go_num, HI5.out⟩)
      case measure => simp [intOf]
    · have hI0 := hI
      have hf := hI.fit
      have hql := heap_lt hf
      obtain ⟨z0, z1⟩ := (Ext.refl wr).box hf
      have hne : q ≠ wr.heap.size := by omega
      have hix := spot1 A0 A1 B0 B1 (1000 - o1) (1000 - o0)
      have hm1 := HX2.out
      have hm2 := HY2.out
      have hI5 := (hI.set X2 Y2).next ((Ext.refl _).alloc (.cells #[.int .i64 B0, .int .i64 B1] 23))
      have HI5 := Lib.hid hI5
      have Hf := Lib.hid hf
      clear hI5 hf
      clear hI hI0
      go_wp2_with fail
      go_roundw
      case rel => exact .inr (.inr (.inl ⟨by go_num, HI5.out⟩))
      case measure => simp [intOf]
    · have hI0 := hI
      have hf := hI.fit
      have hql := heap_lt hf
      obtain ⟨z0, z1⟩ := (Ext.refl wr).box hf
      have hne : q ≠ wr.heap.size := by omega
      have hix := spot2 A0 A1 B0 B1 (1000 - o1) (1000 - o0)
      have hm1 := HX3.out
      have hm2 := HY3.out
      have hI5 := (hI.set X3 Y3).next ((Ext.refl _).alloc (.cells #[.int .i64 (1000 - o1), .int .i64 (1000 - o0)] 23))
      have HI5 := Lib.hid hI5
      have Hf := Lib.hid hf
      clear hI5 hf
      clear hI hI0
      go_wp2_with fail
      go_roundw
      case rel => exact .inr (.inr (.inr ⟨by go_num, HI5.out⟩))
      case measure => simp [intOf]
    · have hf := hI.fit
      have hr := hI.res
      obtain ⟨z0, z1⟩ := (Ext.refl wr).box hf
      obtain ⟨y0, y1⟩ := (Ext.refl wr).box hr
      have hql := heap_lt hf
      have hrl := heap_lt hr
      have hne1 : q ≠ w.heap.size + 1 := by have := hI.lt; omega
      have hne2 : w.heap.size + 1 ≠ q := by have := hI.lt; omega
      have HI := Lib.hid hI
      have Hf := Lib.hid hf
      have Hr := Lib.hid hr
      clear hI hf hr
      go_wp2_with fail
      refine bodyPost_ret (results_cell_row rfl _ _ (w.heap.size + 1) 23 #[.int .i64 X3, .int .i64 Y3] (0, 0) _ rfl (set2_box Hr.out _ _) Tryz.underlying23 rfl (by kernel_rfl)) rfl ?_
      exact ⟨rfl, set2_ext HI.out.ext (by omega) _ _⟩
end Go.Proofs.YtcoelhpmkhimpaaGreatDoor

namespace Go.Proofs.YtcoelhpmkhimpaaGreatDoor
open Go.RowKit
set_option linter.unusedVariables false
set_option linter.unusedSimpArgs false
set_option maxRecDepth 100000 in
set_option maxHeartbeats 8000000 in
theorem carries_any (s : Breed) (c : Camel) (w : World) (hb : BreedOk s) (hc : CamelOk s c) : Calls Tryz.prog 38 #[beastVal s c] w fun e w' => e = .returned (carryOf s c).val ∧ Ext w w' := by
  have hft := fun W => fit_any s c W hb hc
  obtain ⟨g1, g2, g3⟩ := fit_is hb hc
  obtain ⟨s1', s2', s3'⟩ := hb.strong
  have hpr := mul_le2 s1' s2' g1 g2 s3' g3
  have hca : carryOf s c = ⟨s.strong.lo * (fitOf s c).lo / 1000, upq (s.strong.hi * (fitOf s c).hi) 1000⟩ := rfl
  rw [hca]
  generalize fitOf s c = F at *
  obtain ⟨X, Y⟩ := F
  clear hca hb hc
  obtain ⟨fu, fe, ⟨r0, r1⟩, ⟨h0, h1⟩, ⟨t0, t1⟩, ⟨b0, b1⟩, ⟨u0, u1⟩, ⟨m0, m1⟩, hl, ⟨s0, s1⟩⟩ := s
  obtain ⟨⟨w0, w1⟩, ⟨k0, k1⟩, ⟨o0, o1⟩, mk⟩ := c
  unfold beastVal Span.val at *
  simp only at *
  obtain ⟨P, hP⟩ : ∃ P, s0 * X = P := ⟨_, rfl⟩
  obtain ⟨Q, hQ⟩ : ∃ Q, s1 * Y = Q := ⟨_, rfl⟩
  rw [hP, hQ] at hpr
  rw [hP, hQ]
  obtain ⟨p1, p2, p3⟩ := hpr
  have hce := fun W => ceil_any Q 1000 W ⟨by omega, by omega⟩ ⟨by omega, by omega⟩
  obtain ⟨W0, hW0⟩ : ∃ W0, (w.alloc (.cells #[.int .i64 fu, .int .i64 fe, .int .i64 r0, .int .i64 r1, .int .i64 h0, .int .i64 h1, .int .i64 t0, .int .i64 t1, .int .i64 b0, .int .i64 b1, .int .i64 u0, .int .i64 u1, .int .i64 m0, .int .i64 m1, .int .i64 hl, .int .i64 s0, .int .i64 s1, .int .i64 w0, .int .i64 w1, .int .i64 k0, .int .i64 k1, .int .i64 o0, .int .i64 o1, .bool mk] 83)).alloc (.cells #[.int .i64 0, .int .i64 0] 23) = W0 := ⟨_, rfl⟩
  have hx0 : Ext w W0 := by rw [← hW0]; exact ((Ext.refl w).alloc _).alloc _
  have hc0 : W0.heap[w.heap.size]? = some (.cells #[.int .i64 fu, .int .i64 fe, .int .i64 r0, .int .i64 r1, .int .i64 h0, .int .i64 h1, .int .i64 t0, .int .i64 t1, .int .i64 b0, .int .i64 b1, .int .i64 u0, .int .i64 u1, .int .i64 m0, .int .i64 m1, .int .i64 hl, .int .i64 s0, .int .i64 s1, .int .i64 w0, .int .i64 w1, .int .i64 k0, .int .i64 k1, .int .i64 o0, .int .i64 o1, .bool mk] 83 (0, 0)) := by rw [← hW0]; exact alloc_heap (heap_alloc_new w _) _
  have hr0 : W0.heap[w.heap.size + 1]? = some (.cells #[.int .i64 0, .int .i64 0] 23 (0, 0)) := by rw [← hW0]; exact alloc_at _ _ _ (by simp)
  have Hft := Lib.hid hft
  have Hce := Lib.hid hce
  have Hx0 := Lib.hid hx0
  have Hc0 := Lib.hid hc0
  have Hr0 := Lib.hid hr0
  clear hft hce hx0 hc0 hr0
  clear g1 g2 g3 s1' s2' s3'
  go_enter Tryz.func38, Tryz.ntmps38
  go_upto_region 1 with fail
  clear hW0
  go_upto_region 2 with (first
    | (refine wpList_load_row rfl 83 (.tmp 1) rfl w.heap.size rfl 83 _ (0, 0) _ Hc0.out Tryz.underlying83 rfl (by kernel_rfl) ?_)
    | (go_at_call 69; refine (Hft.out _).mono ?_; rintro e W1 ⟨rfl, hx1⟩))
  have hc1 := alloc_heap (hx1.heap Hc0.out) (.cells #[.int .i64 X, .int .i64 Y] 23)
  have hr1 := alloc_heap (hx1.heap Hr0.out) (.cells #[.int .i64 X, .int .i64 Y] 23)
  have hq1 := heap_alloc_new W1 (.cells #[.int .i64 X, .int .i64 Y] 23)
  have hy1 := (Hx0.out.trans hx1).alloc (.cells #[.int .i64 X, .int .i64 Y] 23)
  generalize W1.alloc (.cells #[.int .i64 X, .int .i64 Y] 23) = W2 at *
  generalize W1.heap.size = p3 at *
  have Hc1 := Lib.hid hc1
  have Hr1 := Lib.hid hr1
  have Hq1 := Lib.hid hq1
  have Hy1 := Lib.hid hy1
  clear hc1 hr1 hq1 hy1
  clear hx1 Hx0 Hc0 Hr0 Hft
  refine wp_region_flow (.take [0, 1, 2, 3, 4, 5, 6, 7, 8, 9, 10, 11, 12, 13, 14] (.flow [15] [21] [[]] (.take [16] (.one 17 .done)))) [16, 17] (Ext W2) _ (by kernel_rfl) (by kernel_rfl) rfl (EC.ext W2) ((Ext.refl _).drew) ?_
  simp only [flowOf, treeOf, oneOp, twoOp, opsOf, consOp, callOF, List.getElem?_toArray, List.getElem?_cons_succ, List.getElem?_cons_zero]
  intro ι _ f hf
  have f0 := fun q => ((hf q).box Hc1.out).1
  have f1 := fun q => ((hf q).box Hq1.out).1
  clear hf
  repeat (go_big_quiet_step (fail))
  refine wpQuiet_nil ?_
  clear f0 f1
  refine wpOF_flow [IsV (.int .i64 (upq Q 1000))] rfl ⟨isV_ec (.int .i64 (upq Q 1000)), trivial⟩ (flowSteps_cons ?_ flowSteps_nil) ?_
  · intro xs W hlen hS hn
    obtain ⟨x0, rfl⟩ := len1 hlen
    simp only [puts, Act.put, List.setIfInBounds_toArray, List.set_cons_succ, List.set_cons_zero]
    go_wp2_with (go_at_call 70; refine (Hce.out _).mono ?_; rintro e W1 ⟨rfl, rfl⟩)
    exact FlowPost.mk (.int .i64 (upq Q 1000)) rfl (Ext.refl _) rfl
  intro xs W hlen hS hn
  obtain ⟨x0, rfl⟩ := len1 hlen
  simp only [puts, Act.put, List.setIfInBounds_toArray, List.set_cons_succ, List.set_cons_zero]
  obtain ⟨rfl, -⟩ := hn
  refine wpOT_take ?_
  repeat (go_big_quiet_step (fail))
  refine wpQuiet_nil ?_
  have hrW := hS.heap Hr1.out
  have hyW := Hy1.out.trans hS
  obtain ⟨z0, z1⟩ := (Ext.refl W).box hrW
  have hrl := heap_lt hrW
  have HrW := Lib.hid hrW
  have HyW := Lib.hid hyW
  clear hrW hyW
  refine wpOT_one ?_
  go_wp2_with fail
  refine wpOT_done ?_
  go_wp2_with fail
  refine bodyPost_ret (results_cell_row rfl _ _ (w.heap.size + 1) 23 #[.int .i64 (P / 1000), .int .i64 (upq Q 1000)] (0, 0) _ rfl (set2_box HrW.out _ _) Tryz.underlying23 rfl (by kernel_rfl)) rfl ?_
  exact ⟨rfl, set2_ext HyW.out (by omega) _ _⟩
set_option maxRecDepth 100000 in
set_option maxHeartbeats 8000000 in
/-- what a valid animal carries -/
theorem carries10_any (s : Breed) (c : Camel) (w : World) (hb : BreedOk s) (hc : CamelOk s c) (h0 : camelErr s c = 0) : Calls Tryz.prog 10 #[s.val, c.val] w fun e w' => e = .returned (.tuple #[(carryOf s c).val, .int .i64 0]) ∧ Ext w w' := by
  have hck := fun W => checkCamel_any s c W
  rw [h0] at hck
  have hca := fun W => carries_any s c W hb hc
  generalize carryOf s c = F at *
  obtain ⟨X, Y⟩ := F
  clear h0 hb hc
  obtain ⟨fu, fe, ⟨r0, r1⟩, ⟨h0, h1⟩, ⟨t0, t1⟩, ⟨b0, b1⟩, ⟨u0, u1⟩, ⟨m0, m1⟩, hl, ⟨s0, s1⟩⟩ := s
  obtain ⟨⟨w0, w1⟩, ⟨k0, k1⟩, ⟨o0, o1⟩, mk⟩ := c
  unfold beastVal Span.val at hca
  unfold Breed.val Camel.val at hck
  unfold Breed.val Camel.val Span.val
  simp only at *
  obtain ⟨W0, hW0⟩ : ∃ W0, ((w.alloc (.cells #[.int .i64 fu, .int .i64 fe, .int .i64 r0, .int .i64 r1, .int .i64 h0, .int .i64 h1, .int .i64 t0, .int .i64 t1, .int .i64 b0, .int .i64 b1, .int .i64 u0, .int .i64 u1, .int .i64 m0, .int .i64 m1, .int .i64 hl, .int .i64 s0, .int .i64 s1] 25)).alloc (.cells #[.int .i64 w0, .int .i64 w1, .int .i64 k0, .int .i64 k1, .int .i64 o0, .int .i64 o1, .bool mk] 27)).alloc (.cells #[.int .i64 0, .int .i64 0] 23) = W0 := ⟨_, rfl⟩
  have hx0 : Ext w W0 := by rw [← hW0]; exact (((Ext.refl w).alloc _).alloc _).alloc _
  have hb0 : W0.heap[w.heap.size]? = some (.cells #[.int .i64 fu, .int .i64 fe, .int .i64 r0, .int .i64 r1, .int .i64 h0, .int .i64 h1, .int .i64 t0, .int .i64 t1, .int .i64 b0, .int .i64 b1, .int .i64 u0, .int .i64 u1, .int .i64 m0, .int .i64 m1, .int .i64 hl, .int .i64 s0, .int .i64 s1] 25 (0, 0)) := by rw [← hW0]; exact alloc_heap (alloc_heap (heap_alloc_new w _) _) _
  have hc0 : W0.heap[w.heap.size + 1]? = some (.cells #[.int .i64 w0, .int .i64 w1, .int .i64 k0, .int .i64 k1, .int .i64 o0, .int .i64 o1, .bool mk] 27 (0, 0)) := by rw [← hW0]; exact alloc_heap (alloc_at _ _ _ (by simp)) _
  have hr0 : W0.heap[w.heap.size + 1 + 1]? = some (.cells #[.int .i64 0, .int .i64 0] 23 (0, 0)) := by rw [← hW0]; exact alloc_at _ _ _ (by simp)
  have Hck := Lib.hid hck
  have Hca := Lib.hid hca
  have Hx0 := Lib.hid hx0
  have Hb0 := Lib.hid hb0
  have Hc0 := Lib.hid hc0
  have Hr0 := Lib.hid hr0
  clear hck hca hx0 hb0 hc0 hr0
  go_enter Tryz.func10, Tryz.ntmps10
  go_upto_region 1 with fail
  clear hW0
  go_upto_region 4 with (first
    | (refine wpList_load_row rfl 25 (.tmp 2) rfl w.heap.size rfl 25 _ (0, 0) _ Hb0.out Tryz.underlying25 rfl (by kernel_rfl) ?_)
    | (refine wpList_load_row rfl 27 (.tmp 3) rfl (w.heap.size + 1) rfl 27 _ (0, 0) _ Hc0.out Tryz.underlying27 rfl (by kernel_rfl) ?_)
    | (go_at_call 37; refine (Hck.out _).mono ?_; rintro e W1 ⟨rfl, hx1⟩))
  have hy1 := Hx0.out.trans hx1
  have hb1 := hx1.heap Hb0.out
  have hc1 := hx1.heap Hc0.out
  have hr1 := hx1.heap Hr0.out
  have Hy1 := Lib.hid hy1
  have Hb1 := Lib.hid hb1
  have Hc1 := Lib.hid hc1
  have Hr1 := Lib.hid hr1
  clear hy1 hb1 hc1 hr1
  clear Hx0 Hb0 Hc0 Hr0 hx1
  go_wp2_with (first
    | (refine wpList_load_row rfl 25 (.tmp 2) rfl w.heap.size rfl 25 _ (0, 0) _ Hb1.out Tryz.underlying25 rfl (by kernel_rfl) ?_)
    | (refine wpList_load_row rfl 27 (.tmp 3) rfl (w.heap.size + 1) rfl 27 _ (0, 0) _ Hc1.out Tryz.underlying27 rfl (by kernel_rfl) ?_)
    | (go_at_call 38; refine (Hca.out _).mono ?_; rintro e W2 ⟨rfl, hx2⟩; have hr2 := hx2.heap Hr1.out; have hrl := heap_lt hr2; obtain ⟨z0, z1⟩ := (Ext.refl W2).box hr2; have Hr2 := Lib.hid hr2; clear hr2))
  refine bodyPost_ret (results_cell_tmp (P := Tryz.prog) (fn := Tryz.f10) rfl _ _ (w.heap.size + 1 + 1) 23 #[.int .i64 X, .int .i64 Y] (0, 0) _ rfl (set2_box Hr2.out _ _) Tryz.underlying23 rfl (by kernel_rfl)) rfl ?_
  exact ⟨rfl, set2_ext (Hy1.out.trans hx2) (by omega) _ _⟩
end Go.Proofs.YtcoelhpmkhimpaaGreatDoor
