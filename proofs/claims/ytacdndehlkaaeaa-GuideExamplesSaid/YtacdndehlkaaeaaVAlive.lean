/- The package is alive. -/
import Derived.Test.YtacdndehlkaaeaaVExam
import Derived.Test.YtacdndehlkaaeaaVLawTreks
import Derived.Test.YtacdndehlkaaeaaVGr1
namespace Go.Proofs.Ytacdndehlkaaeaa
open Go.RowKit
set_option linter.unusedVariables false
set_option linter.unusedSimpArgs false
theorem sights_block {W : World} {b : Nat} {t : TypeId} {n : Nat} (l : List Sight) (hn : l.length = n) (hb : W.heap[b]? = some (.cells (sightRows l).flatten.toArray t (0, 0))) : SightsAt W (some ⟨b, 0, none⟩) n l := by
  subst hn
  have h := slAt_block (rows := sightRows l) hb (fun r hr => (sightRows_row l r hr).1)
  rw [show (sightRows l).length = l.length by simp [sightRows]] at h
  exact ⟨rfl, h.congr fun i hi => by simp [sightRows, List.getD, List.getElem?_map, List.getElem?_eq_getElem hi]⟩
theorem treks_block {W : World} {b : Nat} {t : TypeId} {n : Nat} (l : List Trek) (hn : l.length = n) (hb : W.heap[b]? = some (.cells (trekRows l).flatten.toArray t (0, 0))) : TreksAt W (some ⟨b, 0, none⟩) n l := by
  subst hn
  have h := slAt_block (rows := trekRows l) hb (fun r hr => (trekRows_row l r hr).1)
  rw [show (trekRows l).length = l.length by simp [trekRows]] at h
  exact ⟨rfl, h.congr fun i hi => by simp [trekRows, List.getD, List.getElem?_map, List.getElem?_eq_getElem hi]⟩
theorem ints_block2 {W : World} {b : Nat} {t : TypeId} {x y : Int} (hb : W.heap[b]? = some (.cells #[.int .i64 x, .int .i64 y] t (0, 0))) : IntsAt .i64 W (some ⟨b, 0, none⟩) 2 [x, y] := by
  have h := slAt_block (sz := 1) (rows := [[.int .i64 x], [.int .i64 y]]) hb (fun r hr => by simp at hr; rcases hr with rfl | rfl <;> rfl)
  exact ⟨rfl, h.congr fun i hi => by
    match i, hi with
    | 0, _ => rfl
    | 1, _ => rfl⟩
theorem join_orders3 {F M : Option Addr → Nat → Nat → World → Prop} {S : World → Prop} {X Y : World → Prop} (h1 : (∀ a c p W, F a c p W → M a c p W) → ∀ W, S W → X W) (h2 : (∀ a c p W, F a c p W → M a c p W) → ∀ W, S W → Y W) (h : ∀ a c p W, F a c p W → M a c p W) : ∀ W, S W → X W ∧ Y W := fun W hW => ⟨h1 h W hW, h2 h W hW⟩
set_option maxRecDepth 100000 in
set_option maxHeartbeats 8000000 in
theorem alive_any (w : World) : Calls Try.prog 34 #[] w fun e w' => e = .returned (.bool true) ∧ Ext w w' := by
  have hsp := span_any
  have hst := exStart_any
  have hfi := field_any
  have hA := exA_any
  have hB := exB_any
  have hC := exC_any
  have hsA := fun a c W hl h1 h2 => exSee_any (n := 4) exEv1 exLen1 a c W hl h1 h2 (by decide) (by decide)
  have hsB := fun a c W hl h1 h2 => exSee_any (n := 6) exEv2 exLen2 a c W hl h1 h2 (by decide) (by decide)
  have hsC := fun a c W hl h1 h2 => exSee_any (n := 4) exEv4 exLen3 a c W hl h1 h2 (by decide) (by decide)
  have hb2 := fun a c W hl h1 h2 => exBounds_any (n := 8) exEv3 a c W hl h1 h2
  have hb4 := fun a c W hl h1 h2 => exBounds_any (n := 6) exEv6 a c W hl h1 h2
  have hma := exMarch_any
  have hcl := exClash_any
  have hne := fun a c W hl h1 h2 => exNear_any (n := 4) exEv8 a c W hl h1 h2
  have hfd := exFinds_any
  unfold FieldPost at hfi
  unfold AreaPost at hst hsA hsB hsC hma
  unfold Sight.val exA at hsA
  unfold Sight.val exB at hsB
  unfold Sight.val exC at hsC
  unfold Trek.val exTrek at hma
  simp only at hsA hsB hsC hma
  have Hsp := Lib.hid hsp
  have Hst := Lib.hid hst
  have Hfi := Lib.hid hfi
  have HA := Lib.hid hA
  have HB := Lib.hid hB
  have HC := Lib.hid hC
  have HsA := Lib.hid hsA
  have HsB := Lib.hid hsB
  have HsC := Lib.hid hsC
  have Hb2 := Lib.hid hb2
  have Hb4 := Lib.hid hb4
  have Hma := Lib.hid hma
  have Hcl := Lib.hid hcl
  have Hne := Lib.hid hne
  have Hfd := Lib.hid hfd
  clear hsp hst hfi hA hB hC hsA hsB hsC hb2 hb4 hma hcl hne hfd
  go_enter Try.func34, Try.ntmps34
  go_upto_region 3 with (first
    | (go_at_call 38; refine (Hsp.out _ _ _).mono ?_; rintro e W1 ⟨rfl, hx1⟩; first | (have hw2 := hw1.trans hx1) | (have hw1 := hx1))
    | (go_at_call 22; refine (Hst.out _).mono ?_; rintro e W3 ⟨a1, c1, rfl, s1, t1, hx3, hH1, _⟩; have hw3 := hw2.trans hx3; have hw4 := hw3.alloc (.cells #[.slice a1 4 c1] 24); have hb1 := heap_alloc_new W3 (.cells #[.slice a1 4 c1] 24); have hI1 := hH1.ext ((Ext.refl W3).alloc (.cells #[.slice a1 4 c1] 24)))
    | (go_at_call 35; refine (Hfi.out _).mono ?_; rintro e W5 ⟨fb, rfl, fbl, hx5, hfb⟩)
    | (go_at_call 36; refine (HA.out _).mono ?_; rintro e W6 ⟨rfl, hx6⟩)
    | (go_at_call 16; refine (HsA.out _ _ _ (field_halves (hx6.heap hfb)) (by decide) (by decide)).mono ?_; rintro e W7 ⟨a2, c2, rfl, s2, t2, hx7, hH2, _⟩))
  have hw8 := (((hw4.trans hx5).trans hx6).trans hx7).alloc (.cells #[.slice a2 6 c2] 24)
  have hx48 := ((hx5.trans hx6).trans hx7).alloc (.cells #[.slice a2 6 c2] 24)
  have hb2' := hx48.heap hb1
  have hI2 := hI1.ext hx48
  have hb3' := heap_alloc_new W7 (.cells #[.slice a2 6 c2] 24)
  have hI3 := hH2.ext ((Ext.refl W7).alloc (.cells #[.slice a2 6 c2] 24))
  generalize W7.alloc (.cells #[.slice a2 6 c2] 24) = W8 at *
  generalize W3.heap.size = p1 at *
  generalize W7.heap.size = p2 at *
  have Hw8 := Lib.hid hw8
  have Hp1 := Lib.hid hb2'
  have HI1 := Lib.hid hI2
  have Hp2 := Lib.hid hb3'
  have HI2 := Lib.hid hI3
  clear hw1 hw2 hw3 hw4 hx1 hx3 hx5 hx6 hx7 hb1 hI1 hH1 hH2 hfb fbl hw8 hx48 hb2' hI2 hb3' hI3
  refine wp_region_plan (.take [0] (.call 1 (.two 2 (.free [3, 4, 5] (.one 6 (.fin (.one 7 (.one 8 .done))))) 6 (.one 2 (.free [3, 4, 5] (.fin (.one 7 (.one 8 .done)))))))) [7, 8] (Ext W8) _ (by kernel_rfl) (by kernel_rfl) rfl (EC.ext W8) ((Ext.refl _).drew) ?_
  simp only [planOf, treeOf, oneOp, twoOp, opsOf, consOp, callOC, oneOC, twoOC, List.getElem?_toArray, List.getElem?_cons_succ, List.getElem?_cons_zero]
  intro ι _ f hf
  have f0 := fun q => ((hf q).box Hp2.out).1
  clear hf
  repeat (go_big_quiet_step (fail))
  refine wpQuiet_nil ?_
  clear f0
  refine wpOC_call (args := #[]) (v := .agg #[.int .u8 1, .int .i64 0, .int .i64 20000, .int .i64 0, .int .i64 1, .int .i64 (-1), .int .i64 4, .int .i64 0, .int .i64 0, .int .i64 0]) rfl rfl (enters_of Try.func39 (by kernel_rfl) rfl) (by kernel_rfl) (fun V hV => HB.out V) ?_
  simp only [Act.put, List.setIfInBounds_toArray, List.set_cons_succ, List.set_cons_zero]
  refine wpOC_two ?_
  apply join_orders3 (F := fun a c p W => Ext W8 W ∧ W.heap[p]? = some (.cells #[.slice a 8 c] 24 (0, 0)) ∧ HalvesAt W a 8 exL2 ∧ 8 ≤ c ∧ c ≤ maxLen)
  · intro G Wa hxa
    have hI := HI2.out.ext hxa
    go_wp2_with (go_at_call 16; refine (HsB.out _ _ _ hI s2 t2).mono ?_; rintro e Wb ⟨ba, bc, rfl, q1, q2, hxb, hHb, _⟩)
    have hxab := hxa.trans hxb
    have hlt := hHb.lt (by omega)
    refine ⟨Ext Wb, EC.ext Wb, fun _ h => hxab.trans h, Ext.refl Wb, ?_⟩
    refine wpOC_free ?_
    repeat (go_big_quiet_step (fail))
    refine wpQuiet_nil ?_
    intro Wc hxc
    go_wp2_with fail
    have hpa := heap_alloc_new Wc (.cells #[.slice none 0 0] 24)
    have hxd := hxc.alloc (.cells #[.slice none 0 0] 24)
    have hxd' := (Ext.refl Wc).alloc (.cells #[.slice none 0 0] 24)
    have hp8 := (hxab.trans hxc).size
    have hne : ∀ X, ba = some X → X.block ≠ Wc.heap.size := fun X hX => by
      have h1 := hlt X hX
      have h2 := hxc.size
      omega
    generalize Wc.alloc (.cells #[.slice none 0 0] 24) = Wd at *
    generalize Wc.heap.size = p at *
    refine ⟨Ext Wd, EC.ext Wd, fun _ h => hxd.trans h, Ext.refl Wd, ?_⟩
    intro We hxe
    have hHe := hHb.ext (hxd.trans hxe)
    have hx8 := hxab.trans (hxd.trans hxe)
    have hpe := hxe.heap hpa
    clear hxa hI hxb hHb hxab hlt hxc hpa hxd hxd' hxe
    obtain ⟨k0, k1⟩ := (Ext.refl We).box hpe
    have hpl := heap_lt hpe
    refine wpOT_one ?_
    go_wp2_with fail
    refine wpOT_one ?_
    go_wp2_with fail
    refine wpOT_done ?_
    exact G ba bc p _ ⟨hx8.setCell (p := ⟨p, 0, none⟩) hp8 _, by rw [heap_setCell_box, hpe]; rfl, hHe.same fun X hX => Below.heap_setCell _ _ _ _ (hne X hX), q1, q2⟩
  · intro G Wa hxa
    go_wp2_with fail
    have hpa := heap_alloc_new Wa (.cells #[.slice none 0 0] 24)
    have hxd := hxa.alloc (.cells #[.slice none 0 0] 24)
    have hxd' := (Ext.refl Wa).alloc (.cells #[.slice none 0 0] 24)
    have hp8 := hxa.size
    have hps := heap_lt hpa
    generalize Wa.alloc (.cells #[.slice none 0 0] 24) = Wd at *
    generalize Wa.heap.size = p at *
    refine ⟨Ext Wd, EC.ext Wd, fun _ h => hxd.trans h, Ext.refl Wd, ?_⟩
    clear hxd' hxa
    intro We hxe
    have hI := HI2.out.ext (hxd.trans hxe)
    go_wp2_with (go_at_call 16; refine (HsB.out _ _ _ hI s2 t2).mono ?_; rintro e Wb ⟨ba, bc, rfl, q1, q2, hxb, hHb, hfb⟩)
    have hne : ∀ X, ba = some X → X.block ≠ p := fun X hX => by
      have h1 := hfb X hX
      have h2 := hxe.size
      omega
    have hxeb := hxe.trans hxb
    refine ⟨Ext Wb, EC.ext Wb, fun _ h => hxeb.trans h, Ext.refl Wb, ?_⟩
    refine wpOC_free ?_
    repeat (go_big_quiet_step (fail))
    refine wpQuiet_nil ?_
    intro Wc hxc
    have hHe := hHb.ext hxc
    have hx8 := hxd.trans (hxeb.trans hxc)
    have hpe := (hxeb.trans hxc).heap hpa
    clear hI hxb hHb hxc hpa hxd hxe hxeb hfb hps
    obtain ⟨k0, k1⟩ := (Ext.refl Wc).box hpe
    have hpl := heap_lt hpe
    refine wpOT_one ?_
    go_wp2_with fail
    refine wpOT_one ?_
    go_wp2_with fail
    refine wpOT_done ?_
    exact G ba bc p _ ⟨hx8.setCell (p := ⟨p, 0, none⟩) hp8 _, by rw [heap_setCell_box, hpe]; rfl, hHe.same fun X hX => Below.heap_setCell _ _ _ _ (hne X hX), q1, q2⟩
  rintro a3 c3 p3 W9 ⟨hx9, hb9, hH9, s3, t3⟩
  have hw9 := Hw8.out.trans hx9
  have hq1 := hx9.heap Hp1.out
  have hI1 := HI1.out.ext hx9
  obtain ⟨k3, _⟩ := (Ext.refl W9).box hb9
  have Hw9 := Lib.hid hw9
  have Hq1 := Lib.hid hq1
  have HI9 := Lib.hid hI1
  have HH9 := Lib.hid hH9
  clear hw9 hx9 hq1 hb9 hI1 hH9 Hw8 Hp1 HI1 Hp2 HI2
  go_upto_region 6 with (first
    | (go_at_call 24; refine (Hb2.out _ _ _ HH9.out s3 t3).mono ?_; rintro e W10 ⟨rfl, hx10⟩)
    | (go_at_call 35; refine (Hfi.out _).mono ?_; rintro e W12 ⟨fb2, rfl, fbl2, hx12, hfb2⟩)
    | (go_at_call 74; refine (HC.out _).mono ?_; rintro e W13 ⟨rfl, hx13⟩)
    | (go_at_call 16; refine (HsC.out _ _ _ (field_halves (hx13.heap hfb2)) (by decide) (by decide)).mono ?_; rintro e W14 ⟨a4, c4, rfl, s4, t4, hx14, hH14, _⟩))
  have hw11 : Ext w ((W10.alloc (.cells #[.int .i64 0, .int .i64 5000] 28)).alloc (.cells #[.int .i64 0, .int .i64 10000] 28)) := ((Hw9.out.trans hx10).alloc _).alloc _
  have hb5 : ((W10.alloc (.cells #[.int .i64 0, .int .i64 5000] 28)).alloc (.cells #[.int .i64 0, .int .i64 10000] 28)).heap[W10.heap.size]? = some (.cells #[.int .i64 0, .int .i64 5000] 28 (0, 0)) := ((Ext.refl _).alloc _).heap (heap_alloc_new W10 _)
  have hb6 : ((W10.alloc (.cells #[.int .i64 0, .int .i64 5000] 28)).alloc (.cells #[.int .i64 0, .int .i64 10000] 28)).heap[W10.heap.size + 1]? = some (.cells #[.int .i64 0, .int .i64 10000] 28 (0, 0)) := alloc_at _ _ _ (by simp)
  have hq11 := ((hx10.alloc (.cells #[.int .i64 0, .int .i64 5000] 28)).alloc (.cells #[.int .i64 0, .int .i64 10000] 28)).heap Hq1.out
  have hI11 := HI9.out.ext ((hx10.alloc (.cells #[.int .i64 0, .int .i64 5000] 28)).alloc (.cells #[.int .i64 0, .int .i64 10000] 28))
  generalize (W10.alloc (.cells #[.int .i64 0, .int .i64 5000] 28)).alloc (.cells #[.int .i64 0, .int .i64 10000] 28) = W11 at *
  generalize W10.heap.size = p5 at *
  have hx15 := ((hx12.trans hx13).trans hx14).alloc (.cells #[.slice a4 6 c4] 24)
  have hb7 := heap_alloc_new W14 (.cells #[.slice a4 6 c4] 24)
  have hI4 := hH14.ext ((Ext.refl W14).alloc (.cells #[.slice a4 6 c4] 24))
  generalize W14.alloc (.cells #[.slice a4 6 c4] 24) = W15 at *
  generalize W14.heap.size = p7 at *
  have Hw15 := Lib.hid (hw11.trans hx15)
  have Hq1 := Lib.hid (hx15.heap hq11)
  have HI1 := Lib.hid (hI11.ext hx15)
  have Hb5 := Lib.hid (hx15.heap hb5)
  have Hb6 := Lib.hid (hx15.heap hb6)
  have Hb7 := Lib.hid hb7
  have HI4 := Lib.hid hI4
  clear hw11 hb5 hb6 hq11 hI11 hx15 hb7 hI4 hx12 hx13 hx14 hH14 hfb2 fbl2 hx10 k3 HI9 HH9 Hw9
  refine wp_region_plan (.take [0] (.call 1 (.call 2 (.call 3 (.free [4] (.two 5 (.free [6, 7, 8] (.one 9 (.fin (.one 10 (.one 11 .done))))) 9 (.one 5 (.free [6, 7, 8] (.fin (.one 10 (.one 11 .done))))))))))) [10, 11] (Ext W15) _ (by kernel_rfl) (by kernel_rfl) rfl (EC.ext W15) ((Ext.refl _).drew) ?_
  simp only [planOf, treeOf, oneOp, twoOp, opsOf, consOp, callOC, oneOC, twoOC, List.getElem?_toArray, List.getElem?_cons_succ, List.getElem?_cons_zero]
  intro ι _ f hf
  have f0 := fun q => ((hf q).box Hb7.out).1
  clear hf
  repeat (go_big_quiet_step (fail))
  refine wpQuiet_nil ?_
  clear f0
  refine wpOC_call (args := #[.int .i64 1, .int .i64 2]) (v := .agg #[.int .i64 1, .int .i64 2]) rfl rfl (enters_of Try.func38 (by kernel_rfl) rfl) (by kernel_rfl) (fun V hV => Hsp.out _ _ V) ?_
  simp only [Act.put, List.setIfInBounds_toArray, List.set_cons_succ, List.set_cons_zero]
  refine wpOC_call (args := #[.int .i64 1000, .int .i64 3000]) (v := .agg #[.int .i64 1000, .int .i64 3000]) rfl rfl (enters_of Try.func38 (by kernel_rfl) rfl) (by kernel_rfl) (fun V hV => Hsp.out _ _ V) ?_
  simp only [Act.put, List.setIfInBounds_toArray, List.set_cons_succ, List.set_cons_zero]
  refine wpOC_call (args := #[.int .i64 (-1000), .int .i64 500]) (v := .agg #[.int .i64 (-1000), .int .i64 500]) rfl rfl (enters_of Try.func38 (by kernel_rfl) rfl) (by kernel_rfl) (fun V hV => Hsp.out _ _ V) ?_
  simp only [Act.put, List.setIfInBounds_toArray, List.set_cons_succ, List.set_cons_zero]
  refine wpOC_free ?_
  repeat (go_big_quiet_step (fail))
  refine wpQuiet_nil ?_
  refine wpOC_two ?_
  apply join_orders3 (F := fun a c p W => Ext W15 W ∧ W.heap[p]? = some (.cells #[.slice a 6 c] 24 (0, 0)) ∧ HalvesAt W a 6 exL4 ∧ 6 ≤ c ∧ c ≤ maxLen)
  · intro G Wa hxa
    have hI := HI4.out.ext hxa
    go_wp2_with (go_at_call 30; refine (Hma.out _ _ _ hI s4 t4).mono ?_; rintro e Wb ⟨ba, bc, rfl, q1, q2, hxb, hHb, _⟩)
    have hxab := hxa.trans hxb
    have hlt := hHb.lt (by omega)
    refine ⟨Ext Wb, EC.ext Wb, fun _ h => hxab.trans h, Ext.refl Wb, ?_⟩
    refine wpOC_free ?_
    repeat (go_big_quiet_step (fail))
    refine wpQuiet_nil ?_
    intro Wc hxc
    go_wp2_with fail
    have hpa := heap_alloc_new Wc (.cells #[.slice none 0 0] 24)
    have hxd := hxc.alloc (.cells #[.slice none 0 0] 24)
    have hxd' := (Ext.refl Wc).alloc (.cells #[.slice none 0 0] 24)
    have hp8 := (hxab.trans hxc).size
    have hne : ∀ X, ba = some X → X.block ≠ Wc.heap.size := fun X hX => by
      have h1 := hlt X hX
      have h2 := hxc.size
      omega
    generalize Wc.alloc (.cells #[.slice none 0 0] 24) = Wd at *
    generalize Wc.heap.size = p at *
    refine ⟨Ext Wd, EC.ext Wd, fun _ h => hxd.trans h, Ext.refl Wd, ?_⟩
    intro We hxe
    have hHe := hHb.ext (hxd.trans hxe)
    have hx8 := hxab.trans (hxd.trans hxe)
    have hpe := hxe.heap hpa
    clear hxa hI hxb hHb hxab hlt hxc hpa hxd hxd' hxe
    obtain ⟨k0, k1⟩ := (Ext.refl We).box hpe
    have hpl := heap_lt hpe
    refine wpOT_one ?_
    go_wp2_with fail
    refine wpOT_one ?_
    go_wp2_with fail
    refine wpOT_done ?_
    exact G ba bc p _ ⟨hx8.setCell (p := ⟨p, 0, none⟩) hp8 _, by rw [heap_setCell_box, hpe]; rfl, hHe.same fun X hX => Below.heap_setCell _ _ _ _ (hne X hX), q1, q2⟩
  · intro G Wa hxa
    go_wp2_with fail
    have hpa := heap_alloc_new Wa (.cells #[.slice none 0 0] 24)
    have hxd := hxa.alloc (.cells #[.slice none 0 0] 24)
    have hxd' := (Ext.refl Wa).alloc (.cells #[.slice none 0 0] 24)
    have hp8 := hxa.size
    have hps := heap_lt hpa
    generalize Wa.alloc (.cells #[.slice none 0 0] 24) = Wd at *
    generalize Wa.heap.size = p at *
    refine ⟨Ext Wd, EC.ext Wd, fun _ h => hxd.trans h, Ext.refl Wd, ?_⟩
    clear hxd' hxa
    intro We hxe
    have hI := HI4.out.ext (hxd.trans hxe)
    go_wp2_with (go_at_call 30; refine (Hma.out _ _ _ hI s4 t4).mono ?_; rintro e Wb ⟨ba, bc, rfl, q1, q2, hxb, hHb, hfb⟩)
    have hne : ∀ X, ba = some X → X.block ≠ p := fun X hX => by
      have h1 := hfb X hX
      have h2 := hxe.size
      omega
    have hxeb := hxe.trans hxb
    refine ⟨Ext Wb, EC.ext Wb, fun _ h => hxeb.trans h, Ext.refl Wb, ?_⟩
    refine wpOC_free ?_
    repeat (go_big_quiet_step (fail))
    refine wpQuiet_nil ?_
    intro Wc hxc
    have hHe := hHb.ext hxc
    have hx8 := hxd.trans (hxeb.trans hxc)
    have hpe := (hxeb.trans hxc).heap hpa
    clear hI hxb hHb hxc hpa hxd hxe hxeb hfb hps
    obtain ⟨k0, k1⟩ := (Ext.refl Wc).box hpe
    have hpl := heap_lt hpe
    refine wpOT_one ?_
    go_wp2_with fail
    refine wpOT_one ?_
    go_wp2_with fail
    refine wpOT_done ?_
    exact G ba bc p _ ⟨hx8.setCell (p := ⟨p, 0, none⟩) hp8 _, by rw [heap_setCell_box, hpe]; rfl, hHe.same fun X hX => Below.heap_setCell _ _ _ _ (hne X hX), q1, q2⟩
  rintro a6 c6 p8 W16 ⟨hx16, hb8, hH16, s6, t6⟩
  have Hw16 := Lib.hid (Hw15.out.trans hx16)
  have Hq16 := Lib.hid (hx16.heap Hq1.out)
  have HI16 := Lib.hid (HI1.out.ext hx16)
  have Hb5' := Lib.hid (hx16.heap Hb5.out)
  have Hb6' := Lib.hid (hx16.heap Hb6.out)
  have HH16 := Lib.hid hH16
  obtain ⟨k8, _⟩ := (Ext.refl W16).box hb8
  clear hx16 hH16 hb8 Hb7 HI4 Hb5 Hb6 HI1 Hq1 Hw15
  have hEast := exEast_any
  unfold exEast Trek.val at hEast
  simp only at hEast
  have HEast := Lib.hid hEast
  clear hEast
  go_upto_region 8 with (go_at_call 24; refine (Hb4.out _ _ _ HH16.out s6 t6).mono ?_; rintro e W17 ⟨rfl, hx17⟩)
  have hw18 : Ext w ((W17.alloc (.cells #[.int .i64 1000, .int .i64 16000] 28)).alloc (.cells #[.int .i64 7000, .int .i64 11000] 28)) := ((Hw16.out.trans hx17).alloc _).alloc _
  have hx18 : Ext W16 ((W17.alloc (.cells #[.int .i64 1000, .int .i64 16000] 28)).alloc (.cells #[.int .i64 7000, .int .i64 11000] 28)) := (hx17.alloc _).alloc _
  have hb9 : ((W17.alloc (.cells #[.int .i64 1000, .int .i64 16000] 28)).alloc (.cells #[.int .i64 7000, .int .i64 11000] 28)).heap[W17.heap.size]? = some (.cells #[.int .i64 1000, .int .i64 16000] 28 (0, 0)) := ((Ext.refl _).alloc _).heap (heap_alloc_new W17 _)
  have hb10 : ((W17.alloc (.cells #[.int .i64 1000, .int .i64 16000] 28)).alloc (.cells #[.int .i64 7000, .int .i64 11000] 28)).heap[W17.heap.size + 1]? = some (.cells #[.int .i64 7000, .int .i64 11000] 28 (0, 0)) := alloc_at _ _ _ (by simp)
  generalize (W17.alloc (.cells #[.int .i64 1000, .int .i64 16000] 28)).alloc (.cells #[.int .i64 7000, .int .i64 11000] 28) = W18 at *
  generalize W17.heap.size = p9 at *
  have Hq18 := Lib.hid (hx18.heap Hq16.out)
  have HI18 := Lib.hid (HI16.out.ext hx18)
  have Hb5 := Lib.hid (hx18.heap Hb5'.out)
  have Hb6 := Lib.hid (hx18.heap Hb6'.out)
  have Hb9 := Lib.hid hb9
  have Hb10 := Lib.hid hb10
  have Hw18 := Lib.hid hw18
  clear hw18 hx18 hb9 hb10 hx17 Hq16 HI16 Hb5' Hb6' HH16 k8
  go_upto_region 9 with (first
    | (go_at_call 35; refine (Hfi.out _).mono ?_; rintro e W19 ⟨fb3, rfl, fbl3, hx19, hfb3⟩)
    | (go_at_call 38; refine (Hsp.out _ _ _).mono ?_; rintro e W20 ⟨rfl, hx20⟩)
    | (go_at_call 39; refine (HB.out _).mono ?_; rintro e W21 ⟨rfl, hx21⟩)
    | (go_at_call 74; refine (HC.out _).mono ?_; rintro e W22 ⟨rfl, hx22⟩)
    | (go_at_call 18; refine (Hcl.out _ _ _ _ _ (field_halves ((((hx20.trans hx21).trans hx22).alloc _).heap hfb3)) (by decide) (by decide) (sights_block exL rfl (heap_alloc_new W22 _))).mono ?_; rintro e W23 ⟨a7, c7, rfl, hx23, hH23⟩))
  have hx18' := (((hx19.trans hx20).trans hx21).trans hx22).trans (((Ext.refl W22).alloc _).trans hx23)
  have Hx23 := Lib.hid hx18'
  have HH23 := Lib.hid hH23
  clear hx18' hH23 hx19 hx20 hx21 hx22 hx23 hfb3 fbl3
  go_upto_region 10 with (first
    | (go_at_call 35; refine (Hfi.out _).mono ?_; rintro e W24 ⟨fb4, rfl, fbl4, hx24, hfb4⟩)
    | (go_at_call 26; refine (Hne.out _ _ _ (field_halves hfb4) (by decide) (by decide)).mono ?_; rintro e W25 ⟨rfl, hx25⟩))
  have Hx25 := Lib.hid (hx24.trans hx25)
  clear hx24 hx25 hfb4 fbl4
  go_upto_region 11 with (first
    | (go_at_call 35; refine (Hfi.out _).mono ?_; rintro e W26 ⟨fb5, rfl, fbl5, hx26, hfb5⟩; have hx30 := Ext.refl W26)
    | (go_at_call 37; refine (HEast.out _).mono ?_; rintro e W30 ⟨rfl, hx30'⟩; replace hx30 := hx30.trans hx30'; clear hx30')
    | (go_at_call 32; refine (Hfd.out _ _ _ _ _ (field_halves ((hx30.alloc _).heap hfb5)) (by decide) (by decide) (treks_block [exEast, exEast, exEast, exEast] rfl (heap_alloc_new _ _))).mono ?_; rintro e W31 ⟨rfl, hx31⟩))
  have hx2331 := Hx25.out.trans ((hx26.trans (hx30.alloc _)).trans hx31)
  have hx1831 := Hx23.out.trans hx2331
  have Hw31 := Lib.hid (Hw18.out.trans hx1831)
  have Hq31 := Lib.hid (hx1831.heap Hq18.out)
  have HI31 := Lib.hid (HI18.out.ext hx1831)
  have Hc5 := Lib.hid (hx1831.heap Hb5.out)
  have Hc6 := Lib.hid (hx1831.heap Hb6.out)
  have Hc9 := Lib.hid (hx1831.heap Hb9.out)
  have Hc10 := Lib.hid (hx1831.heap Hb10.out)
  have HH31 := Lib.hid (HH23.out.ext hx2331)
  clear hx2331 hx1831 hx26 hx30 hx31 Hx25 Hx23 HH23 Hq18 HI18 Hb5 Hb6 Hb9 Hb10 Hw18 hfb5 fbl5
  have hsA0 := fun W b (c1' c2' : Nat) (h1 : HalvesAt W a1 4 fieldL) (h2 : HalvesAt W b 4 fieldL) => sameArea_any a1 b 4 4 c1' c2' fieldL fieldL W h1 h2 (by omega)
  rw [decide_eq_true (rfl : fieldL = fieldL)] at hsA0
  have hsI := fun W b (c1' c2' : Nat) (h1 : IntsAt .i64 W a7 2 [0, 2]) (h2 : IntsAt .i64 W b 2 [0, 2]) => sameInts_any a7 b 2 2 c1' c2' [0, 2] [0, 2] W h1 h2 (by omega)
  rw [decide_eq_true (rfl : ([0, 2] : List Int) = [0, 2])] at hsI
  have HsA0 := Lib.hid hsA0
  have HsI := Lib.hid hsI
  clear hsA0 hsI
  simp only [List.append]
  refine wp_region_tree (.take [0, 1, 2, 3] (.one 4 (.one 5 (.take [6, 7, 8, 9, 10, 11, 12, 13, 14, 15, 16, 17, 18, 19, 20] (.one 21 (.take [22, 23, 24, 25] (.one 26 (.take [27, 28, 29, 30, 31, 32, 33, 34, 35, 36, 37, 38, 39, 40, 41, 42] (.one 43 (.take [44, 45, 46, 47] (.one 48 (.take [49, 50, 51, 52, 53, 54, 55, 56] (.one 57 (.one 58 (.take [59, 60, 61, 62, 63, 64, 65, 66, 67, 68, 69, 70, 71, 72, 73, 74, 75, 76, 77, 78, 79, 80] .done))))))))))))))) (Ext W31) _ (by kernel_rfl) (by kernel_rfl) rfl ((Ext.refl _).drew) ?_
  intro ι _ f hf hs
  have f0 := fun q => ((hf q).box Hq31.out).1
  have f1 := fun q => ((hf q).box Hc5.out).1
  have f2 := fun q => ((hf q).box Hc6.out).1
  have f3 := fun q => ((hf q).box Hc9.out).1
  have f4 := fun q => ((hf q).box Hc10.out).1
  have HS := Lib.hid hs
  clear hf hs
  simp only [treeOf, oneOp, twoOp, opsOf, consOp, List.getElem?_toArray, List.getElem?_cons_succ, List.getElem?_cons_zero]
  refine wpOT_take ?_
  repeat (go_big_quiet_step (fail))
  refine wpQuiet_nil ?_
  refine wpOT_one ?_
  go_wp2_with (go_at_call 35; refine (Hfi.out _).mono ?_; rintro e W32 ⟨fb6, rfl, _, hx32, hfb6⟩; have hx32' := (Ext.refl W31).drew.trans hx32)
  refine ⟨HS.out _ (hx32'), ?_⟩
  refine wpOT_one ?_
  go_wp2_with (go_at_call 20; refine (HsA0.out _ _ _ _ (HI31.out.ext hx32') (field_halves hfb6)).mono ?_; rintro e W33 ⟨rfl, hx33⟩; have hx33' := hx32'.trans hx33)
  refine ⟨HS.out _ (hx33'), ?_⟩
  clear hx32 hfb6 hx33
  refine wpOT_take ?_
  repeat (go_big_quiet_step (fail))
  refine wpQuiet_nil ?_
  refine wpOT_one ?_
  go_wp2_with (go_at_call 38; refine (Hsp.out _ _ _).mono ?_; rintro e W34 ⟨rfl, hx34⟩; have hx34' := hx33'.trans hx34)
  refine ⟨HS.out _ (hx34'), ?_⟩
  refine wpOT_take ?_
  repeat (go_big_quiet_step (fail))
  refine wpQuiet_nil ?_
  refine wpOT_one ?_
  go_wp2_with (go_at_call 38; refine (Hsp.out _ _ _).mono ?_; rintro e W35 ⟨rfl, hx35⟩; have hx35' := hx34'.trans hx35)
  refine ⟨HS.out _ (hx35'), ?_⟩
  refine wpOT_take ?_
  repeat (go_big_quiet_step (fail))
  refine wpQuiet_nil ?_
  refine wpOT_one ?_
  go_wp2_with (go_at_call 38; refine (Hsp.out _ _ _).mono ?_; rintro e W36 ⟨rfl, hx36⟩; have hx36' := hx35'.trans hx36)
  refine ⟨HS.out _ (hx36'), ?_⟩
  refine wpOT_take ?_
  repeat (go_big_quiet_step (fail))
  refine wpQuiet_nil ?_
  refine wpOT_one ?_
  go_wp2_with (go_at_call 38; refine (Hsp.out _ _ _).mono ?_; rintro e W37 ⟨rfl, hx37⟩; have hx37' := hx36'.trans hx37)
  refine ⟨HS.out _ (hx37'), ?_⟩
  refine wpOT_take ?_
  repeat (go_big_quiet_step (fail))
  refine wpQuiet_nil ?_
  refine wpOT_one ?_
  go_wp2_with fail
  refine ⟨HS.out _ (hx37'.alloc _), ?_⟩
  refine wpOT_one ?_
  go_wp2_with (go_at_call 21; refine (HsI.out _ _ _ _ (HH31.out.ext (hx37'.alloc _)) (ints_block2 (heap_alloc_new W37 _))).mono ?_; rintro e W38 ⟨rfl, hx38⟩; have hx38' := (hx37'.alloc _).trans hx38)
  refine ⟨HS.out _ (hx38'), ?_⟩
  refine wpOT_take ?_
  repeat (go_big_quiet_step (fail))
  refine wpQuiet_nil ?_
  refine wpOT_done ?_
  clear f0 f1 f2 f3 f4 HS
  go_wp2_with fail
  go_ret
  exact ⟨rfl, Hw31.out.trans hx38'⟩
end Go.Proofs.Ytacdndehlkaaeaa
