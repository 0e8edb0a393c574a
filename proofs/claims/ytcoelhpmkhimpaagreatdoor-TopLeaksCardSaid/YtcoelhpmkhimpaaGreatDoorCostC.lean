/- Contracts of layer 1: cost. -/
import Derived.Test.YtcoelhpmkhimpaaGreatDoorScal
namespace Go.Proofs.YtcoelhpmkhimpaaGreatDoor
open Go.RowKit
set_option linter.unusedVariables false
set_option linter.unusedSimpArgs false
theorem max0_20 (x : Int) : max 0 (x - 20) = if 20 < x then x - 20 else 0 := by
  split <;> omega
theorem set4_box {W : World} {b : Nat} {x0 y0 z0 u0 : Value} {T : TypeId} (h : W.heap[b]? = some (.cells #[x0, y0, z0, u0] T (0, 0))) (x y z u : Value) : ((((W.setCell ⟨b, 0, none⟩ x).setCell ⟨b, 1, none⟩ y).setCell ⟨b, 2, none⟩ z).setCell ⟨b, 3, none⟩ u).heap[b]? = some (.cells #[x, y, z, u] T (0, 0)) := by
  rw [heap_setCell_box, heap_setCell_box, heap_setCell_box, heap_setCell_box, h]
  rfl
set_option maxRecDepth 100000 in
set_option maxHeartbeats 8000000 in
theorem cost_any (s : Breed) (k : Bool) (m : March) (w : World) (hb : BreedOk s) (hm : DayOk m) : Calls Tryz.prog 72 #[s.val, .bool k, m.val] w fun e w' => e = .returned (.agg #[.int .i64 (waterOf s k m).lo, .int .i64 (waterOf s k m).hi, .int .i64 (fatOf s m).lo, .int .i64 (fatOf s m).hi]) ∧ Ext w w' := by
  have hwk := work_is hm
  have hwa := water_is hb hm k
  obtain ⟨fu, fe, ⟨r0, r1⟩, ⟨h0, h1⟩, ⟨t0, t1⟩, ⟨b0, b1⟩, ⟨u0, u1⟩, ⟨m0, m1⟩, hl, ⟨s0, s1⟩⟩ := s
  obtain ⟨hh, ll, ⟨e0, e1⟩, ⟨g0, g1⟩, ⟨d0, d1⟩⟩ := m
  obtain ⟨-, -, -, -, ⟨br1, br2, br3⟩, ⟨bh1, bh2, bh3⟩, ⟨bt1, bt2, bt3⟩, ⟨bb1, bb2, bb3⟩, -, ⟨bm1, bm2, bm3⟩⟩ := hb
  obtain ⟨mh, ml, ⟨me1, me2, me3⟩, -, -⟩ := hm
  simp only at *
  have hval : (.agg #[.int .i64 (waterOf ⟨fu, fe, ⟨r0, r1⟩, ⟨h0, h1⟩, ⟨t0, t1⟩, ⟨b0, b1⟩, ⟨u0, u1⟩, ⟨m0, m1⟩, hl, ⟨s0, s1⟩⟩ k ⟨hh, ll, ⟨e0, e1⟩, ⟨g0, g1⟩, ⟨d0, d1⟩⟩).lo, .int .i64 (waterOf ⟨fu, fe, ⟨r0, r1⟩, ⟨h0, h1⟩, ⟨t0, t1⟩, ⟨b0, b1⟩, ⟨u0, u1⟩, ⟨m0, m1⟩, hl, ⟨s0, s1⟩⟩ k ⟨hh, ll, ⟨e0, e1⟩, ⟨g0, g1⟩, ⟨d0, d1⟩⟩).hi,
      .int .i64 (fatOf ⟨fu, fe, ⟨r0, r1⟩, ⟨h0, h1⟩, ⟨t0, t1⟩, ⟨b0, b1⟩, ⟨u0, u1⟩, ⟨m0, m1⟩, hl, ⟨s0, s1⟩⟩ ⟨hh, ll, ⟨e0, e1⟩, ⟨g0, g1⟩, ⟨d0, d1⟩⟩).lo, .int .i64 (fatOf ⟨fu, fe, ⟨r0, r1⟩, ⟨h0, h1⟩, ⟨t0, t1⟩, ⟨b0, b1⟩, ⟨u0, u1⟩, ⟨m0, m1⟩, hl, ⟨s0, s1⟩⟩ ⟨hh, ll, ⟨e0, e1⟩, ⟨g0, g1⟩, ⟨d0, d1⟩⟩).hi] : Value)
      = .agg #[.int .i64 (r0 + h0 * (if 20 < e0 then e0 - 20 else 0) + t0 * (hh * (100000 + ll)) / 100000 + (milkOf k ⟨m0, m1⟩).lo), .int .i64 (r1 + h1 * (if 20 < e1 then e1 - 20 else 0) + upq (t1 * (hh * (100000 + ll))) 100000 + (milkOf k ⟨m0, m1⟩).hi), .int .i64 (b0 * (hh * (100000 + ll)) / 100000), .int .i64 (upq (b1 * (hh * (100000 + ll))) 100000)] := by
    unfold waterOf fatOf workOf
    simp only [max0_20]
  rw [hval]
  clear hval hwa
  unfold workOf at hwk
  simp only at hwk
  obtain ⟨P, hP⟩ : ∃ P, hh * (100000 + ll) = P := ⟨_, rfl⟩
  obtain ⟨X0, hX0⟩ : ∃ X, (if 20 < e0 then e0 - 20 else 0) = X := ⟨_, rfl⟩
  obtain ⟨X1, hX1⟩ : ∃ X, (if 20 < e1 then e1 - 20 else 0) = X := ⟨_, rfl⟩
  have hX0b : 0 ≤ X0 ∧ X0 ≤ 40 := by rw [← hX0]; split <;> omega
  have hX1b : 0 ≤ X1 ∧ X1 ≤ 40 := by rw [← hX1]; split <;> omega
  rw [hP] at hwk ⊢
  rw [hX0, hX1]
  have mH0 := mul_le2 bh1 (Int.le_refl h0) hX0b.1 (Int.le_refl X0) (show h0 ≤ 100000 by omega) hX0b.2
  have mH1 := mul_le2 (show 0 ≤ h1 by omega) (Int.le_refl h1) hX1b.1 (Int.le_refl X1) bh3 hX1b.2
  have mT0 := mul_le2 bt1 (Int.le_refl t0) hwk.1 (Int.le_refl P) (show t0 ≤ 100000 by omega) hwk.2
  have mT1 := mul_le2 (show 0 ≤ t1 by omega) (Int.le_refl t1) hwk.1 (Int.le_refl P) bt3 hwk.2
  have mB0 := mul_le2 bb1 (Int.le_refl b0) hwk.1 (Int.le_refl P) (show b0 ≤ 100000 by omega) hwk.2
  have mB1 := mul_le2 (show 0 ≤ b1 by omega) (Int.le_refl b1) hwk.1 (Int.le_refl P) bb3 hwk.2
  obtain ⟨H0, eH0⟩ : ∃ X, h0 * X0 = X := ⟨_, rfl⟩
  obtain ⟨H1, eH1⟩ : ∃ X, h1 * X1 = X := ⟨_, rfl⟩
  rw [eH0] at mH0 ⊢
  rw [eH1] at mH1 ⊢
  have hs1 := fun (W : World) (b : Nat) (h : W.heap[b]? = some (.cells #[.int .i64 P] 3 (0, 0))) => scaled1 (a := t0) (b := t1) (d := 100000) h (by omega) (by omega) (by omega) (by omega) (by omega)
  have hs2 := fun (W : World) (b : Nat) (h : W.heap[b]? = some (.cells #[.int .i64 P] 3 (0, 0))) => scaled1 (a := b0) (b := b1) (d := 100000) h (by omega) (by omega) (by omega) (by omega) (by omega)
  have uT1 := upq_nonneg (a := t1 * P) (d := 100000) (by omega) mT1.1
  have uT1' := upq_mono (d := 100000) (by omega) (show t1 * P ≤ 2640000000000 by omega)
  rw [show upq 2640000000000 100000 = 26400000 from rfl] at uT1'
  obtain ⟨T0, eT0⟩ : ∃ X, t0 * P = X := ⟨_, rfl⟩
  obtain ⟨T1, eT1⟩ : ∃ X, upq (t1 * P) 100000 = X := ⟨_, rfl⟩
  obtain ⟨B0, eB0⟩ : ∃ X, b0 * P = X := ⟨_, rfl⟩
  obtain ⟨B1, eB1⟩ : ∃ X, upq (b1 * P) 100000 = X := ⟨_, rfl⟩
  rw [eT0] at mT0
  rw [eT0, eT1] at hs1
  rw [eB0, eB1] at hs2
  rw [eT1] at uT1 uT1'
  rw [eT0, eT1, eB0, eB1]
  have dT0 : 0 ≤ T0 / 100000 ∧ T0 / 100000 ≤ 26400000 := by omega
  have hp3 := fun (W : World) (b : Nat) (h : W.heap[b]? = some (.cells #[.int .i64 r0, .int .i64 r1, .int .i64 H0, .int .i64 H1, .int .i64 (T0 / 100000), .int .i64 T1] 23 (0, 0))) => plus3 h (by omega) (by omega) (by omega) (by omega) (by omega) (by omega)
  obtain ⟨A0, eA0⟩ : ∃ X, r0 + H0 + T0 / 100000 = X := ⟨_, rfl⟩
  obtain ⟨A1, eA1⟩ : ∃ X, r1 + H1 + T1 = X := ⟨_, rfl⟩
  have bA0 : 0 ≤ A0 ∧ A0 ≤ 1000000000 := by omega
  have bA1 : 0 ≤ A1 ∧ A1 ≤ 1000000000 := by omega
  rw [eA0, eA1] at hp3 ⊢
  clear mB0 mB1 mT1 eT0 eT1 eB0 eB1 eA0 eA1
  have hp2 := fun (W : World) (b : Nat) (h : W.heap[b]? = some (.cells #[.int .i64 A0, .int .i64 A1, .int .i64 m0, .int .i64 m1] 23 (0, 0))) => plus2 h (by omega) (by omega) (by omega) (by omega)
  unfold Breed.val March.val
  simp only
  obtain ⟨W0, hW0⟩ : ∃ W0, (((w.alloc (.cells #[.int .i64 fu, .int .i64 fe, .int .i64 r0, .int .i64 r1, .int .i64 h0, .int .i64 h1, .int .i64 t0, .int .i64 t1, .int .i64 b0, .int .i64 b1, .int .i64 u0, .int .i64 u1, .int .i64 m0, .int .i64 m1, .int .i64 hl, .int .i64 s0, .int .i64 s1] 25)).alloc (.cells #[.int .i64 hh, .int .i64 ll, .int .i64 e0, .int .i64 e1, .int .i64 g0, .int .i64 g1, .int .i64 d0, .int .i64 d1] 54)).alloc (.cells #[.int .i64 0, .int .i64 0, .int .i64 0, .int .i64 0] 129)).alloc (.cells #[.int .i64 X0, .int .i64 X1] 23) = W0 := ⟨_, rfl⟩
  have hx0 : Ext w W0 := by rw [← hW0]; exact ((((Ext.refl w).alloc _).alloc _).alloc _).alloc _
  have hb0 : W0.heap[w.heap.size]? = some (.cells #[.int .i64 fu, .int .i64 fe, .int .i64 r0, .int .i64 r1, .int .i64 h0, .int .i64 h1, .int .i64 t0, .int .i64 t1, .int .i64 b0, .int .i64 b1, .int .i64 u0, .int .i64 u1, .int .i64 m0, .int .i64 m1, .int .i64 hl, .int .i64 s0, .int .i64 s1] 25 (0, 0)) := by rw [← hW0]; exact alloc_heap (alloc_heap (alloc_heap (heap_alloc_new w _) _) _) _
  have hm0 : W0.heap[w.heap.size + 1]? = some (.cells #[.int .i64 hh, .int .i64 ll, .int .i64 e0, .int .i64 e1, .int .i64 g0, .int .i64 g1, .int .i64 d0, .int .i64 d1] 54 (0, 0)) := by rw [← hW0]; exact alloc_heap (alloc_heap (alloc_at _ _ _ (by simp)) _) _
  have hr0 : W0.heap[w.heap.size + 1 + 1]? = some (.cells #[.int .i64 0, .int .i64 0, .int .i64 0, .int .i64 0] 129 (0, 0)) := by rw [← hW0]; exact alloc_heap (alloc_at _ _ _ (by simp)) _
  have ha0 : W0.heap[w.heap.size + 1 + 1 + 1]? = some (.cells #[.int .i64 X0, .int .i64 X1] 23 (0, 0)) := by rw [← hW0]; exact alloc_at _ _ _ (by simp)
  obtain ⟨z0, _⟩ := (Ext.refl W0).box hb0
  obtain ⟨z1, _⟩ := (Ext.refl W0).box hm0
  obtain ⟨z2, _⟩ := (Ext.refl W0).box ha0
  have Hx0 := Lib.hid hx0
  have Hb0 := Lib.hid hb0
  have Hm0 := Lib.hid hm0
  have Hr0 := Lib.hid hr0
  have Ha0 := Lib.hid ha0
  have Hs1 := Lib.hid hs1
  have Hs2 := Lib.hid hs2
  have Hp2 := Lib.hid hp2
  have Hp3 := Lib.hid hp3
  clear hx0 hb0 hm0 hr0 ha0 hs1 hs2 hp2 hp3
  cases k
  · have hval : (.agg #[.int .i64 (A0 + (milkOf false ⟨m0, m1⟩).lo), .int .i64 (A1 + (milkOf false ⟨m0, m1⟩).hi), .int .i64 (B0 / 100000), .int .i64 B1] : Value) = .agg #[.int .i64 A0, .int .i64 A1, .int .i64 (B0 / 100000), .int .i64 B1] := by simp [milkOf]
    rw [hval]
    clear hval
    go_enter Tryz.func72, Tryz.ntmps72
    go_upto_region 3 with fail
    clear hW0 z0 z1 z2
    refine wp_region_flow (.take [0, 1, 2, 3, 4, 5, 6, 7, 8, 9, 10, 11, 12, 13, 14, 15, 16, 17] (.flow [18, 19, 20, 21, 22] [45, 46, 47, 48, 9] [[], [0], [1], [2], []] (.one 23 .done))) [23] (Ext W0) _ (by kernel_rfl) (by kernel_rfl) rfl (EC.ext W0) ((Ext.refl _).drew) ?_
    simp only [flowOf, treeOf, oneOp, twoOp, opsOf, consOp, callOF, List.getElem?_toArray, List.getElem?_cons_succ, List.getElem?_cons_zero]
    intro ι _ f hf
    have f0 := fun q => ((hf q).box Hb0.out).1
    have f1 := fun q => ((hf q).box Ha0.out).1
    clear hf
    repeat (go_big_quiet_step (fail))
    refine wpQuiet_nil ?_
    clear f0 f1
    refine wpOF_flow [IsSl 3 1 #[.int .i64 P], IsV (.agg #[.int .i64 (T0 / 100000), .int .i64 T1]), IsSl 23 3 #[.int .i64 r0, .int .i64 r1, .int .i64 H0, .int .i64 H1, .int .i64 (T0 / 100000), .int .i64 T1], IsV (.agg #[.int .i64 A0, .int .i64 A1]), IsBox W0.heap.size 23 #[.int .i64 0, .int .i64 0]] rfl ⟨isSl_ec 3 1 #[.int .i64 P], isV_ec (.agg #[.int .i64 (T0 / 100000), .int .i64 T1]), isSl_ec 23 3 #[.int .i64 r0, .int .i64 r1, .int .i64 H0, .int .i64 H1, .int .i64 (T0 / 100000), .int .i64 T1], isV_ec (.agg #[.int .i64 A0, .int .i64 A1]), isBox_ec W0.heap.size 23 #[.int .i64 0, .int .i64 0], trivial⟩ (flowSteps_cons ?_ (flowSteps_cons ?_ (flowSteps_cons ?_ (flowSteps_cons ?_ (flowSteps_cons ?_ flowSteps_nil))))) ?_
    · intro xs W hlen hS hn
      obtain ⟨x0, x1, x2, x3, x4, rfl⟩ := len5 hlen
      simp only [puts, Act.put, List.setIfInBounds_toArray, List.set_cons_succ, List.set_cons_zero]
      go_wp2_with fail
      exact FlowPost.mk (.slice (some ⟨W.heap.size, 0, none⟩) 1 1) rfl ((Ext.refl _).alloc _) IsSl.new
    · intro xs W hlen hS hn
      obtain ⟨x0, x1, x2, x3, x4, rfl⟩ := len5 hlen
      simp only [puts, Act.put, List.setIfInBounds_toArray, List.set_cons_succ, List.set_cons_zero]
      obtain ⟨b, rfl, hbs⟩ : IsSl 3 1 #[.int .i64 P] x0 W := hn.1
      go_wp2_with (go_at_call 74; refine (Hs1.out W b hbs).mono ?_; rintro e W1 ⟨rfl, hx1⟩)
      exact FlowPost.mk (.agg #[.int .i64 (T0 / 100000), .int .i64 T1]) rfl hx1 rfl
    · intro xs W hlen hS hn
      obtain ⟨x0, x1, x2, x3, x4, rfl⟩ := len5 hlen
      simp only [puts, Act.put, List.setIfInBounds_toArray, List.set_cons_succ, List.set_cons_zero]
      obtain rfl : x1 = .agg #[.int .i64 (T0 / 100000), .int .i64 T1] := hn.1
      go_wp2_with fail
      exact FlowPost.mk (.slice (some ⟨W.heap.size, 0, none⟩) 3 3) rfl ((Ext.refl _).alloc _) IsSl.new
    · intro xs W hlen hS hn
      obtain ⟨x0, x1, x2, x3, x4, rfl⟩ := len5 hlen
      simp only [puts, Act.put, List.setIfInBounds_toArray, List.set_cons_succ, List.set_cons_zero]
      obtain ⟨b, rfl, hbs⟩ : IsSl 23 3 #[.int .i64 r0, .int .i64 r1, .int .i64 H0, .int .i64 H1, .int .i64 (T0 / 100000), .int .i64 T1] x2 W := hn.1
      go_wp2_with (go_at_call 73; refine (Hp3.out W b hbs).mono ?_; rintro e W1 ⟨rfl, hx1⟩)
      exact FlowPost.mk (.agg #[.int .i64 A0, .int .i64 A1]) rfl hx1 rfl
    · intro xs W hlen hS hn
      obtain ⟨x0, x1, x2, x3, x4, rfl⟩ := len5 hlen
      simp only [puts, Act.put, List.setIfInBounds_toArray, List.set_cons_succ, List.set_cons_zero]
      go_wp2_with fail
      exact FlowPost.mk (.pointer (some ⟨W.heap.size, 0, none⟩)) rfl ((Ext.refl _).alloc _) (IsBox.new hS.size)
    intro xs W hlen hS hn
    obtain ⟨x0, x1, x2, x3, x4, rfl⟩ := len5 hlen
    simp only [puts, Act.put, List.setIfInBounds_toArray, List.set_cons_succ, List.set_cons_zero]
    obtain ⟨-, -, -, rfl, ⟨q, rfl, hq0, hq⟩, -⟩ := hn
    obtain ⟨q1, q2⟩ := (Ext.refl W).box hq
    have hql := heap_lt hq
    refine wpOT_one ?_
    go_wp2_with fail
    refine wpOT_done ?_
    have hlb := heap_lt Hb0.out
    have hlm := heap_lt Hm0.out
    have hlr := heap_lt Hr0.out
    have hx4 := set2_ext (Hx0.out.trans hS) (b := q) (by omega) (.int .i64 A0) (.int .i64 A1)
    have hb4 := set2_other (hS.heap Hb0.out) (b := q) (by omega) (.int .i64 A0) (.int .i64 A1)
    have hr4 := set2_other (hS.heap Hr0.out) (b := q) (by omega) (.int .i64 A0) (.int .i64 A1)
    have hq4 := set2_box hq (.int .i64 A0) (.int .i64 A1)
    generalize (W.setCell ⟨q, 0, none⟩ (.int .i64 A0)).setCell ⟨q, 1, none⟩ (.int .i64 A1) = W4 at *
    obtain ⟨b1, b2⟩ := (Ext.refl W4).box hb4
    obtain ⟨q3, q4⟩ := (Ext.refl W4).box hq4
    have hbl4 := heap_lt hb4
    have hql4 := heap_lt hq4
    go_upto_region 6 with fail
    refine wp_region_flow (.take [0, 1, 2, 3] (.flow [4, 5] [59, 60] [[], [0]] (.take [6] (.one 7 .done)))) [6, 7] (Ext W4) _ (by kernel_rfl) (by kernel_rfl) rfl (EC.ext W4) ((Ext.refl _).drew) ?_
    simp only [flowOf, treeOf, oneOp, twoOp, opsOf, consOp, callOF, List.getElem?_toArray, List.getElem?_cons_succ, List.getElem?_cons_zero]
    intro ι _ f hf
    have f0 := fun q => ((hf q).box hb4).1
    have f1 := fun q => ((hf q).box hq4).1
    clear hf
    repeat (go_big_quiet_step (fail))
    refine wpQuiet_nil ?_
    clear f0 f1
    refine wpOF_flow [IsSl 3 1 #[.int .i64 P], IsV (.agg #[.int .i64 (B0 / 100000), .int .i64 B1])] rfl ⟨isSl_ec 3 1 #[.int .i64 P], isV_ec (.agg #[.int .i64 (B0 / 100000), .int .i64 B1]), trivial⟩ (flowSteps_cons ?_ (flowSteps_cons ?_ flowSteps_nil)) ?_
    · intro xs W hlen hS hn
      obtain ⟨x0, x1, rfl⟩ := len2 hlen
      simp only [puts, Act.put, List.setIfInBounds_toArray, List.set_cons_succ, List.set_cons_zero]
      go_wp2_with fail
      exact FlowPost.mk (.slice (some ⟨W.heap.size, 0, none⟩) 1 1) rfl ((Ext.refl _).alloc _) IsSl.new
    · intro xs W hlen hS hn
      obtain ⟨x0, x1, rfl⟩ := len2 hlen
      simp only [puts, Act.put, List.setIfInBounds_toArray, List.set_cons_succ, List.set_cons_zero]
      obtain ⟨b, rfl, hbs⟩ : IsSl 3 1 #[.int .i64 P] x0 W := hn.1
      go_wp2_with (go_at_call 74; refine (Hs2.out W b hbs).mono ?_; rintro e W1 ⟨rfl, hx1⟩)
      exact FlowPost.mk (.agg #[.int .i64 (B0 / 100000), .int .i64 B1]) rfl hx1 rfl
    intro xs W hlen hS hn
    obtain ⟨x0, x1, rfl⟩ := len2 hlen
    simp only [puts, Act.put, List.setIfInBounds_toArray, List.set_cons_succ, List.set_cons_zero]
    obtain ⟨⟨b, rfl, hbs⟩, rfl, -⟩ := hn
    refine wpOT_take ?_
    repeat (go_big_quiet_step (fail))
    refine wpQuiet_nil ?_
    have hr8 := hS.heap hr4
    have hrl := heap_lt hr8
    refine wpOT_one ?_
    obtain ⟨r5, r6⟩ := (Ext.refl W).box hr8
    go_wp2_with fail
    refine wpOT_done ?_
    go_wp2_with fail
    refine bodyPost_ret (results_cell_row rfl _ _ (w.heap.size + 1 + 1) 129 #[.int .i64 A0, .int .i64 A1, .int .i64 (B0 / 100000), .int .i64 B1] (0, 0) _ rfl (set4_box hr8 _ _ _ _) Tryz.underlying129 rfl (by kernel_rfl)) rfl ?_
    exact ⟨rfl, ((((hx4.trans hS).setCell (p := ⟨w.heap.size + 1 + 1, 0, none⟩) (by simp only; omega) _).setCell (p := ⟨w.heap.size + 1 + 1, 1, none⟩) (by simp only; omega) _).setCell (p := ⟨w.heap.size + 1 + 1, 2, none⟩) (by simp only; omega) _).setCell (p := ⟨w.heap.size + 1 + 1, 3, none⟩) (by simp only; omega) _⟩
  · have hval : (.agg #[.int .i64 (A0 + (milkOf true ⟨m0, m1⟩).lo), .int .i64 (A1 + (milkOf true ⟨m0, m1⟩).hi), .int .i64 (B0 / 100000), .int .i64 B1] : Value) = .agg #[.int .i64 (A0 + m0), .int .i64 (A1 + m1), .int .i64 (B0 / 100000), .int .i64 B1] := by simp [milkOf]
    rw [hval]
    clear hval
    go_enter Tryz.func72, Tryz.ntmps72
    go_upto_region 3 with fail
    clear hW0 z0 z1 z2
    refine wp_region_flow (.take [0, 1, 2, 3, 4, 5, 6, 7, 8, 9, 10, 11, 12, 13, 14, 15, 16, 17] (.flow [18, 19, 20, 21, 22] [45, 46, 47, 48, 9] [[], [0], [1], [2], []] (.one 23 .done))) [23] (Ext W0) _ (by kernel_rfl) (by kernel_rfl) rfl (EC.ext W0) ((Ext.refl _).drew) ?_
    simp only [flowOf, treeOf, oneOp, twoOp, opsOf, consOp, callOF, List.getElem?_toArray, List.getElem?_cons_succ, List.getElem?_cons_zero]
    intro ι _ f hf
    have f0 := fun q => ((hf q).box Hb0.out).1
    have f1 := fun q => ((hf q).box Ha0.out).1
    clear hf
    repeat (go_big_quiet_step (fail))
    refine wpQuiet_nil ?_
    clear f0 f1
    refine wpOF_flow [IsSl 3 1 #[.int .i64 P], IsV (.agg #[.int .i64 (T0 / 100000), .int .i64 T1]), IsSl 23 3 #[.int .i64 r0, .int .i64 r1, .int .i64 H0, .int .i64 H1, .int .i64 (T0 / 100000), .int .i64 T1], IsV (.agg #[.int .i64 A0, .int .i64 A1]), IsBox W0.heap.size 23 #[.int .i64 0, .int .i64 0]] rfl ⟨isSl_ec 3 1 #[.int .i64 P], isV_ec (.agg #[.int .i64 (T0 / 100000), .int .i64 T1]), isSl_ec 23 3 #[.int .i64 r0, .int .i64 r1, .int .i64 H0, .int .i64 H1, .int .i64 (T0 / 100000), .int .i64 T1], isV_ec (.agg #[.int .i64 A0, .int .i64 A1]), isBox_ec W0.heap.size 23 #[.int .i64 0, .int .i64 0], trivial⟩ (flowSteps_cons ?_ (flowSteps_cons ?_ (flowSteps_cons ?_ (flowSteps_cons ?_ (flowSteps_cons ?_ flowSteps_nil))))) ?_
    · intro xs W hlen hS hn
      obtain ⟨x0, x1, x2, x3, x4, rfl⟩ := len5 hlen
      simp only [puts, Act.put, List.setIfInBounds_toArray, List.set_cons_succ, List.set_cons_zero]
      go_wp2_with fail
      exact FlowPost.mk (.slice (some ⟨W.heap.size, 0, none⟩) 1 1) rfl ((Ext.refl _).alloc _) IsSl.new
    · intro xs W hlen hS hn
      obtain ⟨x0, x1, x2, x3, x4, rfl⟩ := len5 hlen
      simp only [puts, Act.put, List.setIfInBounds_toArray, List.set_cons_succ, List.set_cons_zero]
      obtain ⟨b, rfl, hbs⟩ : IsSl 3 1 #[.int .i64 P] x0 W := hn.1
      go_wp2_with (go_at_call 74; refine (Hs1.out W b hbs).mono ?_; rintro e W1 ⟨rfl, hx1⟩)
      exact FlowPost.mk (.agg #[.int .i64 (T0 / 100000), .int .i64 T1]) rfl hx1 rfl
    · intro xs W hlen hS hn
      obtain ⟨x0, x1, x2, x3, x4, rfl⟩ := len5 hlen
      simp only [puts, Act.put, List.setIfInBounds_toArray, List.set_cons_succ, List.set_cons_zero]
      obtain rfl : x1 = .agg #[.int .i64 (T0 / 100000), .int .i64 T1] := hn.1
      go_wp2_with fail
      exact FlowPost.mk (.slice (some ⟨W.heap.size, 0, none⟩) 3 3) rfl ((Ext.refl _).alloc _) IsSl.new
    · intro xs W hlen hS hn
      obtain ⟨x0, x1, x2, x3, x4, rfl⟩ := len5 hlen
      simp only [puts, Act.put, List.setIfInBounds_toArray, List.set_cons_succ, List.set_cons_zero]
      obtain ⟨b, rfl, hbs⟩ : IsSl 23 3 #[.int .i64 r0, .int .i64 r1, .int .i64 H0, .int .i64 H1, .int .i64 (T0 / 100000), .int .i64 T1] x2 W := hn.1
      go_wp2_with (go_at_call 73; refine (Hp3.out W b hbs).mono ?_; rintro e W1 ⟨rfl, hx1⟩)
      exact FlowPost.mk (.agg #[.int .i64 A0, .int .i64 A1]) rfl hx1 rfl
    · intro xs W hlen hS hn
      obtain ⟨x0, x1, x2, x3, x4, rfl⟩ := len5 hlen
      simp only [puts, Act.put, List.setIfInBounds_toArray, List.set_cons_succ, List.set_cons_zero]
      go_wp2_with fail
      exact FlowPost.mk (.pointer (some ⟨W.heap.size, 0, none⟩)) rfl ((Ext.refl _).alloc _) (IsBox.new hS.size)
    intro xs W hlen hS hn
    obtain ⟨x0, x1, x2, x3, x4, rfl⟩ := len5 hlen
    simp only [puts, Act.put, List.setIfInBounds_toArray, List.set_cons_succ, List.set_cons_zero]
    obtain ⟨-, -, -, rfl, ⟨q, rfl, hq0, hq⟩, -⟩ := hn
    obtain ⟨q1, q2⟩ := (Ext.refl W).box hq
    have hql := heap_lt hq
    refine wpOT_one ?_
    go_wp2_with fail
    refine wpOT_done ?_
    have hlb := heap_lt Hb0.out
    have hlm := heap_lt Hm0.out
    have hlr := heap_lt Hr0.out
    have hx4 := set2_ext (Hx0.out.trans hS) (b := q) (by omega) (.int .i64 A0) (.int .i64 A1)
    have hb4 := set2_other (hS.heap Hb0.out) (b := q) (by omega) (.int .i64 A0) (.int .i64 A1)
    have hr4 := set2_other (hS.heap Hr0.out) (b := q) (by omega) (.int .i64 A0) (.int .i64 A1)
    have hq4 := set2_box hq (.int .i64 A0) (.int .i64 A1)
    generalize (W.setCell ⟨q, 0, none⟩ (.int .i64 A0)).setCell ⟨q, 1, none⟩ (.int .i64 A1) = W4 at *
    obtain ⟨b1, b2⟩ := (Ext.refl W4).box hb4
    obtain ⟨q3, q4⟩ := (Ext.refl W4).box hq4
    have hbl4 := heap_lt hb4
    have hql4 := heap_lt hq4
    have gg1 := trivial
    go_upto_region 6 with (have q := gg1; clear q gg1; go_at_call 73; refine (Hp2.out _ _ (alloc_at _ _ _ (by simp))).mono ?_; rintro e W5 ⟨rfl, hx5⟩; have hx45 := ((Ext.refl W4).alloc _).trans hx5; have hq5 := hx45.heap hq4; obtain ⟨q5, q6⟩ := (Ext.refl W5).box hq5; have hql5 := heap_lt hq5)
    have hb6 := set2_other (hx45.heap hb4) (b := q) (by omega) (.int .i64 (A0 + m0)) (.int .i64 (A1 + m1))
    have hr6 := set2_other (hx45.heap hr4) (b := q) (by omega) (.int .i64 (A0 + m0)) (.int .i64 (A1 + m1))
    have hq6 := set2_box hq5 (.int .i64 (A0 + m0)) (.int .i64 (A1 + m1))
    have hx6 := set2_ext (hx4.trans hx45) (b := q) (by omega) (.int .i64 (A0 + m0)) (.int .i64 (A1 + m1))
    generalize (W5.setCell ⟨q, 0, none⟩ (.int .i64 (A0 + m0))).setCell ⟨q, 1, none⟩ (.int .i64 (A1 + m1)) = W6 at *
    clear q1 q2 q3 q4 q5 q6 b1 b2
    go_upto_region 6 with fail
    refine wp_region_flow (.take [0, 1, 2, 3] (.flow [4, 5] [59, 60] [[], [0]] (.take [6] (.one 7 .done)))) [6, 7] (Ext W6) _ (by kernel_rfl) (by kernel_rfl) rfl (EC.ext W6) ((Ext.refl _).drew) ?_
    simp only [flowOf, treeOf, oneOp, twoOp, opsOf, consOp, callOF, List.getElem?_toArray, List.getElem?_cons_succ, List.getElem?_cons_zero]
    intro ι _ f hf
    have f0 := fun q => ((hf q).box hb6).1
    have f1 := fun q => ((hf q).box hq6).1
    clear hf
    repeat (go_big_quiet_step (fail))
    refine wpQuiet_nil ?_
    clear f0 f1
    refine wpOF_flow [IsSl 3 1 #[.int .i64 P], IsV (.agg #[.int .i64 (B0 / 100000), .int .i64 B1])] rfl ⟨isSl_ec 3 1 #[.int .i64 P], isV_ec (.agg #[.int .i64 (B0 / 100000), .int .i64 B1]), trivial⟩ (flowSteps_cons ?_ (flowSteps_cons ?_ flowSteps_nil)) ?_
    · intro xs W hlen hS hn
      obtain ⟨x0, x1, rfl⟩ := len2 hlen
      simp only [puts, Act.put, List.setIfInBounds_toArray, List.set_cons_succ, List.set_cons_zero]
      go_wp2_with fail
      exact FlowPost.mk (.slice (some ⟨W.heap.size, 0, none⟩) 1 1) rfl ((Ext.refl _).alloc _) IsSl.new
    · intro xs W hlen hS hn
      obtain ⟨x0, x1, rfl⟩ := len2 hlen
      simp only [puts, Act.put, List.setIfInBounds_toArray, List.set_cons_succ, List.set_cons_zero]
      obtain ⟨b, rfl, hbs⟩ : IsSl 3 1 #[.int .i64 P] x0 W := hn.1
      go_wp2_with (go_at_call 74; refine (Hs2.out W b hbs).mono ?_; rintro e W1 ⟨rfl, hx1⟩)
      exact FlowPost.mk (.agg #[.int .i64 (B0 / 100000), .int .i64 B1]) rfl hx1 rfl
    intro xs W hlen hS hn
    obtain ⟨x0, x1, rfl⟩ := len2 hlen
    simp only [puts, Act.put, List.setIfInBounds_toArray, List.set_cons_succ, List.set_cons_zero]
    obtain ⟨⟨b, rfl, hbs⟩, rfl, -⟩ := hn
    refine wpOT_take ?_
    repeat (go_big_quiet_step (fail))
    refine wpQuiet_nil ?_
    have hr8 := hS.heap hr6
    have hrl := heap_lt hr8
    refine wpOT_one ?_
    obtain ⟨r5, r6⟩ := (Ext.refl W).box hr8
    go_wp2_with fail
    refine wpOT_done ?_
    go_wp2_with fail
    refine bodyPost_ret (results_cell_row rfl _ _ (w.heap.size + 1 + 1) 129 #[.int .i64 (A0 + m0), .int .i64 (A1 + m1), .int .i64 (B0 / 100000), .int .i64 B1] (0, 0) _ rfl (set4_box hr8 _ _ _ _) Tryz.underlying129 rfl (by kernel_rfl)) rfl ?_
    exact ⟨rfl, ((((hx6.trans hS).setCell (p := ⟨w.heap.size + 1 + 1, 0, none⟩) (by simp only; omega) _).setCell (p := ⟨w.heap.size + 1 + 1, 1, none⟩) (by simp only; omega) _).setCell (p := ⟨w.heap.size + 1 + 1, 2, none⟩) (by simp only; omega) _).setCell (p := ⟨w.heap.size + 1 + 1, 3, none⟩) (by simp only; omega) _⟩
end Go.Proofs.YtcoelhpmkhimpaaGreatDoor
