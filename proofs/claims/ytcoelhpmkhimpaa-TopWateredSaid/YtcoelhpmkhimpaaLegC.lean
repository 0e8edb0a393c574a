/- Contracts of layer 3: open, the days of a leg, the first of some days. -/
import Derived.Test.YtcoelhpmkhimpaaLandC
import Derived.Laws.CopyOwn
namespace Go.Proofs.Ytcoelhpmkhimpaa
open Go.RowKit
set_option linter.unusedVariables false
set_option linter.unusedSimpArgs false
def openErr (l : Land) (p : Span) : Int := if landOk l then (if paceOk p then 0 else 31) else 30
def openVal (wa : Option Addr) (wn wc : Nat) (la : Option Addr) (ln lc : Nat) (l : Land) (p : Span) : Value := if openErr l p = 0 then .agg #[.slice wa wn wc, .slice la ln lc, .int .i64 p.lo, .int .i64 p.hi] else .agg #[.slice none 0 0, .slice none 0 0, .int .i64 0, .int .i64 0]
theorem set4c_box {W : World} {b : Nat} {x0 y0 z0 u0 : Value} {T : TypeId} (h : W.heap[b]? = some (.cells #[x0, y0, z0, u0] T (0, 0))) (x y z u : Value) : ((((W.setCell ⟨b, 0, none⟩ x).setCell ⟨b, 1, none⟩ y).setCell ⟨b, 2, none⟩ z).setCell ⟨b, 3, none⟩ u).heap[b]? = some (.cells #[x, y, z, u] T (0, 0)) := by
  rw [heap_setCell_box, heap_setCell_box, heap_setCell_box, heap_setCell_box, h]
  rfl
set_option maxRecDepth 100000 in
set_option maxHeartbeats 8000000 in
theorem open_any (wa : Option Addr) (wn wc : Nat) (la : Option Addr) (ln lc : Nat) (l : Land) (p : Span) (w : World) (h : LandAt w wa wn wc la ln lc l) : Calls Try.prog 44 #[.agg #[.slice wa wn wc, .slice la ln lc], p.val] w fun e w' => e = .returned (.tuple #[openVal wa wn wc la ln lc l p, .int .i64 (openErr l p)]) ∧ Ext w w' := by
  have hcl := fun W (hW : Ext w W) => checkLand_any wa wn wc la ln lc l W (h.ext hW)
  have hr : openErr l p = if landErr l = 0 then (if paceOk p then 0 else 31) else landErr l := by
    unfold openErr landErr
    by_cases q : landOk l = true <;> simp [q]
  have hv : openVal wa wn wc la ln lc l p = if openErr l p = 0 then .agg #[.slice wa wn wc, .slice la ln lc, .int .i64 p.lo, .int .i64 p.hi] else .agg #[.slice none 0 0, .slice none 0 0, .int .i64 0, .int .i64 0] := rfl
  have hK : landErr l = 0 ∨ landErr l = 30 := by unfold landErr; split <;> simp
  obtain ⟨K, hk⟩ : ∃ K, landErr l = K := ⟨_, rfl⟩
  obtain ⟨V, hV⟩ : ∃ V, openVal wa wn wc la ln lc l p = V := ⟨_, rfl⟩
  obtain ⟨E, hE⟩ : ∃ E, openErr l p = E := ⟨_, rfl⟩
  rw [hV, hE] at hv
  rw [hE] at hr
  rw [hk] at hcl hr hK
  rw [hV, hE]
  clear hk hV hE h
  obtain ⟨p0, p1⟩ := p
  obtain ⟨P1, e1⟩ : ∃ P, spanOk ⟨p0, p1⟩ 1 100000 = P := ⟨_, rfl⟩
  unfold paceOk at hr
  rw [e1] at hr
  unfold Span.val
  simp only at *
  obtain ⟨W0, hW0⟩ : ∃ W0, ((w.alloc (.cells #[.slice wa wn wc, .slice la ln lc] 33)).alloc (.cells #[.int .i64 p0, .int .i64 p1] 23)).alloc (.cells #[.slice none 0 0, .slice none 0 0, .int .i64 0, .int .i64 0] 108) = W0 := ⟨_, rfl⟩
  have hx0 : Ext w W0 := by rw [← hW0]; exact (((Ext.refl w).alloc _).alloc _).alloc _
  have hb0 : W0.heap[w.heap.size]? = some (.cells #[.slice wa wn wc, .slice la ln lc] 33 (0, 0)) := by rw [← hW0]; exact alloc_heap (alloc_heap (heap_alloc_new w _) _) _
  have hb1 : W0.heap[w.heap.size + 1]? = some (.cells #[.int .i64 p0, .int .i64 p1] 23 (0, 0)) := by rw [← hW0]; exact alloc_heap (alloc_at _ _ _ (by simp)) _
  have hb2 : W0.heap[w.heap.size + 1 + 1]? = some (.cells #[.slice none 0 0, .slice none 0 0, .int .i64 0, .int .i64 0] 108 (0, 0)) := by rw [← hW0]; exact alloc_at _ _ _ (by simp)
  obtain ⟨z0, _⟩ := (Ext.refl W0).box hb0
  have Hcl := Lib.hid hcl
  have Hx0 := Lib.hid hx0
  have Hb0 := Lib.hid hb0
  have Hb1 := Lib.hid hb1
  have Hb2 := Lib.hid hb2
  have E1 := Lib.hid e1
  clear hcl hx0 hb0 hb1 hb2 e1
  rcases hK with rfl | rfl
  · rw [if_pos rfl] at hr
    cases P1
    · simp only [Bool.false_eq_true, if_false] at hr
      subst hr
      rw [if_neg (by decide)] at hv
      subst hv
      go_enter Try.func44, Try.ntmps44
      go_wp2_with (first | (go_at_call 58; refine (Hcl.out _ Hx0.out).mono ?_; rintro e w1 ⟨rfl, hx1⟩; clear hW0 z0; obtain ⟨z1, _⟩ := (Ext.refl w1).box (hx1.heap Hb1.out)) | (go_at_call 92; refine (ordW1 (alloc_at _ _ _ (by simp)) E1.out).mono ?_; rintro e w2 ⟨rfl, hx2⟩; have hx02 := (hx1.alloc _).trans hx2; have hr2 := hx02.heap Hb2.out; have hrl := heap_lt hr2; obtain ⟨z2, z3⟩ := (Ext.refl w2).box hr2))
      refine bodyPost_ret (results_cell_tmp (P := Try.prog) (fn := Try.f44) rfl _ _ (w.heap.size + 1 + 1) 108 #[.slice none 0 0, .slice none 0 0, .int .i64 0, .int .i64 0] (0, 0) _ rfl (set4c_box hr2 _ _ _ _) Try.underlying108 rfl (by kernel_rfl)) rfl ?_
      exact ⟨rfl, ((((Hx0.out.trans hx02).setCell (p := ⟨w.heap.size + 1 + 1, 0, none⟩) (by simp only; omega) _).setCell (p := ⟨w.heap.size + 1 + 1, 1, none⟩) (by simp only; omega) _).setCell (p := ⟨w.heap.size + 1 + 1, 2, none⟩) (by simp only; omega) _).setCell (p := ⟨w.heap.size + 1 + 1, 3, none⟩) (by simp only; omega) _⟩
    · simp only [if_true] at hr
      subst hr
      rw [if_pos rfl] at hv
      subst hv
      go_enter Try.func44, Try.ntmps44
      go_wp2_with (first | (go_at_call 58; refine (Hcl.out _ Hx0.out).mono ?_; rintro e w1 ⟨rfl, hx1⟩; clear hW0 z0; obtain ⟨z1, _⟩ := (Ext.refl w1).box (hx1.heap Hb1.out)) | (go_at_call 92; refine (ordW1 (alloc_at _ _ _ (by simp)) E1.out).mono ?_; rintro e w2 ⟨rfl, hx2⟩; have hx02 := (hx1.alloc _).trans hx2; have hr2 := hx02.heap Hb2.out; have hrl := heap_lt hr2; obtain ⟨z2, z3⟩ := (Ext.refl w2).box hr2; obtain ⟨z4, _⟩ := (Ext.refl w2).box (hx02.heap Hb0.out); obtain ⟨z5, _⟩ := (Ext.refl w2).box (hx02.heap Hb1.out)))
      refine bodyPost_ret (results_cell_tmp (P := Try.prog) (fn := Try.f44) rfl _ _ (w.heap.size + 1 + 1) 108 #[.slice wa wn wc, .slice la ln lc, .int .i64 p0, .int .i64 p1] (0, 0) _ rfl (set4c_box hr2 _ _ _ _) Try.underlying108 rfl (by kernel_rfl)) rfl ?_
      exact ⟨rfl, ((((Hx0.out.trans hx02).setCell (p := ⟨w.heap.size + 1 + 1, 0, none⟩) (by simp only; omega) _).setCell (p := ⟨w.heap.size + 1 + 1, 1, none⟩) (by simp only; omega) _).setCell (p := ⟨w.heap.size + 1 + 1, 2, none⟩) (by simp only; omega) _).setCell (p := ⟨w.heap.size + 1 + 1, 3, none⟩) (by simp only; omega) _⟩
  · rw [if_neg (by decide)] at hr
    subst hr
    rw [if_neg (by decide)] at hv
    subst hv
    go_enter Try.func44, Try.ntmps44
    go_wp2_with (go_at_call 58; refine (Hcl.out _ Hx0.out).mono ?_; rintro e w1 ⟨rfl, hx1⟩; have hr2 := hx1.heap Hb2.out; have hrl := heap_lt hr2; obtain ⟨z2, z3⟩ := (Ext.refl w1).box hr2)
    refine bodyPost_ret (results_cell_tmp (P := Try.prog) (fn := Try.f44) rfl _ _ (w.heap.size + 1 + 1) 108 #[.slice none 0 0, .slice none 0 0, .int .i64 0, .int .i64 0] (0, 0) _ rfl (set4c_box hr2 _ _ _ _) Try.underlying108 rfl (by kernel_rfl)) rfl ?_
    exact ⟨rfl, ((((Hx0.out.trans hx1).setCell (p := ⟨w.heap.size + 1 + 1, 0, none⟩) (by simp only; omega) _).setCell (p := ⟨w.heap.size + 1 + 1, 1, none⟩) (by simp only; omega) _).setCell (p := ⟨w.heap.size + 1 + 1, 2, none⟩) (by simp only; omega) _).setCell (p := ⟨w.heap.size + 1 + 1, 3, none⟩) (by simp only; omega) _⟩
theorem upq_bd {a b : Int} (ha : 0 ≤ a) (hb : 0 < b) : 0 ≤ upq a b ∧ upq a b ≤ a + 1 := by
  have h1 := upq_mul (a := a) (d := b) hb
  have h2 : 0 ≤ upq a b := upq_nonneg hb ha
  refine ⟨h2, ?_⟩
  rcases Int.lt_or_le (a + 1) (upq a b) with h | h
  · have h4 : upq a b - 1 ≤ (upq a b - 1) * b := by
      have := Int.mul_le_mul_of_nonneg_left (show 1 ≤ b by omega) (show 0 ≤ upq a b - 1 by omega)
      omega
    rw [Int.sub_mul] at h4
    omega
  · exact h
set_option maxRecDepth 100000 in
set_option maxHeartbeats 8000000 in
theorem legDays_any (wa : Option Addr) (wn wc : Nat) (la : Option Addr) (ln lc : Nat) (legs : List Leg) (p : Span) (g : Nat) (x : Leg) (w : World) (h : LegsAt w la ln legs) (hx : legs[g]? = some x) (hl : SpanIs x.long 1 1000000) (hp : SpanIs p 1 100000) (hlc : ln ≤ lc) (hlm : lc ≤ maxLen) :
    Calls Try.prog 50 #[.agg #[.slice wa wn wc, .slice la ln lc, .int .i64 p.lo, .int .i64 p.hi], .int .i64 g] w fun e w' => e = .returned (legDays x p).val ∧ Ext w w' := by
  have hgn : g < ln := by have := (List.getElem?_eq_some_iff.1 hx).1; have := h.1; omega
  obtain ⟨b, off, x', ka, kn, kc, rfl, hx', hb, c0, c1, c2, c3, c4, -, -, -⟩ := h.get g hgn
  rw [hx] at hx'
  cases hx'
  unfold maxLen at hlm
  obtain ⟨fr, tw, ⟨l0, l1⟩, gs⟩ := x
  obtain ⟨p0, p1⟩ := p
  obtain ⟨q1, q2, q3⟩ := hl
  obtain ⟨r1, r2, r3⟩ := hp
  unfold legDays Span.val
  simp only at *
  have hA := upq_bd (a := l0) (b := p1) (by omega) (by omega)
  have hB := upq_bd (a := l1) (b := p0) (by omega) (by omega)
  unfold upq at hA hB ⊢
  have z1 : (p1 == 0) = false := by simp; omega
  have z2 : (p0 == 0) = false := by simp; omega
  obtain ⟨W0, hW0⟩ : ∃ W0, ((w.alloc (.cells #[.slice wa wn wc, .slice (some ⟨b, off, none⟩) ln lc, .int .i64 p0, .int .i64 p1] 108)).alloc (.cells #[.int .i64 0, .int .i64 0] 114)).alloc (.cells #[.int .i64 l0, .int .i64 l1] 23) = W0 := ⟨_, rfl⟩
  have hx0 : Ext w W0 := by rw [← hW0]; exact (((Ext.refl w).alloc _).alloc _).alloc _
  have hc0 : W0.heap[w.heap.size]? = some (.cells #[.slice wa wn wc, .slice (some ⟨b, off, none⟩) ln lc, .int .i64 p0, .int .i64 p1] 108 (0, 0)) := by rw [← hW0]; exact alloc_heap (alloc_heap (heap_alloc_new w _) _) _
  have hr0 : W0.heap[w.heap.size + 1]? = some (.cells #[.int .i64 0, .int .i64 0] 114 (0, 0)) := by rw [← hW0]; exact alloc_heap (alloc_at _ _ _ (by simp)) _
  have hl0 : W0.heap[w.heap.size + 1 + 1]? = some (.cells #[.int .i64 l0, .int .i64 l1] 23 (0, 0)) := by rw [← hW0]; exact alloc_at _ _ _ (by simp)
  have Hx0 := Lib.hid hx0
  have Hc0 := Lib.hid hc0
  have Hr0 := Lib.hid hr0
  have Hl0 := Lib.hid hl0
  have HA := Lib.hid hA
  have HB := Lib.hid hB
  clear hx0 hc0 hr0 hl0 hA hB
  clear h hx
  go_enter Try.func50, Try.ntmps50
  go_upto_region 2 with fail
  clear hW0 c0 c1 c2 c3 c4
  have ha := HA.out
  have hb := HB.out
  refine wp_region_plan (.take [0, 1, 2, 3, 4, 5, 6, 7, 8, 9, 10, 11, 12, 13, 14, 15, 16, 17, 18, 19, 20, 21, 22] (.fin (.one 23 .done))) [23] (Ext W0) _ (by kernel_rfl) (by kernel_rfl) rfl (EC.ext W0) ((Ext.refl _).drew) ?_
  simp only [planOf, treeOf, oneOp, twoOp, opsOf, consOp, callOC, oneOC, twoOC, List.getElem?_toArray, List.getElem?_cons_succ, List.getElem?_cons_zero]
  intro ι _ f hf
  have f0 := fun q => ((hf q).box Hc0.out).1
  have f1 := fun q => ((hf q).box Hl0.out).1
  clear hf
  repeat (go_big_quiet_step (fail))
  refine wpQuiet_nil ?_
  clear f0 f1
  intro W1 hW1
  refine wpOT_one ?_
  have hr1 := hW1.heap Hr0.out
  have hrl := heap_lt hr1
  obtain ⟨y0, y1⟩ := (Ext.refl W1).box hr1
  go_wp2_with fail
  refine wpOT_done ?_
  go_wp2_with fail
  refine bodyPost_ret (results_cell_row rfl _ _ (w.heap.size + 1) 114 #[.int .i64 ((l0 + p1 - 1) / p1), .int .i64 ((l1 + p0 - 1) / p0)] (0, 0) _ rfl (set2_box hr1 _ _) Try.underlying114 rfl (by kernel_rfl)) rfl ?_
  exact ⟨rfl, set2_ext (Hx0.out.trans hW1) (by omega) _ _⟩
theorem bothSpan_any (a b : Int) (w : World) : Calls Try.prog 49 #[.agg #[.int .i64 a, .int .i64 b]] w fun e w' => e = .returned (.agg #[.int .i64 a, .int .i64 b]) ∧ Ext w w' := by
  go_enter Try.func49, Try.ntmps49
  go_wp2_with fail
  refine bodyPost_ret (results_cell_row rfl _ _ (w.heap.size + 1) 23 #[.int .i64 a, .int .i64 b] (0, 0) _ rfl (alloc_at _ _ _ (by simp)) Try.underlying23 rfl (by kernel_rfl)) rfl ?_
  exact ⟨rfl, ((Ext.refl _).alloc _).alloc _⟩
end Go.Proofs.Ytcoelhpmkhimpaa
