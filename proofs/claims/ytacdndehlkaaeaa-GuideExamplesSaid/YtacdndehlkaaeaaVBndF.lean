/- Bounds of the guide. -/
import Derived.Test.YtacdndehlkaaeaaVBnd
namespace Go.Proofs.Ytacdndehlkaaeaa
open Go.RowKit
set_option linter.unusedVariables false
set_option linter.unusedSimpArgs false
theorem Two.set_left {p q : Nat} {a b c d : Int} {W : World} (h : Two p q a b c d W) (hne : p ≠ q) : Two p q a b c d ((W.setCell ⟨p, 0, none⟩ (.int .i64 a)).setCell ⟨p, 1, none⟩ (.int .i64 b)) := ⟨set2_at h.1, (set2_other (Ne.symm hne)).trans h.2⟩
theorem Two.set_right {p q : Nat} {a b c d : Int} {W : World} (h : Two p q a b c d W) (hne : p ≠ q) : Two p q a b c d ((W.setCell ⟨q, 0, none⟩ (.int .i64 c)).setCell ⟨q, 1, none⟩ (.int .i64 d)) := ⟨(set2_other hne).trans h.1, set2_at h.2⟩
theorem Two.ext {p q : Nat} {a b c d : Int} {W W' : World} (h : Two p q a b c d W) (hx : Ext W W') : Two p q a b c d W' := ⟨hx.heap h.1, hx.heap h.2⟩
theorem Two.put {p q : Nat} {a b c d : Int} (a' b' c' d' : Int) {W : World} (h : Two p q a b c d W) (hne : p ≠ q) : Two p q a' b' c' d' ((((W.setCell ⟨p, 0, none⟩ (.int .i64 a')).setCell ⟨p, 1, none⟩ (.int .i64 b')).setCell ⟨q, 0, none⟩ (.int .i64 c')).setCell ⟨q, 1, none⟩ (.int .i64 d')) := set4_at h.1 h.2 hne
theorem boundsOf_bndL {l : List Half} (ha : areaOk l = true) (hs : someB l = true) : boundsOf l = ((bndL (cornersOf l)).1, (bndL (cornersOf l)).2, 0) := by
  rw [boundsOf_ok ha hs]
  unfold bndTo bndL
  rw [List.take_length]
set_option maxRecDepth 100000 in
set_option maxHeartbeats 8000000 in
theorem boundsF_any (a : Option Addr) (len cap : Nat) (l : List Half) (w : World) (hl : HalvesAt w a len l) (hc : len ≤ cap) (hm : cap ≤ maxLen) : Calls Try.prog 24 #[.agg #[.slice a len cap]] w (BoundsPost l w) := by
  have hch := fun W (hW : Ext w W) => check_any a len cap l W (hl.ext hW) (by unfold maxLen at hm; omega)
  have hll := hl.1
  have herr := fun (k : Int) (h : boundsOf l = (zs, zs, k)) => bounds_err (w := w) h
  have his := fun E N (h : boundsOf l = (E, N, 0)) => bounds_is (w := w) h
  have hd1 := boundsOf_area (l := l)
  have hd2 := boundsOf_lost (l := l)
  have hd3 := boundsOf_bndL (l := l)
  obtain ⟨Q, hQ⟩ : ∃ Q, BoundsPost l w = Q := ⟨_, rfl⟩
  rw [hQ]
  simp only [hQ] at herr his
  generalize boundsOf l = B at *
  clear hQ
  unfold checkOf at hch
  obtain ⟨W0, hW0⟩ : ∃ W0, ((w.alloc (.cells #[.slice a len cap] 24)).alloc (.cells #[.int .i64 0, .int .i64 0] 28)).alloc (.cells #[.int .i64 0, .int .i64 0] 28) = W0 := ⟨_, rfl⟩
  have hx0 : Ext w W0 := by rw [← hW0]; exact (((Ext.refl w).alloc _).alloc _).alloc _
  have ha0 : W0.heap[w.heap.size]? = some (.cells #[.slice a len cap] 24 (0, 0)) := by rw [← hW0]; exact (((Ext.refl _).alloc _).alloc _).heap (heap_alloc_new w _)
  have he0 : W0.heap[w.heap.size + 1]? = some (.cells #[.int .i64 0, .int .i64 0] 28 (0, 0)) := by rw [← hW0]; exact ((Ext.refl _).alloc _).heap (alloc_at _ _ _ (by simp))
  have hn0 : W0.heap[w.heap.size + 1 + 1]? = some (.cells #[.int .i64 0, .int .i64 0] 28 (0, 0)) := by rw [← hW0]; exact alloc_at _ _ _ (by simp)
  obtain ⟨z0, _⟩ := (Ext.refl W0).box ha0
  have hl0 := heap_lt ha0
  have hl1 := heap_lt he0
  have hl2 := heap_lt hn0
  have hsz := hx0.size
  have hT0 : Two (w.heap.size + 1) (w.heap.size + 1 + 1) 0 0 0 0 W0 := ⟨he0, hn0⟩
  have hne : w.heap.size + 1 ≠ w.heap.size + 1 + 1 := by omega
  cases h : areaOk l with
  | false =>
    have hfin := herr 40 (hd1 h)
    rw [h] at hch
    simp only [Bool.false_eq_true, if_false] at hch
    have Hch := Lib.hid hch
    have Hx0 := Lib.hid hx0
    have Ha0 := Lib.hid ha0
    have He0 := Lib.hid he0
    have Hn0 := Lib.hid hn0
    have Hfin := Lib.hid hfin
    have HT0 := Lib.hid hT0
    clear hch hx0 ha0 he0 hn0 hfin hT0
    clear hl h herr his hd1 hd2 hd3
    go_enter Try.func24, Try.ntmps24
    go_upto_region 3 with (go_at_call 28; refine (Hch.out _ Hx0.out).mono ?_; rintro e w1 ⟨rfl, hx1⟩; have hT1 := HT0.out.ext hx1; obtain ⟨q1, r1⟩ := (Ext.refl w1).box hT1.1; obtain ⟨q2, r2⟩ := (Ext.refl w1).box hT1.2; have ll1 := heap_lt hT1.1; have ll2 := heap_lt hT1.2; clear hW0 z0)
    have hxw := Hx0.out.trans hx1
    refine wp_region_tree (.take [0, 1, 2] (.one 3 (.one 4 (.take [5] .done)))) (Two (w.heap.size + 1) (w.heap.size + 1 + 1) 0 0 0 0) _ (by kernel_rfl) (by kernel_rfl) rfl hT1.drew ?_
    intro ι _ f hf hs
    have f0 := fun q => ((Ext.refl (f q)).box (hf q).1).1
    have f1 := fun q => ((Ext.refl (f q)).box (hf q).2).1
    have HS := Lib.hid hs
    clear hf hs
    simp only [treeOf, oneOp, twoOp, opsOf, consOp, List.getElem?_toArray, List.getElem?_cons_succ, List.getElem?_cons_zero]
    refine wpOT_take ?_
    repeat (go_big_quiet_step (fail))
    refine wpQuiet_nil ?_
    clear f0 f1
    have hT2 := hT1.set_left hne
    have hT3 := hT2.set_right hne
    have hx3 := set2_ext (g := w.heap.size + 1 + 1) (a := .int .i64 0) (b := .int .i64 0) (set2_ext (g := w.heap.size + 1) (a := .int .i64 0) (b := .int .i64 0) hxw (by omega)) (by omega)
    have HT2 := Lib.hid hT2
    have HT3 := Lib.hid hT3
    have Hx3 := Lib.hid hx3
    clear hT2 hT3 hx3
    refine wpOT_one ?_
    go_wp2_with fail
    refine ⟨HS.out _ HT2.out.drew, ?_⟩
    refine wpOT_one ?_
    go_wp2_with fail
    refine ⟨HS.out _ HT3.out.drew, ?_⟩
    refine wpOT_take ?_
    repeat (go_big_quiet_step (fail))
    refine wpQuiet_nil ?_
    refine wpOT_done ?_
    go_wp2_with fail
    refine bodyPost_ret (results_cells_tmp (P := Try.prog) (fn := Try.f24) rfl _ _ (w.heap.size + 1) (w.heap.size + 1 + 1) 28 28 #[.int .i64 0, .int .i64 0] #[.int .i64 0, .int .i64 0] (0, 0) (0, 0) _ _ rfl HT3.out.1 Try.underlying28 rfl (by kernel_rfl) rfl HT3.out.2 Try.underlying28 rfl (by kernel_rfl)) rfl ?_
    exact Hfin.out _ Hx3.out.drew
  | true =>
    have hA := areaOk_iff.1 h
    have hlen4 := hA.len
    rw [hll] at hlen4
    rw [h] at hch
    simp only [if_true] at hch
    have hbn := fun W (hW : Ext w W) => bounds_any a len cap l W (hl.ext hW) (by omega) (by omega) hc hm hA.each
    have hd2 := hd2 h
    have hd3 := hd3 h
    generalize bndL (cornersOf l) = EN at *
    obtain ⟨⟨e0, e1⟩, ⟨n0, n1⟩⟩ := EN
    unfold Span.val at hbn
    simp only at hbn hd3
    cases hs : someB l with
    | false =>
      have hfin := herr 43 (hd2 hs)
      rw [hs] at hbn
      have Hch := Lib.hid hch
      have Hx0 := Lib.hid hx0
      have Ha0 := Lib.hid ha0
      have He0 := Lib.hid he0
      have Hn0 := Lib.hid hn0
      have Hfin := Lib.hid hfin
      have HT0 := Lib.hid hT0
      have Hbn := Lib.hid hbn
      clear hch hx0 ha0 he0 hn0 hfin hT0 hbn
      clear hl h herr his hd1 hd2 hd3 hA hs
      go_enter Try.func24, Try.ntmps24
      go_wp2_with (first | (go_at_call 28; refine (Hch.out _ Hx0.out).mono ?_; rintro e w1 ⟨rfl, hx1⟩; obtain ⟨z1, _⟩ := hx1.box Ha0.out; clear hW0 z0) | (go_at_call 60; refine (Hbn.out _ (Hx0.out.trans hx1)).mono ?_; rintro e w2 ⟨rfl, hx2⟩; have hT1 := HT0.out.ext (hx1.trans hx2); have hxw := Hx0.out.trans (hx1.trans hx2); obtain ⟨q1, r1⟩ := (Ext.refl w2).box hT1.1; obtain ⟨q2, r2⟩ := (Ext.refl w2).box hT1.2; have ll1 := heap_lt hT1.1; have ll2 := heap_lt hT1.2; clear z1))
      have hT4 := (hT1.put e0 e1 n0 n1 hne).put 0 0 0 0 hne
      have hx4 := set2_ext (g := w.heap.size + 1 + 1) (a := .int .i64 n0) (b := .int .i64 n1) (set2_ext (g := w.heap.size + 1) (a := .int .i64 e0) (b := .int .i64 e1) hxw (by omega)) (by omega)
      have hx5 := set2_ext (g := w.heap.size + 1 + 1) (a := .int .i64 0) (b := .int .i64 0) (set2_ext (g := w.heap.size + 1) (a := .int .i64 0) (b := .int .i64 0) hx4 (by omega)) (by omega)
      refine bodyPost_ret (results_cells_tmp (P := Try.prog) (fn := Try.f24) rfl _ _ (w.heap.size + 1) (w.heap.size + 1 + 1) 28 28 #[.int .i64 0, .int .i64 0] #[.int .i64 0, .int .i64 0] (0, 0) (0, 0) _ _ rfl hT4.1 Try.underlying28 rfl (by kernel_rfl) rfl hT4.2 Try.underlying28 rfl (by kernel_rfl)) rfl ?_
      exact Hfin.out _ hx5
    | true =>
      have hfin := his _ _ (hd3 hs)
      rw [hs] at hbn
      have Hch := Lib.hid hch
      have Hx0 := Lib.hid hx0
      have Ha0 := Lib.hid ha0
      have He0 := Lib.hid he0
      have Hn0 := Lib.hid hn0
      have Hfin := Lib.hid hfin
      have HT0 := Lib.hid hT0
      have Hbn := Lib.hid hbn
      clear hch hx0 ha0 he0 hn0 hfin hT0 hbn
      clear hl h herr his hd1 hd2 hd3 hA hs
      go_enter Try.func24, Try.ntmps24
      go_upto_region 7 with (first | (go_at_call 28; refine (Hch.out _ Hx0.out).mono ?_; rintro e w1 ⟨rfl, hx1⟩; obtain ⟨z1, _⟩ := hx1.box Ha0.out; clear hW0 z0) | (go_at_call 60; refine (Hbn.out _ (Hx0.out.trans hx1)).mono ?_; rintro e w2 ⟨rfl, hx2⟩; have hT1 := HT0.out.ext (hx1.trans hx2); have hxw := Hx0.out.trans (hx1.trans hx2); obtain ⟨q1, r1⟩ := (Ext.refl w2).box hT1.1; obtain ⟨q2, r2⟩ := (Ext.refl w2).box hT1.2; have ll1 := heap_lt hT1.1; have ll2 := heap_lt hT1.2; clear z1))
      have hT4 := hT1.put e0 e1 n0 n1 hne
      have hx4 := set2_ext (g := w.heap.size + 1 + 1) (a := .int .i64 n0) (b := .int .i64 n1) (set2_ext (g := w.heap.size + 1) (a := .int .i64 e0) (b := .int .i64 e1) hxw (by omega)) (by omega)
      have hll1 := heap_lt hT4.1
      have hll2 := heap_lt hT4.2
      obtain ⟨W4, hW4⟩ : ∃ W4, ((((w2.setCell ⟨w.heap.size + 1, 0, none⟩ (.int .i64 e0)).setCell ⟨w.heap.size + 1, 1, none⟩ (.int .i64 e1)).setCell ⟨w.heap.size + 1 + 1, 0, none⟩ (.int .i64 n0)).setCell ⟨w.heap.size + 1 + 1, 1, none⟩ (.int .i64 n1)) = W4 := ⟨_, rfl⟩
      rw [hW4] at hT4 hx4 hll1 hll2 ⊢
      clear hW4 q1 r1 q2 r2 ll1 ll2 hT1
      obtain ⟨q1, r1⟩ := (Ext.refl W4).box hT4.1
      obtain ⟨q2, r2⟩ := (Ext.refl W4).box hT4.2
      refine wp_region_tree (.take [0, 1] (.one 2 (.one 3 (.take [4] .done)))) (Two (w.heap.size + 1) (w.heap.size + 1 + 1) e0 e1 n0 n1) _ (by kernel_rfl) (by kernel_rfl) rfl hT4.drew ?_
      intro ι _ f hf hs
      have f0 := fun q => ((Ext.refl (f q)).box (hf q).1).1
      have f1 := fun q => ((Ext.refl (f q)).box (hf q).2).1
      have HS := Lib.hid hs
      clear hf hs
      simp only [treeOf, oneOp, twoOp, opsOf, consOp, List.getElem?_toArray, List.getElem?_cons_succ, List.getElem?_cons_zero]
      refine wpOT_take ?_
      repeat (go_big_quiet_step (fail))
      refine wpQuiet_nil ?_
      clear f0 f1
      have hT2 := hT4.set_left hne
      have hT3 := hT2.set_right hne
      have hx3 := set2_ext (g := w.heap.size + 1 + 1) (a := .int .i64 n0) (b := .int .i64 n1) (set2_ext (g := w.heap.size + 1) (a := .int .i64 e0) (b := .int .i64 e1) hx4 (by omega)) (by omega)
      have HT2 := Lib.hid hT2
      have HT3 := Lib.hid hT3
      have Hx3 := Lib.hid hx3
      clear hT2 hT3 hx3
      refine wpOT_one ?_
      go_wp2_with fail
      refine ⟨HS.out _ HT2.out.drew, ?_⟩
      refine wpOT_one ?_
      go_wp2_with fail
      refine ⟨HS.out _ HT3.out.drew, ?_⟩
      refine wpOT_take ?_
      repeat (go_big_quiet_step (fail))
      refine wpQuiet_nil ?_
      refine wpOT_done ?_
      go_wp2_with fail
      refine bodyPost_ret (results_cells_tmp (P := Try.prog) (fn := Try.f24) rfl _ _ (w.heap.size + 1) (w.heap.size + 1 + 1) 28 28 #[.int .i64 e0, .int .i64 e1] #[.int .i64 n0, .int .i64 n1] (0, 0) (0, 0) _ _ rfl HT3.out.1 Try.underlying28 rfl (by kernel_rfl) rfl HT3.out.2 Try.underlying28 rfl (by kernel_rfl)) rfl ?_
      exact Hfin.out _ Hx3.out.drew
end Go.Proofs.Ytacdndehlkaaeaa
