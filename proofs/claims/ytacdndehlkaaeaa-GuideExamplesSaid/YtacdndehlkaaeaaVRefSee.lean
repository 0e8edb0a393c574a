/- The reference: See. -/
import Derived.Test.YtacdndehlkaaeaaVRefCorn
namespace Go.Proofs.Ytacdndehlkaaeaa
open Go.RowKit
set_option linter.unusedVariables false
set_option linter.unusedSimpArgs false
theorem empty_of_some {l : List Half} {n : Nat} (hn : (cornersOf l).length = n) (b : Bool) (h : someB l = b) : ((n : Int) == 0) = !b := by
  unfold someB at h
  subst hn
  rw [← h, Bool.not_not]
  cases cornersOf l with
  | nil => rfl
  | cons c r => simp; omega
set_option maxRecDepth 100000 in
set_option maxHeartbeats 4000000 in
theorem rsee_any (a : Option Addr) (len cap : Nat) (l : List Half) (s : Sight) (w : World) (hl : HalvesAt w a len l) (hc : len ≤ cap) (hm : cap ≤ maxLen) (hlen : len ≤ 100000) :
    Calls Try.prog 17 #[.agg #[.slice a len cap], s.val] w (SeePost l s w) := by
  have hch := fun W (hW : Ext w W) => area_any a len cap l W (hl.ext hW) hlen
  have hlo := fun W => looks_any s W
  have hal := fun W h => rhalves_any s W h
  have hnone := fun (k : Int) (h : seeOf l s = ([], k)) => see_none (w := w) h
  have hsall := fun m (h : seeOf l s = (m, 0)) => see_all (w := w) h
  have hhin : sightOk s = true → ∀ k ∈ halvesOf s, HalfIn k := halves_ok
  have hmlen := halves_len s
  have hsee : seeOf l s = if areaOk l = false then ([], 40) else if sightOk s = false then ([], 41) else if 40 < l.length + (halvesOf s).length then ([], 9) else if someB (l ++ halvesOf s) = false then ([], 43) else (l ++ halvesOf s, 0) := rfl
  obtain ⟨Q, hQ⟩ : ∃ Q, SeePost l s w = Q := ⟨_, rfl⟩
  rw [hQ]
  simp only [hQ] at hnone hsall
  generalize halvesOf s = M at *
  generalize sightOk s = so at *
  generalize seeOf l s = sl at *
  obtain ⟨kd, x, y, fx, fy, tx, ty, nl, nh, far⟩ := s
  unfold Sight.val at hal hlo ⊢
  try simp only at hal hlo ⊢
  clear hQ
  have hll := hl.1
  obtain ⟨W0, hW0⟩ : ∃ W0, ((w.alloc (.cells #[.slice a len cap] 24)).alloc (.cells #[.int .u8 kd, .int .i64 x, .int .i64 y, .int .i64 fx, .int .i64 fy, .int .i64 tx, .int .i64 ty, .int .i64 nl, .int .i64 nh, .int .i64 far] 30)).alloc (.cells #[.slice none 0 0] 24) = W0 := ⟨_, rfl⟩
  have hx0 : Ext w W0 := by rw [← hW0]; exact (((Ext.refl w).alloc _).alloc _).alloc _
  have ha0 : W0.heap[w.heap.size]? = some (.cells #[.slice a len cap] 24 (0, 0)) := by rw [← hW0]; exact (((Ext.refl _).alloc _).alloc _).heap (heap_alloc_new w _)
  have hs0 : W0.heap[w.heap.size + 1]? = some (.cells #[.int .u8 kd, .int .i64 x, .int .i64 y, .int .i64 fx, .int .i64 fy, .int .i64 tx, .int .i64 ty, .int .i64 nl, .int .i64 nh, .int .i64 far] 30 (0, 0)) := by rw [← hW0]; exact ((Ext.refl _).alloc _).heap (alloc_at _ _ _ (by simp))
  have hr0 : W0.heap[w.heap.size + 1 + 1]? = some (.cells #[.slice none 0 0] 24 (0, 0)) := by rw [← hW0]; exact alloc_at _ _ _ (by simp)
  obtain ⟨z0, _⟩ := (Ext.refl W0).box ha0
  have hlr0 := heap_lt hr0
  have hz1 := hx0.size
  have Hx0 := Lib.hid hx0
  have Ha0 := Lib.hid ha0
  have Hs0 := Lib.hid hs0
  have Hr0 := Lib.hid hr0
  have Hll := Lib.hid hll
  clear hx0 ha0 hs0 hr0 hll
  cases hao : areaOk l with
  | false =>
    have hfin := hnone 40 (by rw [hsee, if_pos hao])
    rw [hao] at hch
    have Hch := Lib.hid hch
    have Hfin := Lib.hid hfin
    clear hch hfin
    clear hl hal hlo hnone hsall hsee hhin
    go_enter Try.func17, Try.ntmps17
    go_wp2_with (go_at_call 53; refine (Hch.out _ Hx0.out).mono ?_; rintro e w1 ⟨rfl, hx1⟩; have hr2 := hx1.heap Hr0.out; obtain ⟨q2, _⟩ := (Ext.refl _).box hr2; have hw2 := Hx0.out.trans hx1; have hsz := hw2.size; clear hW0)
    refine bodyPost_ret (results_cell_tmp (P := Try.prog) (fn := Try.f17) rfl _ _ (w.heap.size + 1 + 1) 24 #[.slice none 0 0] (0, 0) _ rfl (by simp only [heap_setCell_box, hr2, Option.map_some, setIn_cells, List.setIfInBounds_toArray, List.set_cons_zero, List.set_cons_succ]) Try.underlying24 rfl (by kernel_rfl)) rfl ?_
    exact Hfin.out _ (hw2.setCell (p := ⟨w.heap.size + 1 + 1, 0, none⟩) (by simp only; omega) _)
  | true =>
    have hA := areaOk_iff.1 hao
    have hlen4 := hA.len
    rw [hao] at hch
    cases so with
    | false =>
      have hfin := hnone 41 (by rw [hsee, hao]; rfl)
      have Hch := Lib.hid hch
      have Hfin := Lib.hid hfin
      have Hlo := Lib.hid hlo
      clear hch hfin hlo
      clear hl hal hnone hsall hsee hhin hA
      go_enter Try.func17, Try.ntmps17
      go_wp2_with (first | (go_at_call 53; refine (Hch.out _ Hx0.out).mono ?_; rintro e w1 ⟨rfl, hx1⟩; have hs1 := hx1.heap Hs0.out; obtain ⟨f1, _⟩ := (Ext.refl _).box hs1; clear hW0) | (go_at_call 42; refine (Hlo.out _).mono ?_; rintro e w2 ⟨rfl, hx2⟩; have hx12 := hx1.trans hx2; have hr2 := hx12.heap Hr0.out; obtain ⟨q2, _⟩ := (Ext.refl _).box hr2; have hw2 := Hx0.out.trans hx12; have hsz := hw2.size; clear f1))
      refine bodyPost_ret (results_cell_tmp (P := Try.prog) (fn := Try.f17) rfl _ _ (w.heap.size + 1 + 1) 24 #[.slice none 0 0] (0, 0) _ rfl (by simp only [heap_setCell_box, hr2, Option.map_some, setIn_cells, List.setIfInBounds_toArray, List.set_cons_zero, List.set_cons_succ]) Try.underlying24 rfl (by kernel_rfl)) rfl ?_
      exact Hfin.out _ (hw2.setCell (p := ⟨w.heap.size + 1 + 1, 0, none⟩) (by simp only; omega) _)
    | true =>
      replace hal := fun W => hal W rfl
      replace hhin := hhin rfl
      have hjo := fun (W : World) ma mc (hW : Ext w W) (hM : HalvesAt W ma M.length M) => joined_any a len cap l ma M.length mc M W (hl.ext hW) hM hlen (by omega)
      have hrc := fun (W : World) (b : Option Addr) n c (hM : HalvesAt W b n (l ++ M)) (h : n ≤ 1000) => rcorners_any b n c (l ++ M) W hM (fun h hh => by
          rcases List.mem_append.1 hh with h' | h'
          · exact hA.each h h'
          · exact hhin h h') h
      unfold OwnHalves at hal hjo
      obtain ⟨m, hml⟩ : ∃ m, M.length = m := ⟨_, rfl⟩
      obtain ⟨N, hN⟩ : ∃ N, (l ++ M).length = N := ⟨_, rfl⟩
      have hNs : N = len + m := by have := Hll.out; rw [← hN, List.length_append]; omega
      rw [hml] at hal hmlen hjo
      simp only [hN] at hjo
      unfold CornersPost at hrc
      obtain ⟨K, hK⟩ : ∃ K, (cornersOf (l ++ M)).length = K := ⟨_, rfl⟩
      rw [hK] at hrc
      have hemp := empty_of_some hK
      by_cases hsum : 40 < len + m
      · have hfin := hnone 9 (by rw [hsee, hao, if_neg (by simp), if_neg (by simp), if_pos (by have := Hll.out; omega)])
        have hsB : decide ((40 : Int) < (N : Int)) = true := decide_eq_true (by omega)
        have hsB' : decide (40 < N) = true := decide_eq_true (by omega)
        have Hch := Lib.hid hch
        have Hfin := Lib.hid hfin
        have Hal := Lib.hid hal
        have Hlo := Lib.hid hlo
        have Hjo := Lib.hid hjo
        have HN := Lib.hid hN
        have HK := Lib.hid hK
        have HNs := Lib.hid hNs
        have Hml := Lib.hid hml
        clear hch hfin hal hlo hjo hN hK hNs hml
        clear hl hnone hsall hsee hhin hA hrc hemp
        go_enter Try.func17, Try.ntmps17
        go_upto_region 5 with (first | (go_at_call 53; refine (Hch.out _ Hx0.out).mono ?_; rintro e w1 ⟨rfl, hx1⟩; have hs1 := hx1.heap Hs0.out; obtain ⟨f1, _⟩ := (Ext.refl _).box hs1; clear hW0) | (go_at_call 42; refine (Hlo.out _).mono ?_; rintro e w2 ⟨rfl, hx2⟩; have hx12 := hx1.trans hx2; clear f1))
        have ha2 := hx12.heap Ha0.out
        have hs2 := hx12.heap Hs0.out
        have Hx12 := Lib.hid hx12
        have Ha2 := Lib.hid ha2
        have Hs2 := Lib.hid hs2
        clear hx12 ha2 hs2
        refine wp_region_tree (.take [0, 1, 2] (.one 3 (.one 4 (.take [5] .done)))) (Ext w2) _ (by kernel_rfl) (by kernel_rfl) rfl ((Ext.refl _).drew) ?_
        intro ι _ f hf hs
        have f0 := fun q => ((hf q).box Ha2.out).1
        have f1 := fun q => ((hf q).box Hs2.out).1
        have HS := Lib.hid hs
        clear hf hs
        simp only [treeOf, oneOp, twoOp, opsOf, consOp, List.getElem?_toArray, List.getElem?_cons_succ, List.getElem?_cons_zero]
        refine wpOT_take ?_
        repeat (go_big_quiet_step (fail))
        refine wpQuiet_nil ?_
        refine wpOT_one ?_
        go_wp2_with (go_at_call 54; refine (Hal.out _).mono ?_; rintro e w3 ⟨ma, mc, rfl, m1, m2, hx3, hM, hmf⟩; have hx3' := (Ext.refl w2).drew.trans hx3; have hw3 := Hx0.out.trans (Hx12.out.trans hx3'))
        refine ⟨HS.out _ (hx3'), ?_⟩
        refine wpOT_one ?_
        go_wp2_with (go_at_call 50; refine (Hjo.out _ _ _ hw3 hM).mono ?_; rintro e w4 ⟨ja, jc, rfl, j1, j2, hx4, hJ, hjf⟩; have hx4' := hx3'.trans hx4)
        refine ⟨HS.out _ (hx4'), ?_⟩
        refine wpOT_take ?_
        repeat (go_big_quiet_step (fail))
        refine wpQuiet_nil ?_
        refine wpOT_done ?_
        clear f0 f1 HS
        have hx5 := Hx12.out.trans hx4'
        have hw5 := Hx0.out.trans hx5
        have hr2 := hx5.heap Hr0.out
        obtain ⟨q2, _⟩ := (Ext.refl _).box hr2
        have hsz := hw5.size
        have hlr2 := heap_lt hr2
        have hx3s := hx3'.size
        clear hM hx3 hx4 hx3' hmf
        have hw2 := hw5
        go_wp2_with fail
        refine bodyPost_ret (results_cell_tmp (P := Try.prog) (fn := Try.f17) rfl _ _ (w.heap.size + 1 + 1) 24 #[.slice none 0 0] (0, 0) _ rfl (by simp only [heap_setCell_box, hr2, Option.map_some, setIn_cells, List.setIfInBounds_toArray, List.set_cons_zero, List.set_cons_succ]) Try.underlying24 rfl (by kernel_rfl)) rfl ?_
        exact Hfin.out _ (hw2.setCell (p := ⟨w.heap.size + 1 + 1, 0, none⟩) (by simp only; omega) _)
      · have hsB : decide ((40 : Int) < (N : Int)) = false := decide_eq_false (by omega)
        have hsB' : decide (40 < N) = false := decide_eq_false (by omega)
        have hN1 : N ≤ 1000 := by omega
        cases hsm : someB (l ++ M) with
        | false =>
          have hfin := hnone 43 (by rw [hsee, hao, if_neg (by simp), if_neg (by simp), if_neg (by have := Hll.out; omega), if_pos hsm])
          have hKB := hemp false hsm
          rw [Bool.not_false] at hKB
          have Hch := Lib.hid hch
          have Hfin := Lib.hid hfin
          have Hal := Lib.hid hal
          have Hlo := Lib.hid hlo
          have Hjo := Lib.hid hjo
          have HN := Lib.hid hN
          have HK := Lib.hid hK
          have HNs := Lib.hid hNs
          have Hml := Lib.hid hml
          have Hrc := Lib.hid hrc
          clear hch hfin hal hlo hjo hN hK hNs hml hrc
          clear hl hnone hsall hsee hhin hA hemp
          go_enter Try.func17, Try.ntmps17
          go_upto_region 5 with (first | (go_at_call 53; refine (Hch.out _ Hx0.out).mono ?_; rintro e w1 ⟨rfl, hx1⟩; have hs1 := hx1.heap Hs0.out; obtain ⟨f1, _⟩ := (Ext.refl _).box hs1; clear hW0) | (go_at_call 42; refine (Hlo.out _).mono ?_; rintro e w2 ⟨rfl, hx2⟩; have hx12 := hx1.trans hx2; clear f1))
          have ha2 := hx12.heap Ha0.out
          have hs2 := hx12.heap Hs0.out
          have Hx12 := Lib.hid hx12
          have Ha2 := Lib.hid ha2
          have Hs2 := Lib.hid hs2
          clear hx12 ha2 hs2
          refine wp_region_tree (.take [0, 1, 2] (.one 3 (.one 4 (.take [5] .done)))) (Ext w2) _ (by kernel_rfl) (by kernel_rfl) rfl ((Ext.refl _).drew) ?_
          intro ι _ f hf hs
          have f0 := fun q => ((hf q).box Ha2.out).1
          have f1 := fun q => ((hf q).box Hs2.out).1
          have HS := Lib.hid hs
          clear hf hs
          simp only [treeOf, oneOp, twoOp, opsOf, consOp, List.getElem?_toArray, List.getElem?_cons_succ, List.getElem?_cons_zero]
          refine wpOT_take ?_
          repeat (go_big_quiet_step (fail))
          refine wpQuiet_nil ?_
          refine wpOT_one ?_
          go_wp2_with (go_at_call 54; refine (Hal.out _).mono ?_; rintro e w3 ⟨ma, mc, rfl, m1, m2, hx3, hM, hmf⟩; have hx3' := (Ext.refl w2).drew.trans hx3; have hw3 := Hx0.out.trans (Hx12.out.trans hx3'))
          refine ⟨HS.out _ (hx3'), ?_⟩
          refine wpOT_one ?_
          go_wp2_with (go_at_call 50; refine (Hjo.out _ _ _ hw3 hM).mono ?_; rintro e w4 ⟨ja, jc, rfl, j1, j2, hx4, hJ, hjf⟩; have hx4' := hx3'.trans hx4)
          refine ⟨HS.out _ (hx4'), ?_⟩
          refine wpOT_take ?_
          repeat (go_big_quiet_step (fail))
          refine wpQuiet_nil ?_
          refine wpOT_done ?_
          clear f0 f1 HS
          have hx5 := Hx12.out.trans hx4'
          have hw5 := Hx0.out.trans hx5
          have hr2 := hx5.heap Hr0.out
          obtain ⟨q2, _⟩ := (Ext.refl _).box hr2
          have hsz := hw5.size
          have hlr2 := heap_lt hr2
          have hx3s := hx3'.size
          clear hM hx3 hx4 hx3' hmf
          go_wp2_with (go_at_call 55; refine (Hrc.out w4 ja N jc hJ hN1).mono ?_; rintro e w6 ⟨ka, kc, rfl, hx6, hK6⟩; have hr3 := hx6.heap hr2; clear q2; have hr2 := hr3; obtain ⟨q2, _⟩ := (Ext.refl _).box hr2; have hw2 := hw5.trans hx6)
          refine bodyPost_ret (results_cell_tmp (P := Try.prog) (fn := Try.f17) rfl _ _ (w.heap.size + 1 + 1) 24 #[.slice none 0 0] (0, 0) _ rfl (by simp only [heap_setCell_box, hr2, Option.map_some, setIn_cells, List.setIfInBounds_toArray, List.set_cons_zero, List.set_cons_succ]) Try.underlying24 rfl (by kernel_rfl)) rfl ?_
          exact Hfin.out _ (hw2.setCell (p := ⟨w.heap.size + 1 + 1, 0, none⟩) (by simp only; omega) _)
        | true =>
          have hfin := hsall (l ++ M) (by rw [hsee, hao, if_neg (by simp), if_neg (by simp), if_neg (by have := Hll.out; omega), if_neg (by rw [hsm]; simp)])
          have hKB := hemp true hsm
          rw [Bool.not_true] at hKB
          have Hch := Lib.hid hch
          have Hfin := Lib.hid hfin
          have Hal := Lib.hid hal
          have Hlo := Lib.hid hlo
          have Hjo := Lib.hid hjo
          have HN := Lib.hid hN
          have HK := Lib.hid hK
          have HNs := Lib.hid hNs
          have Hml := Lib.hid hml
          have Hrc := Lib.hid hrc
          clear hch hfin hal hlo hjo hN hK hNs hml hrc
          clear hl hnone hsall hsee hhin hA hemp
          go_enter Try.func17, Try.ntmps17
          go_upto_region 5 with (first | (go_at_call 53; refine (Hch.out _ Hx0.out).mono ?_; rintro e w1 ⟨rfl, hx1⟩; have hs1 := hx1.heap Hs0.out; obtain ⟨f1, _⟩ := (Ext.refl _).box hs1; clear hW0) | (go_at_call 42; refine (Hlo.out _).mono ?_; rintro e w2 ⟨rfl, hx2⟩; have hx12 := hx1.trans hx2; clear f1))
          have ha2 := hx12.heap Ha0.out
          have hs2 := hx12.heap Hs0.out
          have Hx12 := Lib.hid hx12
          have Ha2 := Lib.hid ha2
          have Hs2 := Lib.hid hs2
          clear hx12 ha2 hs2
          refine wp_region_tree (.take [0, 1, 2] (.one 3 (.one 4 (.take [5] .done)))) (Ext w2) _ (by kernel_rfl) (by kernel_rfl) rfl ((Ext.refl _).drew) ?_
          intro ι _ f hf hs
          have f0 := fun q => ((hf q).box Ha2.out).1
          have f1 := fun q => ((hf q).box Hs2.out).1
          have HS := Lib.hid hs
          clear hf hs
          simp only [treeOf, oneOp, twoOp, opsOf, consOp, List.getElem?_toArray, List.getElem?_cons_succ, List.getElem?_cons_zero]
          refine wpOT_take ?_
          repeat (go_big_quiet_step (fail))
          refine wpQuiet_nil ?_
          refine wpOT_one ?_
          go_wp2_with (go_at_call 54; refine (Hal.out _).mono ?_; rintro e w3 ⟨ma, mc, rfl, m1, m2, hx3, hM, hmf⟩; have hx3' := (Ext.refl w2).drew.trans hx3; have hw3 := Hx0.out.trans (Hx12.out.trans hx3'))
          refine ⟨HS.out _ (hx3'), ?_⟩
          refine wpOT_one ?_
          go_wp2_with (go_at_call 50; refine (Hjo.out _ _ _ hw3 hM).mono ?_; rintro e w4 ⟨ja, jc, rfl, j1, j2, hx4, hJ, hjf⟩; have hx4' := hx3'.trans hx4)
          refine ⟨HS.out _ (hx4'), ?_⟩
          refine wpOT_take ?_
          repeat (go_big_quiet_step (fail))
          refine wpQuiet_nil ?_
          refine wpOT_done ?_
          clear f0 f1 HS
          have hx5 := Hx12.out.trans hx4'
          have hw5 := Hx0.out.trans hx5
          have hr2 := hx5.heap Hr0.out
          obtain ⟨q2, _⟩ := (Ext.refl _).box hr2
          have hsz := hw5.size
          have hlr2 := heap_lt hr2
          have hx3s := hx3'.size
          clear hM hx3 hx4 hx3' hmf
          go_wp2_with (go_at_call 55; refine (Hrc.out w4 ja N jc hJ hN1).mono ?_; rintro e w6 ⟨ka, kc, rfl, hx6, hK6⟩; have hr3 := hx6.heap hr2; clear q2; have hr2 := hr3; obtain ⟨q2, _⟩ := (Ext.refl _).box hr2; have hw2 := hw5.trans hx6; have hJ6 := hJ.ext hx6)
          refine bodyPost_ret (results_cell_tmp (P := Try.prog) (fn := Try.f17) rfl _ _ (w.heap.size + 1 + 1) 24 #[.slice ja N jc] (0, 0) _ rfl (by simp only [heap_setCell_box, hr2, Option.map_some, setIn_cells, List.setIfInBounds_toArray, List.set_cons_zero, List.set_cons_succ]) Try.underlying24 rfl (by kernel_rfl)) rfl ?_
          have hjw : w.heap.size + 1 + 1 < w3.heap.size := Nat.lt_of_lt_of_le hlr0 (Nat.le_trans Hx12.out.size hx3s)
          refine Hfin.out _ ja N jc HN.out j1 j2 (hw2.setCell (p := ⟨w.heap.size + 1 + 1, 0, none⟩) (by simp only; omega) _) (hJ6.same fun X hX => Below.heap_setCell _ _ _ _ ?_) (hjf.mono hw3.size)
          have := hjf X hX
          simp only
          omega
end Go.Proofs.Ytacdndehlkaaeaa
