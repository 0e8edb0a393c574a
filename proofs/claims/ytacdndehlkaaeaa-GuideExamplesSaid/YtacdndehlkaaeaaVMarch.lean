/- March. -/
import Derived.Test.YtacdndehlkaaeaaVMoved
import Derived.Test.YtacdndehlkaaeaaVStarts
import Derived.Test.YtacdndehlkaaeaaVNears
namespace Go.Proofs.Ytacdndehlkaaeaa
open Go.RowKit
set_option linter.unusedVariables false
set_option linter.unusedSimpArgs false
set_option maxRecDepth 100000 in
set_option maxHeartbeats 4000000 in
theorem march_any (a : Option Addr) (len cap : Nat) (l : List Half) (t : Trek) (w : World) (hl : HalvesAt w a len l) (hc : len ≤ cap) (hm : cap ≤ maxLen) :
    Calls Try.prog 30 #[.agg #[.slice a len cap], t.val] w (AreaOwn (marchOf l t) w) := by
  have hch := fun W (hW : Ext w W) => check_any a len cap l W (hl.ext hW) (by unfold maxLen at hm; omega)
  have hgo := fun W => gone_any t W
  have hdef : marchOf l t = if areaOk l = false then ([], 40) else if trekOk t = false then ([], 42) else if fitB (movedOf l t) = false then ([], 9) else if someB l = false then ([], 43) else (movedOf l t, 0) := rfl
  have hll := hl.1
  have hmv := fun W (hW : Ext w W) h0 h1 h2 h3 => moved_any a len cap l t W (hl.ext hW) h0 h1 h2 h3
  obtain ⟨r, hr⟩ : ∃ r, marchOf l t = r := ⟨_, rfl⟩
  obtain ⟨Q, hQ⟩ : ∃ Q, AreaOwn r w = Q := ⟨_, rfl⟩
  have herr : ∀ k, r = ([], k) → ∀ w', Ext w w' → Q (.returned (.tuple #[.agg #[.slice none 0 0], .int .i64 k])) w' := fun k h w' hx => by
    rw [← hQ, h]
    exact areaown_none k w' hx
  have hok : ∀ L, r = (L, 0) → ∀ v w', Ext w w' → Owns w' w.heap.size 47 3 v (halfRows L) → Q (.returned (.tuple #[.agg #[v], .int .i64 0])) w' := fun L h v w' hx ho => by
    rw [← hQ, h]
    exact ⟨v, rfl, hx, ho⟩
  rw [hr] at hdef ⊢
  rw [hQ]
  clear hr hQ
  unfold MovedPost at hmv
  generalize hML : movedOf l t = ML at *
  unfold checkOf at hch
  obtain ⟨⟨d0, d1⟩, ⟨e0, e1⟩, ⟨n0, n1⟩⟩ := t
  unfold Trek.val at *
  simp only at hgo hmv ⊢
  obtain ⟨W0, hW0⟩ : ∃ W0, ((w.alloc (.cells #[.slice a len cap] 24)).alloc (.cells #[.int .i64 d0, .int .i64 d1, .int .i64 e0, .int .i64 e1, .int .i64 n0, .int .i64 n1] 63)).alloc (.cells #[.slice none 0 0] 24) = W0 := ⟨_, rfl⟩
  have hx0 : Ext w W0 := by rw [← hW0]; exact (((Ext.refl w).alloc _).alloc _).alloc _
  have ha0 : W0.heap[w.heap.size]? = some (.cells #[.slice a len cap] 24 (0, 0)) := by rw [← hW0]; exact (((Ext.refl _).alloc _).alloc _).heap (heap_alloc_new w _)
  have hs0 : W0.heap[w.heap.size + 1]? = some (.cells #[.int .i64 d0, .int .i64 d1, .int .i64 e0, .int .i64 e1, .int .i64 n0, .int .i64 n1] 63 (0, 0)) := by rw [← hW0]; exact ((Ext.refl _).alloc _).heap (alloc_at _ _ _ (by simp))
  have hr0 : W0.heap[w.heap.size + 1 + 1]? = some (.cells #[.slice none 0 0] 24 (0, 0)) := by rw [← hW0]; exact alloc_at _ _ _ (by simp)
  obtain ⟨z0, _⟩ := (Ext.refl W0).box ha0
  have hlr0 := heap_lt hr0
  have hz1 := hx0.size
  have Hx0 := Lib.hid hx0
  have Ha0 := Lib.hid ha0
  have Hs0 := Lib.hid hs0
  have Hr0 := Lib.hid hr0
  have Hll := Lib.hid hll
  clear hx0 ha0 hs0 hr0 hll
  cases hao : areaOk l with
  | false =>
    have hfin := herr 40 (by rw [hdef, if_pos hao])
    rw [hao] at hch
    simp only [Bool.false_eq_true, if_false] at hch
    have Hch := Lib.hid hch
    have Hfin := Lib.hid hfin
    clear hch hfin
    clear hl hgo hmv herr hok hdef
    go_enter Try.func30, Try.ntmps30
    go_wp2_with (go_at_call 28; refine (Hch.out _ Hx0.out).mono ?_; rintro e w1 ⟨rfl, hx1⟩; have hr2 := hx1.heap Hr0.out; obtain ⟨q2, r2⟩ := (Ext.refl _).box hr2; have hw2 := Hx0.out.trans hx1; have hsz := hw2.size; have hlr := heap_lt hr2; clear hW0 z0)
    refine bodyPost_ret (results_cell_tmp (P := Try.prog) (fn := Try.f30) rfl _ _ (w.heap.size + 1 + 1) 24 #[.slice none 0 0] (0, 0) _ rfl (by simp only [heap_setCell_box, hr2, Option.map_some, setIn_cells, List.setIfInBounds_toArray, List.set_cons_zero, List.set_cons_succ]) Try.underlying24 rfl (by kernel_rfl)) rfl ?_
    exact Hfin.out _ (hw2.setCell (p := ⟨w.heap.size + 1 + 1, 0, none⟩) (by simp only; omega) _)
  | true =>
    have hA := areaOk_iff.1 hao
    have hlen4 := hA.len
    rw [Hll.out] at hlen4
    rw [hao] at hch
    simp only [if_true] at hch
    cases hto : trekOk ⟨⟨d0, d1⟩, ⟨e0, e1⟩, ⟨n0, n1⟩⟩ with
    | false =>
      have hfin := herr 42 (by rw [hdef, hao, hto]; rfl)
      rw [hto] at hgo
      have Hch := Lib.hid hch
      have Hfin := Lib.hid hfin
      have Hgo := Lib.hid hgo
      clear hch hfin hgo
      clear hl hmv herr hok hdef
      go_enter Try.func30, Try.ntmps30
      go_wp2_with (first | (go_at_call 28; refine (Hch.out _ Hx0.out).mono ?_; rintro e w1 ⟨rfl, hx1⟩; obtain ⟨f1, _⟩ := (Ext.refl _).box (hx1.heap Hs0.out); clear hW0 z0) | (go_at_call 69; refine (Hgo.out _).mono ?_; rintro e w2 ⟨rfl, hx2⟩; have hx12 := hx1.trans hx2; have hr2 := hx12.heap Hr0.out; obtain ⟨q2, r2⟩ := (Ext.refl _).box hr2; have hw2 := Hx0.out.trans hx12; have hsz := hw2.size; have hlr := heap_lt hr2; clear f1))
      refine bodyPost_ret (results_cell_tmp (P := Try.prog) (fn := Try.f30) rfl _ _ (w.heap.size + 1 + 1) 24 #[.slice none 0 0] (0, 0) _ rfl (by simp only [heap_setCell_box, hr2, Option.map_some, setIn_cells, List.setIfInBounds_toArray, List.set_cons_zero, List.set_cons_succ]) Try.underlying24 rfl (by kernel_rfl)) rfl ?_
      exact Hfin.out _ (hw2.setCell (p := ⟨w.heap.size + 1 + 1, 0, none⟩) (by simp only; omega) _)
    | true =>
      rw [hto] at hgo
      replace hmv := fun W hW => hmv W hW (by omega) (by omega) hA.each hto
      cases hfi : fitB ML with
      | false =>
        have hfin := herr 9 (by rw [hdef, hao, hto, hfi]; rfl)
        rw [hfi] at hmv
        have Hch := Lib.hid hch
        have Hfin := Lib.hid hfin
        have Hgo := Lib.hid hgo
        have Hmv := Lib.hid hmv
        clear hch hfin hgo hmv
        clear hl herr hok hdef
        go_enter Try.func30, Try.ntmps30
        go_wp2_with (first | (go_at_call 28; refine (Hch.out _ Hx0.out).mono ?_; rintro e w1 ⟨rfl, hx1⟩; obtain ⟨f1, _⟩ := (Ext.refl _).box (hx1.heap Hs0.out); clear hW0 z0) | (go_at_call 69; refine (Hgo.out _).mono ?_; rintro e w2 ⟨rfl, hx2⟩; have hx12 := hx1.trans hx2; obtain ⟨f1', _⟩ := (Ext.refl _).box (hx12.heap Hs0.out); obtain ⟨f2', _⟩ := (Ext.refl _).box (hx12.heap Ha0.out); clear f1) | (go_at_call 70; refine (Hmv.out _ (Hx0.out.trans hx12)).mono ?_; rintro e w3 ⟨v3, rfl, hx3, ho3⟩; have hx13 := hx12.trans hx3; have hr2 := hx13.heap Hr0.out; obtain ⟨q2, r2⟩ := (Ext.refl _).box hr2; have hw2 := Hx0.out.trans hx13; have hsz := hw2.size; have hlr := heap_lt hr2; clear f1' f2'))
        refine bodyPost_ret (results_cell_tmp (P := Try.prog) (fn := Try.f30) rfl _ _ (w.heap.size + 1 + 1) 24 #[.slice none 0 0] (0, 0) _ rfl (by simp only [heap_setCell_box, hr2, Option.map_some, setIn_cells, List.setIfInBounds_toArray, List.set_cons_zero, List.set_cons_succ]) Try.underlying24 rfl (by kernel_rfl)) rfl ?_
        exact Hfin.out _ (hw2.setCell (p := ⟨w.heap.size + 1 + 1, 0, none⟩) (by simp only; omega) _)
      | true =>
        rw [hfi] at hmv
        have hso := fun W b (hW : Ext w W) (hb : W.heap[b]? = some (.cells #[.slice a len cap] 22 (0, 0))) => some_any (some ⟨b, 0, none⟩) 1 1 [l] W (lists1 hb (hl.ext hW) hc hm) (by omega) (by simp; have := Hll.out; omega) (fun h hh => by
          simp only [List.flatten_cons, List.flatten_nil, List.append_nil] at hh
          exact hA.each h hh)
        simp only [List.flatten_cons, List.flatten_nil, List.append_nil] at hso
        cases hsm : someB l with
        | false =>
          have hfin := herr 43 (by rw [hdef, hao, hto, hfi, hsm]; rfl)
          rw [hsm] at hso
          have Hch := Lib.hid hch
          have Hfin := Lib.hid hfin
          have Hgo := Lib.hid hgo
          have Hmv := Lib.hid hmv
          have Hso := Lib.hid hso
          clear hch hfin hgo hmv hso
          clear hl herr hok hdef
          go_enter Try.func30, Try.ntmps30
          go_wp2_with (first | (go_at_call 28; refine (Hch.out _ Hx0.out).mono ?_; rintro e w1 ⟨rfl, hx1⟩; obtain ⟨f1, _⟩ := (Ext.refl _).box (hx1.heap Hs0.out); clear hW0 z0) | (go_at_call 69; refine (Hgo.out _).mono ?_; rintro e w2 ⟨rfl, hx2⟩; have hx12 := hx1.trans hx2; obtain ⟨f1', _⟩ := (Ext.refl _).box (hx12.heap Hs0.out); obtain ⟨f2', _⟩ := (Ext.refl _).box (hx12.heap Ha0.out); clear f1) | (go_at_call 70; refine (Hmv.out _ (Hx0.out.trans hx12)).mono ?_; rintro e w3 ⟨v3, rfl, hx3, ho3⟩; have hx13 := hx12.trans hx3; have hx03 := Hx0.out.trans hx12; obtain ⟨f3', _⟩ := (Ext.refl _).box (hx13.heap Ha0.out); have ho3' := ho3; obtain ⟨va, vc, hv3, _⟩ := ho3.slAt; subst hv3; clear f1' f2') | (go_at_call 52; refine (Hso.out _ _ (Hx0.out.trans (hx13.alloc _)) (alloc_at _ _ _ rfl)).mono ?_; rintro e w4 ⟨rfl, hx4⟩; have hx14 := (hx13.alloc _).trans hx4; have hr2 := hx14.heap Hr0.out; obtain ⟨q2, r2⟩ := (Ext.refl _).box hr2; have hw2 := Hx0.out.trans hx14; have hsz := hw2.size; have hlr := heap_lt hr2; have ho4 := ho3.ext (((Ext.refl _).alloc _).trans hx4); clear f3'))
          refine bodyPost_ret (results_cell_tmp (P := Try.prog) (fn := Try.f30) rfl _ _ (w.heap.size + 1 + 1) 24 #[.slice none 0 0] (0, 0) _ rfl (by simp only [heap_setCell_box, hr2, Option.map_some, setIn_cells, List.setIfInBounds_toArray, List.set_cons_zero, List.set_cons_succ]) Try.underlying24 rfl (by kernel_rfl)) rfl ?_
          exact Hfin.out _ (hw2.setCell (p := ⟨w.heap.size + 1 + 1, 0, none⟩) (by simp only; omega) _)
        | true =>
          have hfin := hok ML (by rw [hdef, hao, hto, hfi, hsm]; rfl)
          rw [hsm] at hso
          have Hch := Lib.hid hch
          have Hfin := Lib.hid hfin
          have Hgo := Lib.hid hgo
          have Hmv := Lib.hid hmv
          have Hso := Lib.hid hso
          clear hch hfin hgo hmv hso
          clear hl herr hok hdef
          go_enter Try.func30, Try.ntmps30
          go_wp2_with (first | (go_at_call 28; refine (Hch.out _ Hx0.out).mono ?_; rintro e w1 ⟨rfl, hx1⟩; obtain ⟨f1, _⟩ := (Ext.refl _).box (hx1.heap Hs0.out); clear hW0 z0) | (go_at_call 69; refine (Hgo.out _).mono ?_; rintro e w2 ⟨rfl, hx2⟩; have hx12 := hx1.trans hx2; obtain ⟨f1', _⟩ := (Ext.refl _).box (hx12.heap Hs0.out); obtain ⟨f2', _⟩ := (Ext.refl _).box (hx12.heap Ha0.out); clear f1) | (go_at_call 70; refine (Hmv.out _ (Hx0.out.trans hx12)).mono ?_; rintro e w3 ⟨v3, rfl, hx3, ho3⟩; have hx13 := hx12.trans hx3; have hx03 := Hx0.out.trans hx12; obtain ⟨f3', _⟩ := (Ext.refl _).box (hx13.heap Ha0.out); have ho3' := ho3; obtain ⟨va, vc, hv3, _⟩ := ho3.slAt; subst hv3; clear f1' f2') | (go_at_call 52; refine (Hso.out _ _ (Hx0.out.trans (hx13.alloc _)) (alloc_at _ _ _ rfl)).mono ?_; rintro e w4 ⟨rfl, hx4⟩; have hx14 := (hx13.alloc _).trans hx4; have hr2 := hx14.heap Hr0.out; obtain ⟨q2, r2⟩ := (Ext.refl _).box hr2; have hw2 := Hx0.out.trans hx14; have hsz := hw2.size; have hlr := heap_lt hr2; have ho4 := ho3.ext (((Ext.refl _).alloc _).trans hx4); clear f3'))
          refine bodyPost_ret (results_cell_tmp (P := Try.prog) (fn := Try.f30) rfl _ _ (w.heap.size + 1 + 1) 24 #[.slice va (halfRows ML).length vc] (0, 0) _ rfl (by simp only [heap_setCell_box, hr2, Option.map_some, setIn_cells, List.setIfInBounds_toArray, List.set_cons_zero, List.set_cons_succ]) Try.underlying24 rfl (by kernel_rfl)) rfl ?_
          have hs12 := hx12.size
          exact Hfin.out _ _ (hw2.setCell (p := ⟨w.heap.size + 1 + 1, 0, none⟩) (by simp only; omega) _) ((owns_set ho4 (by omega)).mono hx03.size)
end Go.Proofs.Ytacdndehlkaaeaa
