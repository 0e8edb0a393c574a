/- The reference: March. -/
import Derived.Test.YtacdndehlkaaeaaVRMoved
import Derived.Test.YtacdndehlkaaeaaVRefSee
namespace Go.Proofs.Ytacdndehlkaaeaa
open Go.RowKit
set_option linter.unusedVariables false
set_option linter.unusedSimpArgs false
def RMarchPost (r : List Half × Int) (w : World) (e : Ending) (w' : World) : Prop := ∃ a c, e = .returned (.tuple #[.agg #[.slice a r.1.length c], .int .i64 r.2]) ∧ r.1.length ≤ c ∧ c ≤ maxLen ∧ Ext w w' ∧ HalvesAt w' a r.1.length r.1 ∧ From w.heap.size a
set_option maxRecDepth 100000 in
set_option maxHeartbeats 4000000 in
theorem rmarch_any (a : Option Addr) (len cap : Nat) (l : List Half) (t : Trek) (w : World) (hl : HalvesAt w a len l) (hc : len ≤ cap) (hm : cap ≤ maxLen) (hlen : len ≤ 100000) :
    Calls Try.prog 31 #[.agg #[.slice a len cap], t.val] w (RMarchPost (marchOf l t) w) := by
  have hch := fun W (hW : Ext w W) => area_any a len cap l W (hl.ext hW) hlen
  have hgo := fun W => rtrek_any t W
  have hdef : marchOf l t = if areaOk l = false then ([], 40) else if trekOk t = false then ([], 42) else if fitB (movedOf l t) = false then ([], 9) else if someB l = false then ([], 43) else (movedOf l t, 0) := rfl
  have hll := hl.1
  have hmvl : (movedOf l t).length = len := by rw [moved_len]; exact hll
  have hmv := fun W (hW : Ext w W) h1 h2 h3 => rmoved_any a len cap l t W (hl.ext hW) h1 h2 h3
  have hrc := fun (W : World) (hW : Ext w W) h1 h2 => rcorners_any a len cap l W (hl.ext hW) h1 h2
  unfold CornersPost at hrc
  obtain ⟨K, hK⟩ : ∃ K, (cornersOf l).length = K := ⟨_, rfl⟩
  rw [hK] at hrc
  have hemp := empty_of_some hK
  obtain ⟨r, hr⟩ : ∃ r, marchOf l t = r := ⟨_, rfl⟩
  obtain ⟨Q, hQ⟩ : ∃ Q, RMarchPost r w = Q := ⟨_, rfl⟩
  have herr : ∀ k, r = ([], k) → ∀ w', Ext w w' → Q (.returned (.tuple #[.agg #[.slice none 0 0], .int .i64 k])) w' := fun k h w' hx => by
    rw [← hQ, h]
    exact ⟨none, 0, rfl, Nat.le_refl _, Nat.zero_le _, hx, ⟨rfl, fun h => absurd h (by simp)⟩, From.none _⟩
  have hok : ∀ L, L.length = len → r = (L, 0) → ∀ v c w', len ≤ c → c ≤ maxLen → Ext w w' → HalvesAt w' v len L → From w.heap.size v → Q (.returned (.tuple #[.agg #[.slice v len c], .int .i64 0])) w' := fun L hL h v c w' h1 h2 hx ho hf => by
    rw [← hQ, h]
    refine ⟨v, c, ?_, ?_, h2, hx, ?_, hf⟩ <;> simp only [hL] <;> assumption
  rw [hr] at hdef ⊢
  rw [hQ]
  clear hr hQ
  unfold RMovedPost at hmv
  generalize hML : movedOf l t = ML at *
  obtain ⟨⟨d0, d1⟩, ⟨e0, e1⟩, ⟨n0, n1⟩⟩ := t
  unfold Trek.val at *
  simp only at hgo hmv ⊢
  obtain ⟨W0, hW0⟩ : ∃ W0, ((w.alloc (.cells #[.slice a len cap] 24)).alloc (.cells #[.int .i64 d0, .int .i64 d1, .int .i64 e0, .int .i64 e1, .int .i64 n0, .int .i64 n1] 63)).alloc (.cells #[.slice none 0 0] 24) = W0 := ⟨_, rfl⟩
  have hx0 : Ext w W0 := by rw [← hW0]; exact (((Ext.refl w).alloc _).alloc _).alloc _
  have ha0 : W0.heap[w.heap.size]? = some (.cells #[.slice a len cap] 24 (0, 0)) := by rw [← hW0]; exact (((Ext.refl _).alloc _).alloc _).heap (heap_alloc_new w _)
  have hs0 : W0.heap[w.heap.size + 1]? = some (.cells #[.int .i64 d0, .int .i64 d1, .int .i64 e0, .int .i64 e1, .int .i64 n0, .int .i64 n1] 63 (0, 0)) := by rw [← hW0]; exact ((Ext.refl _).alloc _).heap (alloc_at _ _ _ (by simp))
  have hr0 : W0.heap[w.heap.size + 1 + 1]? = some (.cells #[.slice none 0 0] 24 (0, 0)) := by rw [← hW0]; exact alloc_at _ _ _ (by simp)
  obtain ⟨z0, _⟩ := (Ext.refl W0).box ha0
  have hlr0 := heap_lt hr0
  have hz1 := hx0.size
  have Hx0 := Lib.hid hx0
  have Ha0 := Lib.hid ha0
  have Hs0 := Lib.hid hs0
  have Hr0 := Lib.hid hr0
  have Hll := Lib.hid hll
  have HK := Lib.hid hK
  clear hx0 ha0 hs0 hr0 hll hK
  cases hao : areaOk l with
  | false =>
    have hfin := herr 40 (by rw [hdef, if_pos hao])
    rw [hao] at hch
    have Hch := Lib.hid hch
    have Hfin := Lib.hid hfin
    clear hch hfin
    clear hl hgo hmv hrc herr hok hdef hemp
    go_enter Try.func31, Try.ntmps31
    go_wp2_with (go_at_call 53; refine (Hch.out _ Hx0.out).mono ?_; rintro e w1 ⟨rfl, hx1⟩; have hr2 := hx1.heap Hr0.out; obtain ⟨q2, _⟩ := (Ext.refl _).box hr2; have hw2 := Hx0.out.trans hx1; have hsz := hw2.size; clear hW0)
    refine bodyPost_ret (results_cell_tmp (P := Try.prog) (fn := Try.f31) rfl _ _ (w.heap.size + 1 + 1) 24 #[.slice none 0 0] (0, 0) _ rfl (by simp only [heap_setCell_box, hr2, Option.map_some, setIn_cells, List.setIfInBounds_toArray, List.set_cons_zero, List.set_cons_succ]) Try.underlying24 rfl (by kernel_rfl)) rfl ?_
    exact Hfin.out _ (hw2.setCell (p := ⟨w.heap.size + 1 + 1, 0, none⟩) (by simp only; omega) _)
  | true =>
    have hA := areaOk_iff.1 hao
    have hlen4 := hA.len
    rw [hao] at hch
    cases hto : trekOk ⟨⟨d0, d1⟩, ⟨e0, e1⟩, ⟨n0, n1⟩⟩ with
    | false =>
      have hfin := herr 42 (by rw [hdef, hao, hto]; rfl)
      rw [hto] at hgo
      have Hch := Lib.hid hch
      have Hfin := Lib.hid hfin
      have Hgo := Lib.hid hgo
      clear hch hfin hgo
      clear hl hmv hrc herr hok hdef hemp
      go_enter Try.func31, Try.ntmps31
      go_wp2_with (first | (go_at_call 53; refine (Hch.out _ Hx0.out).mono ?_; rintro e w1 ⟨rfl, hx1⟩; obtain ⟨f1, _⟩ := (Ext.refl _).box (hx1.heap Hs0.out); clear hW0 z0) | (go_at_call 45; refine (Hgo.out _).mono ?_; rintro e w2 ⟨rfl, hx2⟩; have hx12 := hx1.trans hx2; have hr2 := hx12.heap Hr0.out; obtain ⟨q2, _⟩ := (Ext.refl _).box hr2; have hw2 := Hx0.out.trans hx12; have hsz := hw2.size; clear f1))
      refine bodyPost_ret (results_cell_tmp (P := Try.prog) (fn := Try.f31) rfl _ _ (w.heap.size + 1 + 1) 24 #[.slice none 0 0] (0, 0) _ rfl (by simp only [heap_setCell_box, hr2, Option.map_some, setIn_cells, List.setIfInBounds_toArray, List.set_cons_zero, List.set_cons_succ]) Try.underlying24 rfl (by kernel_rfl)) rfl ?_
      exact Hfin.out _ (hw2.setCell (p := ⟨w.heap.size + 1 + 1, 0, none⟩) (by simp only; omega) _)
    | true =>
      rw [hto] at hgo
      replace hmv := fun W hW => hmv W hW (by have := Hll.out; omega) hA.each hto
      replace hrc := fun W hW => hrc W hW hA.each (by have := Hll.out; omega)
      cases hfi : fitB ML with
      | false =>
        have hfin := herr 9 (by rw [hdef, hao, hto, hfi]; rfl)
        replace hmv := fun W (hW : Ext w W) => (hmv W hW).mono fun e w' h => show e = .returned (.tuple #[.slice none 0 0, .bool false]) ∧ Ext W w' from h.elim (fun h => absurd h.1 (by rw [hfi]; simp)) fun h => h.2
        have Hch := Lib.hid hch
        have Hfin := Lib.hid hfin
        have Hgo := Lib.hid hgo
        have Hmv := Lib.hid hmv
        clear hch hfin hgo hmv
        clear hl hrc herr hok hdef hemp
        go_enter Try.func31, Try.ntmps31
        go_wp2_with (first | (go_at_call 53; refine (Hch.out _ Hx0.out).mono ?_; rintro e w1 ⟨rfl, hx1⟩; obtain ⟨f1, _⟩ := (Ext.refl _).box (hx1.heap Hs0.out); clear hW0 z0) | (go_at_call 45; refine (Hgo.out _).mono ?_; rintro e w2 ⟨rfl, hx2⟩; have hx12 := hx1.trans hx2; obtain ⟨f1', _⟩ := (Ext.refl _).box (hx12.heap Hs0.out); obtain ⟨f2', _⟩ := (Ext.refl _).box (hx12.heap Ha0.out); clear f1) | (go_at_call 71; refine (Hmv.out _ (Hx0.out.trans hx12)).mono ?_; rintro e w3 ⟨rfl, hx3⟩; have hx13 := hx12.trans hx3; have hr2 := hx13.heap Hr0.out; obtain ⟨q2, r2⟩ := (Ext.refl _).box hr2; have hw2 := Hx0.out.trans hx13; have hsz := hw2.size; have hlr := heap_lt hr2; clear f1' f2'))
        refine bodyPost_ret (results_cell_tmp (P := Try.prog) (fn := Try.f31) rfl _ _ (w.heap.size + 1 + 1) 24 #[.slice none 0 0] (0, 0) _ rfl (by simp only [heap_setCell_box, hr2, Option.map_some, setIn_cells, List.setIfInBounds_toArray, List.set_cons_zero, List.set_cons_succ]) Try.underlying24 rfl (by kernel_rfl)) rfl ?_
        exact Hfin.out _ (hw2.setCell (p := ⟨w.heap.size + 1 + 1, 0, none⟩) (by simp only; omega) _)
      | true =>
        replace hmv := fun W (hW : Ext w W) => (hmv W hW).mono fun e w' h => show ∃ a n c, e = .returned (.tuple #[.slice a n c, .bool true]) ∧ n ≤ c ∧ c ≤ maxLen ∧ Ext W w' ∧ HalvesAt w' a n ML ∧ From W.heap.size a from h.elim (fun h => h.2) fun h => absurd h.1 (by rw [hfi]; simp)
        cases hsm : someB l with
        | false =>
          have hfin := herr 43 (by rw [hdef, hao, hto, hfi, hsm]; rfl)
          have hKB := hemp false hsm
          rw [Bool.not_false] at hKB
          have Hch := Lib.hid hch
          have Hfin := Lib.hid hfin
          have Hgo := Lib.hid hgo
          have Hmv := Lib.hid hmv
          have Hrc := Lib.hid hrc
          clear hch hfin hgo hmv hrc
          clear hl herr hok hdef hemp
          go_enter Try.func31, Try.ntmps31
          go_wp2_with (first | (go_at_call 53; refine (Hch.out _ Hx0.out).mono ?_; rintro e w1 ⟨rfl, hx1⟩; obtain ⟨f1, _⟩ := (Ext.refl _).box (hx1.heap Hs0.out); clear hW0 z0) | (go_at_call 45; refine (Hgo.out _).mono ?_; rintro e w2 ⟨rfl, hx2⟩; have hx12 := hx1.trans hx2; obtain ⟨f1', _⟩ := (Ext.refl _).box (hx12.heap Hs0.out); obtain ⟨f2', _⟩ := (Ext.refl _).box (hx12.heap Ha0.out); clear f1) | (go_at_call 71; refine (Hmv.out _ (Hx0.out.trans hx12)).mono ?_; rintro e w3 ⟨va, vn, vc, rfl, v1, v2, hx3, ho3, hf3⟩; have hx13 := hx12.trans hx3; have hx03 := Hx0.out.trans hx12; obtain ⟨f3', _⟩ := (Ext.refl _).box (hx13.heap Ha0.out); clear f1' f2') | (go_at_call 55; refine (Hrc.out _ (Hx0.out.trans hx13)).mono ?_; rintro e w4 ⟨ca, cc, rfl, hx4, _⟩; have hx14 := hx13.trans hx4; have hr2 := hx14.heap Hr0.out; obtain ⟨q2, r2⟩ := (Ext.refl _).box hr2; have hw2 := Hx0.out.trans hx14; have hsz := hw2.size; have hlr := heap_lt hr2; have ho4 := ho3.ext hx4; clear f3'))
          refine bodyPost_ret (results_cell_tmp (P := Try.prog) (fn := Try.f31) rfl _ _ (w.heap.size + 1 + 1) 24 #[.slice none 0 0] (0, 0) _ rfl (by simp only [heap_setCell_box, hr2, Option.map_some, setIn_cells, List.setIfInBounds_toArray, List.set_cons_zero, List.set_cons_succ]) Try.underlying24 rfl (by kernel_rfl)) rfl ?_
          exact Hfin.out _ (hw2.setCell (p := ⟨w.heap.size + 1 + 1, 0, none⟩) (by simp only; omega) _)
        | true =>
          have hfin := hok ML hmvl (by rw [hdef, hao, hto, hfi, hsm]; rfl)
          have hKB := hemp true hsm
          rw [Bool.not_true] at hKB
          have Hch := Lib.hid hch
          have Hfin := Lib.hid hfin
          have Hgo := Lib.hid hgo
          have Hmv := Lib.hid hmv
          have Hrc := Lib.hid hrc
          have Hmvl := Lib.hid hmvl
          clear hch hfin hgo hmv hrc hmvl
          clear hl herr hok hdef hemp
          go_enter Try.func31, Try.ntmps31
          go_wp2_with (first | (go_at_call 53; refine (Hch.out _ Hx0.out).mono ?_; rintro e w1 ⟨rfl, hx1⟩; obtain ⟨f1, _⟩ := (Ext.refl _).box (hx1.heap Hs0.out); clear hW0 z0) | (go_at_call 45; refine (Hgo.out _).mono ?_; rintro e w2 ⟨rfl, hx2⟩; have hx12 := hx1.trans hx2; obtain ⟨f1', _⟩ := (Ext.refl _).box (hx12.heap Hs0.out); obtain ⟨f2', _⟩ := (Ext.refl _).box (hx12.heap Ha0.out); clear f1) | (go_at_call 71; refine (Hmv.out _ (Hx0.out.trans hx12)).mono ?_; rintro e w3 ⟨va, vn, vc, rfl, v1, v2, hx3, ho3, hf3⟩; have hx13 := hx12.trans hx3; have hx03 := Hx0.out.trans hx12; obtain ⟨f3', _⟩ := (Ext.refl _).box (hx13.heap Ha0.out); clear f1' f2') | (go_at_call 55; refine (Hrc.out _ (Hx0.out.trans hx13)).mono ?_; rintro e w4 ⟨ca, cc, rfl, hx4, _⟩; have hx14 := hx13.trans hx4; have hr2 := hx14.heap Hr0.out; obtain ⟨q2, r2⟩ := (Ext.refl _).box hr2; have hw2 := Hx0.out.trans hx14; have hsz := hw2.size; have hlr := heap_lt hr2; have ho4 := ho3.ext hx4; clear f3'))
          obtain rfl : vn = len := ho3.1.symm.trans Hmvl.out
          refine bodyPost_ret (results_cell_tmp (P := Try.prog) (fn := Try.f31) rfl _ _ (w.heap.size + 1 + 1) 24 #[.slice va vn vc] (0, 0) _ rfl (by simp only [heap_setCell_box, hr2, Option.map_some, setIn_cells, List.setIfInBounds_toArray, List.set_cons_zero, List.set_cons_succ]) Try.underlying24 rfl (by kernel_rfl)) rfl ?_
          have hs12 := hx03.size
          refine Hfin.out _ _ _ v1 v2 (hw2.setCell (p := ⟨w.heap.size + 1 + 1, 0, none⟩) (by simp only; omega) _) (ho4.same fun X hX => Below.heap_setCell _ _ _ _ ?_) (hf3.mono hx03.size)
          have := hf3 X hX
          have := Hx0.out.size
          have := hx12.size
          simp only
          omega
end Go.Proofs.Ytacdndehlkaaeaa
