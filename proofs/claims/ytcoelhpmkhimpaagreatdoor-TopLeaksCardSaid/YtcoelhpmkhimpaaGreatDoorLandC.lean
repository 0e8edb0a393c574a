/- Contracts of layer 3: whether a land is valid (trodden, Check), open. -/
import Derived.Test.YtcoelhpmkhimpaaGreatDoorDug
import Derived.Test.YtcoelhpmkhimpaaGreatDoorScal
namespace Go.Proofs.YtcoelhpmkhimpaaGreatDoor
open Go.RowKit
set_option linter.unusedVariables false
set_option linter.unusedSimpArgs false
def legVal (x : Leg) (ka : Option Addr) (kn kc : Nat) : Value := .agg #[.int .i64 x.frm, .int .i64 x.to, .int .i64 x.long.lo, .int .i64 x.long.hi, .slice ka kn kc]
theorem gates_drop {l : List Gate} {k : Nat} {g : Gate} {nx : Int} (h : l[k]? = some g) : gatesOk nx (l.drop k) = ((spanOk g.opens 0 100000 && spanOk g.shuts 0 100000) && inB g.opens.lo nx g.shuts.hi && gatesOk (g.shuts.hi + 1) (l.drop (k + 1))) := by
  have hk := (List.getElem?_eq_some_iff.1 h).1
  have e : l.drop k = g :: l.drop (k + 1) := by
    rw [List.drop_eq_getElem_cons hk]
    congr 1
    have := List.getElem?_eq_getElem hk
    rw [h] at this
    exact (Option.some.inj this).symm
  rw [e]
  rfl
set_option maxRecDepth 100000 in
set_option maxHeartbeats 8000000 in
theorem trodden_any (x : Leg) (ka : Option Addr) (kn kc n : Nat) (w : World) (hg : GatesAt w ka kn x.gates) (hkc : kn ≤ kc) (hkm : kc ≤ maxLen) (hn : n ≤ 1000000000) :
    Calls Tryz.prog 106 #[legVal x ka kn kc, .int .i64 n] w fun e w' => e = .returned (.bool (legOk n x)) ∧ Ext w w' := by
  have hgl := hg.1
  unfold maxLen at hkm
  have hdef : legOk n x = ((inB x.frm 0 (n - 1) && inB x.to 0 (n - 1)) && !(x.frm == x.to) && spanOk x.long 1 1000000 && decide (kn ≤ 6) && gatesOk 0 x.gates) := by
    unfold legOk
    rw [hgl]
    rfl
  obtain ⟨R, hR⟩ : ∃ R, legOk n x = R := ⟨_, rfl⟩
  rw [hR] at hdef ⊢
  clear hR
  obtain ⟨fr, tw, ⟨l0, l1⟩, gs⟩ := x
  simp only at hdef hg hgl
  unfold legVal
  simp only
  obtain ⟨P1, e1⟩ : ∃ P, (inB fr 0 (n - 1) && inB tw 0 (n - 1)) = P := ⟨_, rfl⟩
  obtain ⟨P2, e2⟩ : ∃ P, (fr == tw) = P := ⟨_, rfl⟩
  obtain ⟨P3, e3⟩ : ∃ P, spanOk ⟨l0, l1⟩ 1 1000000 = P := ⟨_, rfl⟩
  obtain ⟨P4, e4⟩ : ∃ P, decide (kn ≤ 6) = P := ⟨_, rfl⟩
  rw [e1, e2, e3, e4] at hdef
  have hbx := heap_alloc_new w (.cells #[.int .i64 fr, .int .i64 tw, .int .i64 l0, .int .i64 l1, .slice ka kn kc] 162)
  have hxa : Ext w (w.alloc (.cells #[.int .i64 fr, .int .i64 tw, .int .i64 l0, .int .i64 l1, .slice ka kn kc] 162)) := (Ext.refl _).alloc _
  obtain ⟨f0, _⟩ := (Ext.refl _).box hbx
  have h4 : P4 = false → decide ((6 : Int) < (kn : Int)) = true := fun h => by subst h; simp at e4; simp; omega
  have h4' : P4 = false → decide (6 < kn) = true := fun h => by subst h; simp at e4; simp; omega
  have h5 : P4 = true → decide ((6 : Int) < (kn : Int)) = false := fun h => by subst h; simp at e4; simp; omega
  have h5' : P4 = true → decide (6 < kn) = false := fun h => by subst h; simp at e4; simp; omega
  have E1 := Lib.hid e1
  have E3 := Lib.hid e3
  have Hdef := Lib.hid hdef
  have Hg := Lib.hid hg
  have Hgl := Lib.hid hgl
  have H4 := Lib.hid h4
  have H4' := Lib.hid h4'
  have H5 := Lib.hid h5
  have H5' := Lib.hid h5'
  clear e1 e3 hdef hg hgl h4 h4' h5 h5'
  clear e4
  have gg1 := trivial
  cases P1
  rotate_left
  cases P2
  cases P3
  rotate_left
  cases P4
  rotate_left
  · have h6 := H5.out rfl
    have h6' := H5'.out rfl
    have hdf := Hdef.out
    simp only [Bool.true_and, Bool.not_false] at hdf
    have Hdf := Lib.hid hdf
    clear hdf
    clear Hdef H4 H4' H5 H5'
    go_enter Tryz.func106, Tryz.ntmps106
    go_upto_region 5 with (first | (go_at_call 77; refine (fromW2 (alloc_at _ _ _ (by simp)) E1.out).mono ?_; rintro e w1 ⟨rfl, hx1⟩; replace hbx := hx1.heap (((Ext.refl _).alloc _).heap hbx); replace hxa := (hxa.alloc _).trans hx1; clear hx1 f0; obtain ⟨f0, _⟩ := (Ext.refl _).box hbx) | (go_at_call 126; refine (ordW1 (alloc_at _ _ _ (by simp)) E3.out).mono ?_; rintro e w1 ⟨rfl, hx1⟩; replace hbx := hx1.heap (((Ext.refl _).alloc _).heap hbx); replace hxa := (hxa.alloc _).trans hx1; clear hx1 f0; obtain ⟨f0, _⟩ := (Ext.refl _).box hbx))
    rename_i wz
    have Hxa := Lib.hid hxa
    clear hxa
    clear f0 hbx
    go_loopw [40, 5] (fun i nx wr => ∃ (k : Nat) (z : Int), k ≤ kn ∧ i = .int .i64 k ∧ nx = .int .i64 z ∧ Ext w wr ∧ 0 ≤ z ∧ z ≤ 100001 ∧ gatesOk 0 gs = gatesOk z (gs.drop k)) (fun i _ _ => kn - (intOf i).toNat)
    case atStart => exact ⟨0, 0, Nat.zero_le _, rfl, rfl, Hxa.out, by omega, by omega, rfl⟩
    case round =>
      clear Hxa
      obtain ⟨k, z, hk, rfl, rfl, hx, hz0, hz1, hgk⟩ := hrel
      by_cases hlt : k < kn
      · obtain ⟨b, off, g, rfl, hgg, hb, c0, c1, c2, c3⟩ := (Hg.out.ext hx).get k hlt
        rw [gates_drop hgg] at hgk
        obtain ⟨⟨o0, o1⟩, ⟨s0, s1⟩⟩ := g
        simp only at c0 c1 c2 c3 hgk
        obtain ⟨P5, e5⟩ : ∃ P, (spanOk ⟨o0, o1⟩ 0 100000 && spanOk ⟨s0, s1⟩ 0 100000) = P := ⟨_, rfl⟩
        obtain ⟨P6, e6⟩ : ∃ P, inB o0 z s1 = P := ⟨_, rfl⟩
        rw [e5, e6] at hgk
        have hbx := heap_alloc_new wr (.cells #[.int .i64 o0, .int .i64 o1, .int .i64 s0, .int .i64 s1] 194)
        have hxa : Ext w (wr.alloc (.cells #[.int .i64 o0, .int .i64 o1, .int .i64 s0, .int .i64 s1] 194)) := hx.alloc _
        obtain ⟨f0, _⟩ := (Ext.refl _).box hbx
        have hs1 : P5 = true → 0 ≤ s1 ∧ s1 ≤ 100000 := fun h => by
          rw [h, Bool.and_eq_true] at e5
          have := spanIs e5.2
          exact ⟨Int.le_trans this.low this.ord, this.top⟩
        have E5 := Lib.hid e5
        have E6 := Lib.hid e6
        have Hgk := Lib.hid hgk
        have Hx := Lib.hid hx
        have Hs1 := Lib.hid hs1
        clear e5 e6 hgk hx hs1
        clear hgg
        cases P5
        rotate_left
        cases P6
        rotate_left
        · have hs := Hs1.out rfl
          have hgn := Hgk.out
          simp only [Bool.true_and] at hgn
          have Hgn := Lib.hid hgn
          clear hgn
          clear Hgk
          go_wp2_with (first | (go_at_call 77; refine (fromW1 (alloc_at _ _ _ (by simp)) E6.out).mono ?_; rintro e w1 ⟨rfl, hx1⟩; replace hbx := hx1.heap (((Ext.refl _).alloc _).heap hbx); replace hxa := (hxa.alloc _).trans hx1; clear hx1 f0; obtain ⟨f0, _⟩ := (Ext.refl _).box hbx) | (go_at_call 126; refine (ordW2 (alloc_at _ _ _ (by simp)) E5.out).mono ?_; rintro e w1 ⟨rfl, hx1⟩; replace hbx := hx1.heap (((Ext.refl _).alloc _).heap hbx); replace hxa := (hxa.alloc _).trans hx1; clear hx1 f0; obtain ⟨f0, _⟩ := (Ext.refl _).box hbx))
          go_roundw
          case rel => exact ⟨k + 1, s1 + 1, by omega, by go_num, rfl, hxa, by omega, by omega, Hgn.out⟩
          case measure => simp [intOf]; omega
        all_goals
          have hR : R = false := by rw [Hdf.out, Hgk.out]; simp
          subst hR
          go_wp2_with (first | (go_at_call 77; refine (fromW1 (alloc_at _ _ _ (by simp)) E6.out).mono ?_; rintro e w1 ⟨rfl, hx1⟩; replace hbx := hx1.heap (((Ext.refl _).alloc _).heap hbx); replace hxa := (hxa.alloc _).trans hx1; clear hx1 f0; obtain ⟨f0, _⟩ := (Ext.refl _).box hbx) | (go_at_call 126; refine (ordW2 (alloc_at _ _ _ (by simp)) E5.out).mono ?_; rintro e w1 ⟨rfl, hx1⟩; replace hbx := hx1.heap (((Ext.refl _).alloc _).heap hbx); replace hxa := (hxa.alloc _).trans hx1; clear hx1 f0; obtain ⟨f0, _⟩ := (Ext.refl _).box hbx))
          go_ret
          exact ⟨rfl, hxa⟩
      · have hR : R = true := by
          rw [Hdf.out, hgk, List.drop_of_length_le (by have := Hgl.out; omega)]
          rfl
        subst hR
        go_wp2_with fail
        go_ret
        exact ⟨rfl, hx⟩
  all_goals
    have hR : R = false := by rw [Hdef.out]; simp
    subst hR
    try have h6 := H4.out rfl
    try have h6' := H4'.out rfl
    clear Hdef H4 H4' H5 H5'
    go_enter Tryz.func106, Tryz.ntmps106
    go_wp2_with (first | (go_at_call 77; refine (fromW2 (alloc_at _ _ _ (by simp)) E1.out).mono ?_; rintro e w1 ⟨rfl, hx1⟩; replace hbx := hx1.heap (((Ext.refl _).alloc _).heap hbx); replace hxa := (hxa.alloc _).trans hx1; clear hx1 f0; obtain ⟨f0, _⟩ := (Ext.refl _).box hbx) | (go_at_call 126; refine (ordW1 (alloc_at _ _ _ (by simp)) E3.out).mono ?_; rintro e w1 ⟨rfl, hx1⟩; replace hbx := hx1.heap (((Ext.refl _).alloc _).heap hbx); replace hxa := (hxa.alloc _).trans hx1; clear hx1 f0; obtain ⟨f0, _⟩ := (Ext.refl _).box hbx))
    go_ret
    exact ⟨rfl, hxa⟩
/-- a land's value: the slices of its wells and of its legs -/
structure LandAt (w : World) (wa : Option Addr) (wn wc : Nat) (la : Option Addr) (ln lc : Nat) (l : Land) : Prop where
  wells : WellsAt w wa wn l.wells
  legs : LegsAt w la ln l.legs
  c1 : wn ≤ wc
  c2 : wc ≤ maxLen
  c3 : ln ≤ lc
  c4 : lc ≤ maxLen
  n1 : wn ≤ 1000000000
  n2 : ln ≤ 1000000000
theorem LandAt.ext {w w' : World} {wa : Option Addr} {wn wc : Nat} {la : Option Addr} {ln lc : Nat} {l : Land} (h : LandAt w wa wn wc la ln lc l) (e : Ext w w') : LandAt w' wa wn wc la ln lc l := ⟨h.wells.ext e, h.legs.ext e, h.c1, h.c2, h.c3, h.c4, h.n1, h.n2⟩
set_option maxRecDepth 100000 in
theorem untrod_any (x : Leg) (ka : Option Addr) (kn kc q : Nat) (wa : Option Addr) (wn wc : Nat) (la : Option Addr) (ln lc : Nat) (w : World) (hg : GatesAt w ka kn x.gates) (hkc : kn ≤ kc) (hkm : kc ≤ maxLen) (hn : wn ≤ 1000000000) (hnc : wn ≤ wc) (hwc : wc ≤ maxLen) (hq : w.heap[q]? = some (.cells #[.slice wa wn wc, .slice la ln lc] 99 (0, 0))) :
    Calls Tryz.prog 105 #[.agg #[.int .i64 x.frm, .int .i64 x.to, .int .i64 x.long.lo, .int .i64 x.long.hi, .slice ka kn kc], .pointer (some ⟨q, 0, none⟩)] w fun e w' => e = .returned (.bool (!legOk wn x)) ∧ Ext w w' := by
  have hx1 : Ext w (w.alloc (.cells #[.int .i64 x.frm, .int .i64 x.to, .int .i64 x.long.lo, .int .i64 x.long.hi, .slice ka kn kc] 162)) := (Ext.refl _).alloc _
  have ht := trodden_any x ka kn kc wn _ (hg.ext hx1) hkc hkm hn
  obtain ⟨P, hP⟩ : ∃ P, legOk wn x = P := ⟨_, rfl⟩
  rw [hP] at ht ⊢
  have hql := heap_lt hq
  have hqq := hx1.heap hq
  obtain ⟨z, _⟩ := (Ext.refl _).box hq
  unfold legVal at ht
  obtain ⟨fr, tw, ⟨l0, l1⟩, gs⟩ := x
  simp only at *
  have Ht := Lib.hid ht
  have Hx1 := Lib.hid hx1
  have Hqq := Lib.hid hqq
  clear ht hx1 hqq
  clear hg hq hP
  go_enter Tryz.func105, Tryz.ntmps105
  go_wp2_with (go_at_call 106; refine Ht.out.mono ?_; rintro e w1 ⟨rfl, hx⟩)
  go_ret
  exact ⟨rfl, Hx1.out.trans hx⟩
def landErr (l : Land) : Int := if landOk l then 0 else 30
set_option maxRecDepth 100000 in
set_option maxHeartbeats 8000000 in
theorem checkLand_any (wa : Option Addr) (wn wc : Nat) (la : Option Addr) (ln lc : Nat) (l : Land) (w : World) (h : LandAt w wa wn wc la ln lc l) : Calls Tryz.prog 76 #[.agg #[.slice wa wn wc, .slice la ln lc]] w fun e w' => e = .returned (.int .i64 (landErr l)) ∧ Ext w w' := by
  have hx1 : Ext w (w.alloc (.cells #[.slice wa wn wc, .slice la ln lc] 99)) := (Ext.refl _).alloc _
  have hb1 := heap_alloc_new w (.cells #[.slice wa wn wc, .slice la ln lc] 99)
  have hcw := contains_well100 wa wn wc l.wells (fun x => !wellOk x) _ (h.wells.ext hx1) h.n1 (fun o _ W _ => undug_any o W)
  have hcl := fun W (hW : Ext (w.alloc (.cells #[.slice wa wn wc, .slice la ln lc] 99)) W) => contains_leg103 la ln lc w.heap.size l.legs (fun x => !legOk wn x) W ((h.legs.ext hx1).ext hW) h.n2 (fun o _ W' ka kn kc hW' h1 h2 h3 => untrod_any o ka kn kc w.heap.size wa wn wc la ln lc W' h3 h1 h2 h.n1 h.c1 h.c2 ((hW.trans hW').heap hb1))
  have hwl := h.wells.1
  have hll := h.legs.1
  have d1 := h.c1
  have d2 := h.c2
  have d3 := h.c3
  have d4 := h.c4
  unfold maxLen at d2 d4
  have hdef : landErr l = if (inB (wn : Int) 1 12 && decide (ln ≤ 24) && !(l.wells.any fun x => !wellOk x) && !(l.legs.any fun x => !legOk wn x)) then 0 else 30 := by
    unfold landErr landOk
    rw [hwl, hll, any_not, any_not]
    congr 1
    unfold inB
    rw [show (decide (1 ≤ wn) : Bool) = decide ((1 : Int) ≤ wn) by simp; omega, show (decide (wn ≤ 12) : Bool) = decide ((wn : Int) ≤ 12) by simp; omega]
  rw [hdef]
  clear hdef
  obtain ⟨P3, e3⟩ : ∃ P, (l.wells.any fun x => !wellOk x) = P := ⟨_, rfl⟩
  obtain ⟨P4, e4⟩ : ∃ P, (l.legs.any fun x => !legOk wn x) = P := ⟨_, rfl⟩
  rw [e3] at hcw ⊢
  rw [e4] at hcl ⊢
  obtain ⟨P1, e1⟩ : ∃ P, inB (wn : Int) 1 12 = P := ⟨_, rfl⟩
  rw [e1]
  have hz := ((Ext.refl _).box hb1).1
  have Hcw := Lib.hid hcw
  have Hcl := Lib.hid hcl
  have Hx1 := Lib.hid hx1
  have Hb1 := Lib.hid hb1
  have E1 := Lib.hid e1
  clear hcw hcl hx1 hb1 e1
  clear e3 e4 hwl hll h
  by_cases h24 : ln ≤ 24
  · have h24B : decide ((24 : Int) < (ln : Int)) = false := by simp; omega
    have h24C : decide (24 < ln) = false := by simp; omega
    have h24D : decide (ln ≤ 24) = true := by simpa using h24
    rw [h24D]
    clear h24 h24D
    cases P1 <;> cases P3 <;> cases P4
    all_goals
      simp only [Bool.and_false, Bool.false_and, Bool.and_true, Bool.true_and, if_true, Bool.false_eq_true, if_false, Bool.not_true, Bool.not_false]
      go_enter Tryz.func76, Tryz.ntmps76
      go_wp2_with (first | (go_at_call 101; refine Hcw.out.mono ?_; rintro e w1 ⟨rfl, hx2⟩; obtain ⟨z2, _⟩ := (Ext.refl _).box (hx2.heap Hb1.out)) | (go_at_call 104; refine (Hcl.out _ hx2).mono ?_; rintro e w2 ⟨rfl, hx3⟩; obtain ⟨z3, _⟩ := (Ext.refl _).box ((hx2.trans hx3).heap Hb1.out)) | (go_at_call 77; refine (fromW1 (alloc_at _ _ _ (by simp)) E1.out).mono ?_; rintro e w3 ⟨rfl, hx4⟩; obtain ⟨z4, _⟩ := (Ext.refl _).box ((((hx2.trans hx3).alloc _).trans hx4).heap Hb1.out)))
      go_ret
      exact ⟨rfl, Hx1.out.trans (((hx2.trans hx3).alloc _).trans hx4)⟩
  · have h24B : decide ((24 : Int) < (ln : Int)) = true := by simp; omega
    have h24C : decide (24 < ln) = true := by simp; omega
    have h24D : decide (ln ≤ 24) = false := by simpa using h24
    rw [h24D]
    clear h24 h24D
    cases P1
    all_goals
      simp only [Bool.and_false, Bool.false_and, Bool.and_true, Bool.true_and, if_true, Bool.false_eq_true, if_false]
      go_enter Tryz.func76, Tryz.ntmps76
      go_wp2_with (first | (go_at_call 101; refine Hcw.out.mono ?_; rintro e w1 ⟨rfl, hx2⟩; obtain ⟨z2, _⟩ := (Ext.refl _).box (hx2.heap Hb1.out)) | (go_at_call 104; refine (Hcl.out _ hx2).mono ?_; rintro e w2 ⟨rfl, hx3⟩; obtain ⟨z3, _⟩ := (Ext.refl _).box ((hx2.trans hx3).heap Hb1.out)) | (go_at_call 77; refine (fromW1 (alloc_at _ _ _ (by simp)) E1.out).mono ?_; rintro e w3 ⟨rfl, hx4⟩; obtain ⟨z4, _⟩ := (Ext.refl _).box ((((hx2.trans hx3).alloc _).trans hx4).heap Hb1.out)))
      go_ret
      exact ⟨rfl, Hx1.out.trans (((hx2.trans hx3).alloc _).trans hx4)⟩
end Go.Proofs.YtcoelhpmkhimpaaGreatDoor
