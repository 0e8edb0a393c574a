/- Contracts: whether a well is valid (dug, Check$1). -/
import Derived.Test.YtcoelhpmkhimpaaGreatVGc
import Derived.Test.YtcoelhpmkhimpaaGreatVGd
import Derived.Laws.CopyOwn
namespace Go.Proofs.YtcoelhpmkhimpaaGreat
open Go.RowKit
set_option linter.unusedVariables false
set_option linter.unusedSimpArgs false

set_option maxRecDepth 100000 in
set_option maxHeartbeats 4000000 in
theorem dug_any (s : Well) (w : World) : Calls Tryz.prog 121 #[s.val] w fun e w' => e = .returned (.bool (wellOk s)) ∧ Ext w w' := by
  obtain ⟨x, y, d, ⟨y0, y1⟩, rm, ⟨h0, h1⟩, ow⟩ := s
  obtain ⟨P1, e1⟩ : ∃ P, (inB x (-10000000) 10000000 && inB y (-10000000) 10000000) = P := ⟨_, rfl⟩
  obtain ⟨P2, e2⟩ : ∃ P, inB d 0 200 = P := ⟨_, rfl⟩
  obtain ⟨P3, e3⟩ : ∃ P, spanOk ⟨y0, y1⟩ 0 10000000 = P := ⟨_, rfl⟩
  obtain ⟨P4, e4⟩ : ∃ P, inB rm 0 1000000000 = P := ⟨_, rfl⟩
  obtain ⟨P5, e5⟩ : ∃ P, spanOk ⟨h0, h1⟩ 0 rm = P := ⟨_, rfl⟩
  obtain ⟨P6, e6⟩ : ∃ P, inB ow 0 9999 = P := ⟨_, rfl⟩
  have hv : wellOk ⟨x, y, d, ⟨y0, y1⟩, rm, ⟨h0, h1⟩, ow⟩ = (P1 && P2 && P3 && P4 && P5 && P6) := by
    unfold wellOk
    simp only
    rw [e1, e2, e3, e4, e5, e6]
  rw [hv]
  clear hv
  unfold Well.val
  simp only
  have hbx := heap_alloc_new w (.cells #[.int .i64 x, .int .i64 y, .int .i64 d, .int .i64 y0, .int .i64 y1, .int .i64 rm, .int .i64 h0, .int .i64 h1, .int .i64 ow] 62)
  have hxa : Ext w (w.alloc (.cells #[.int .i64 x, .int .i64 y, .int .i64 d, .int .i64 y0, .int .i64 y1, .int .i64 rm, .int .i64 h0, .int .i64 h1, .int .i64 ow] 62)) := (Ext.refl _).alloc _
  obtain ⟨f0, _⟩ := (Ext.refl _).box hbx
  have E1 := Lib.hid e1
  have E2 := Lib.hid e2
  have E3 := Lib.hid e3
  have E4 := Lib.hid e4
  have E5 := Lib.hid e5
  have E6 := Lib.hid e6
  clear e1 e2 e3 e4 e5 e6
  have gg1 := trivial
  cases P1
  rotate_left
  cases P2
  rotate_left
  cases P3
  rotate_left
  cases P4
  rotate_left
  cases P5
  rotate_left
  cases P6
  all_goals
    go_enter Tryz.func121, Tryz.ntmps121
    go_wp2_with (first | (go_at_call 79; first | (have q := gg1; clear q gg1; refine (fromW2 (alloc_at _ _ _ (by simp)) E1.out).mono ?_; rintro e w1 ⟨rfl, hx1⟩; replace hbx := hx1.heap (((Ext.refl _).alloc _).heap hbx); replace hxa := (hxa.alloc _).trans hx1; clear hx1 f0; obtain ⟨f0, _⟩ := (Ext.refl _).box hbx) | (refine (fromW1 (alloc_at _ _ _ (by simp)) (by first | exact E2.out | exact E4.out | exact E6.out)).mono ?_; rintro e w1 ⟨rfl, hx1⟩; replace hbx := hx1.heap (((Ext.refl _).alloc _).heap hbx); replace hxa := (hxa.alloc _).trans hx1; clear hx1 f0; obtain ⟨f0, _⟩ := (Ext.refl _).box hbx)) | (go_at_call 110; refine (ordW1 (alloc_at _ _ _ (by simp)) (by first | exact E3.out | exact E5.out)).mono ?_; rintro e w1 ⟨rfl, hx1⟩; replace hbx := hx1.heap (((Ext.refl _).alloc _).heap hbx); replace hxa := (hxa.alloc _).trans hx1; clear hx1 f0; obtain ⟨f0, _⟩ := (Ext.refl _).box hbx))
    go_ret
    exact ⟨rfl, hxa⟩
/-- Check$1 -/
theorem undug_any (s : Well) (w : World) : Calls Tryz.prog 120 #[s.val] w fun e w' => e = .returned (.bool (!wellOk s)) ∧ Ext w w' := by
  have hc := fun W => dug_any s W
  obtain ⟨P, hP⟩ : ∃ P, wellOk s = P := ⟨_, rfl⟩
  rw [hP] at hc ⊢
  clear hP
  obtain ⟨x, y, d, ⟨y0, y1⟩, rm, ⟨h0, h1⟩, ow⟩ := s
  unfold Well.val at *
  simp only at *
  have Hc := Lib.hid hc
  clear hc
  go_enter Tryz.func120, Tryz.ntmps120
  go_wp2_with (go_at_call 121; refine (Hc.out _).mono ?_; rintro e w1 ⟨rfl, hx1⟩)
  go_ret
  exact ⟨rfl, ((Ext.refl _).alloc _).trans hx1⟩
end Go.Proofs.YtcoelhpmkhimpaaGreat

/- Contracts of layer 3: whether a land is valid (trodden, Check), open. -/
namespace Go.Proofs.YtcoelhpmkhimpaaGreat
open Go.RowKit
set_option linter.unusedVariables false
set_option linter.unusedSimpArgs false
def legVal (x : Leg) (ka : Option Addr) (kn kc : Nat) : Value := .agg #[.int .i64 x.frm, .int .i64 x.to, .int .i64 x.long.lo, .int .i64 x.long.hi, .slice ka kn kc]
theorem gates_drop {l : List Gate} {k : Nat} {g : Gate} {nx : Int} (h : l[k]? = some g) : gatesOk nx (l.drop k) = ((spanOk g.opens 0 100000 && spanOk g.shuts 0 100000) && inB g.opens.lo nx g.shuts.hi && gatesOk (g.shuts.hi + 1) (l.drop (k + 1))) := by
  have hk := (List.getElem?_eq_some_iff.1 h).1
  have e : l.drop k = g :: l.drop (k + 1) := by
    rw [List.drop_eq_getElem_cons hk]
    congr 1
    have := List.getElem?_eq_getElem hk
    rw [h] at this
    exact (Option.some.inj this).symm
  rw [e]
  rfl
set_option maxRecDepth 100000 in
set_option maxHeartbeats 8000000 in
theorem trodden_any (x : Leg) (ka : Option Addr) (kn kc n : Nat) (w : World) (hg : GatesAt w ka kn x.gates) (hkc : kn ≤ kc) (hkm : kc ≤ maxLen) (hn : n ≤ 1000000000) :
    Calls Tryz.prog 124 #[legVal x ka kn kc, .int .i64 n] w fun e w' => e = .returned (.bool (legOk n x)) ∧ Ext w w' := by
  have hgl := hg.1
  unfold maxLen at hkm
  have hdef : legOk n x = ((inB x.frm 0 (n - 1) && inB x.to 0 (n - 1)) && !(x.frm == x.to) && spanOk x.long 1 1000000 && decide (kn ≤ 6) && gatesOk 0 x.gates) := by
    unfold legOk
    rw [hgl]
    rfl
  obtain ⟨R, hR⟩ : ∃ R, legOk n x = R := ⟨_, rfl⟩
  rw [hR] at hdef ⊢
  clear hR
  obtain ⟨fr, tw, ⟨l0, l1⟩, gs⟩ := x
  simp only at hdef hg hgl
  unfold legVal
  simp only
  obtain ⟨P1, e1⟩ : ∃ P, (inB fr 0 (n - 1) && inB tw 0 (n - 1)) = P := ⟨_, rfl⟩
  obtain ⟨P2, e2⟩ : ∃ P, (fr == tw) = P := ⟨_, rfl⟩
  obtain ⟨P3, e3⟩ : ∃ P, spanOk ⟨l0, l1⟩ 1 1000000 = P := ⟨_, rfl⟩
  obtain ⟨P4, e4⟩ : ∃ P, decide (kn ≤ 6) = P := ⟨_, rfl⟩
  rw [e1, e2, e3, e4] at hdef
  have hbx := heap_alloc_new w (.cells #[.int .i64 fr, .int .i64 tw, .int .i64 l0, .int .i64 l1, .slice ka kn kc] 101)
  have hxa : Ext w (w.alloc (.cells #[.int .i64 fr, .int .i64 tw, .int .i64 l0, .int .i64 l1, .slice ka kn kc] 101)) := (Ext.refl _).alloc _
  obtain ⟨f0, _⟩ := (Ext.refl _).box hbx
  have h4 : P4 = false → decide ((6 : Int) < (kn : Int)) = true := fun h => by subst h; simp at e4; simp; omega
  have h4' : P4 = false → decide (6 < kn) = true := fun h => by subst h; simp at e4; simp; omega
  have h5 : P4 = true → decide ((6 : Int) < (kn : Int)) = false := fun h => by subst h; simp at e4; simp; omega
  have h5' : P4 = true → decide (6 < kn) = false := fun h => by subst h; simp at e4; simp; omega
  have E1 := Lib.hid e1
  have E3 := Lib.hid e3
  have Hdef := Lib.hid hdef
  have Hg := Lib.hid hg
  have Hgl := Lib.hid hgl
  have H4 := Lib.hid h4
  have H4' := Lib.hid h4'
  have H5 := Lib.hid h5
  have H5' := Lib.hid h5'
  clear e1 e3 hdef hg hgl h4 h4' h5 h5'
  clear e4
  have gg1 := trivial
  cases P1
  rotate_left
  cases P2
  cases P3
  rotate_left
  cases P4
  rotate_left
  · have h6 := H5.out rfl
    have h6' := H5'.out rfl
    have hdf := Hdef.out
    simp only [Bool.true_and, Bool.not_false] at hdf
    have Hdf := Lib.hid hdf
    clear hdf
    clear Hdef H4 H4' H5 H5'
    go_enter Tryz.func124, Tryz.ntmps124
    go_upto_region 5 with (first | (go_at_call 79; refine (fromW2 (alloc_at _ _ _ (by simp)) E1.out).mono ?_; rintro e w1 ⟨rfl, hx1⟩; replace hbx := hx1.heap (((Ext.refl _).alloc _).heap hbx); replace hxa := (hxa.alloc _).trans hx1; clear hx1 f0; obtain ⟨f0, _⟩ := (Ext.refl _).box hbx) | (go_at_call 110; refine (ordW1 (alloc_at _ _ _ (by simp)) E3.out).mono ?_; rintro e w1 ⟨rfl, hx1⟩; replace hbx := hx1.heap (((Ext.refl _).alloc _).heap hbx); replace hxa := (hxa.alloc _).trans hx1; clear hx1 f0; obtain ⟨f0, _⟩ := (Ext.refl _).box hbx))
    rename_i wz
    have Hxa := Lib.hid hxa
    clear hxa
    clear f0 hbx
    go_loopw [40, 5] (fun i nx wr => ∃ (k : Nat) (z : Int), k ≤ kn ∧ i = .int .i64 k ∧ nx = .int .i64 z ∧ Ext w wr ∧ 0 ≤ z ∧ z ≤ 100001 ∧ gatesOk 0 gs = gatesOk z (gs.drop k)) (fun i _ _ => kn - (intOf i).toNat)
    case atStart => exact ⟨0, 0, Nat.zero_le _, rfl, rfl, Hxa.out, by omega, by omega, rfl⟩
    case round =>
      clear Hxa
      obtain ⟨k, z, hk, rfl, rfl, hx, hz0, hz1, hgk⟩ := hrel
      by_cases hlt : k < kn
      · obtain ⟨b, off, g, rfl, hgg, hb, c0, c1, c2, c3⟩ := (Hg.out.ext hx).get k hlt
        rw [gates_drop hgg] at hgk
        obtain ⟨⟨o0, o1⟩, ⟨s0, s1⟩⟩ := g
        simp only at c0 c1 c2 c3 hgk
        obtain ⟨P5, e5⟩ : ∃ P, (spanOk ⟨o0, o1⟩ 0 100000 && spanOk ⟨s0, s1⟩ 0 100000) = P := ⟨_, rfl⟩
        obtain ⟨P6, e6⟩ : ∃ P, inB o0 z s1 = P := ⟨_, rfl⟩
        rw [e5, e6] at hgk
        have hbx := heap_alloc_new wr (.cells #[.int .i64 o0, .int .i64 o1, .int .i64 s0, .int .i64 s1] 137)
        have hxa : Ext w (wr.alloc (.cells #[.int .i64 o0, .int .i64 o1, .int .i64 s0, .int .i64 s1] 137)) := hx.alloc _
        obtain ⟨f0, _⟩ := (Ext.refl _).box hbx
        have hs1 : P5 = true → 0 ≤ s1 ∧ s1 ≤ 100000 := fun h => by
          rw [h, Bool.and_eq_true] at e5
          have := spanIs e5.2
          exact ⟨Int.le_trans this.low this.ord, this.top⟩
        have E5 := Lib.hid e5
        have E6 := Lib.hid e6
        have Hgk := Lib.hid hgk
        have Hx := Lib.hid hx
        have Hs1 := Lib.hid hs1
        clear e5 e6 hgk hx hs1
        clear hgg
        cases P5
        rotate_left
        cases P6
        rotate_left
        · have hs := Hs1.out rfl
          have hgn := Hgk.out
          simp only [Bool.true_and] at hgn
          have Hgn := Lib.hid hgn
          clear hgn
          clear Hgk
          go_wp2_with (first | (go_at_call 79; refine (fromW1 (alloc_at _ _ _ (by simp)) E6.out).mono ?_; rintro e w1 ⟨rfl, hx1⟩; replace hbx := hx1.heap (((Ext.refl _).alloc _).heap hbx); replace hxa := (hxa.alloc _).trans hx1; clear hx1 f0; obtain ⟨f0, _⟩ := (Ext.refl _).box hbx) | (go_at_call 110; refine (ordW2 (alloc_at _ _ _ (by simp)) E5.out).mono ?_; rintro e w1 ⟨rfl, hx1⟩; replace hbx := hx1.heap (((Ext.refl _).alloc _).heap hbx); replace hxa := (hxa.alloc _).trans hx1; clear hx1 f0; obtain ⟨f0, _⟩ := (Ext.refl _).box hbx))
          go_roundw
          case rel => exact ⟨k + 1, s1 + 1, by omega, by go_num, rfl, hxa, by omega, by omega, Hgn.out⟩
          case measure => simp [intOf]; omega
        all_goals
          have hR : R = false := by rw [Hdf.out, Hgk.out]; simp
          subst hR
          go_wp2_with (first | (go_at_call 79; refine (fromW1 (alloc_at _ _ _ (by simp)) E6.out).mono ?_; rintro e w1 ⟨rfl, hx1⟩; replace hbx := hx1.heap (((Ext.refl _).alloc _).heap hbx); replace hxa := (hxa.alloc _).trans hx1; clear hx1 f0; obtain ⟨f0, _⟩ := (Ext.refl _).box hbx) | (go_at_call 110; refine (ordW2 (alloc_at _ _ _ (by simp)) E5.out).mono ?_; rintro e w1 ⟨rfl, hx1⟩; replace hbx := hx1.heap (((Ext.refl _).alloc _).heap hbx); replace hxa := (hxa.alloc _).trans hx1; clear hx1 f0; obtain ⟨f0, _⟩ := (Ext.refl _).box hbx))
          go_ret
          exact ⟨rfl, hxa⟩
      · have hR : R = true := by
          rw [Hdf.out, hgk, List.drop_of_length_le (by have := Hgl.out; omega)]
          rfl
        subst hR
        go_wp2_with fail
        go_ret
        exact ⟨rfl, hx⟩
  all_goals
    have hR : R = false := by rw [Hdef.out]; simp
    subst hR
    try have h6 := H4.out rfl
    try have h6' := H4'.out rfl
    clear Hdef H4 H4' H5 H5'
    go_enter Tryz.func124, Tryz.ntmps124
    go_wp2_with (first | (go_at_call 79; refine (fromW2 (alloc_at _ _ _ (by simp)) E1.out).mono ?_; rintro e w1 ⟨rfl, hx1⟩; replace hbx := hx1.heap (((Ext.refl _).alloc _).heap hbx); replace hxa := (hxa.alloc _).trans hx1; clear hx1 f0; obtain ⟨f0, _⟩ := (Ext.refl _).box hbx) | (go_at_call 110; refine (ordW1 (alloc_at _ _ _ (by simp)) E3.out).mono ?_; rintro e w1 ⟨rfl, hx1⟩; replace hbx := hx1.heap (((Ext.refl _).alloc _).heap hbx); replace hxa := (hxa.alloc _).trans hx1; clear hx1 f0; obtain ⟨f0, _⟩ := (Ext.refl _).box hbx))
    go_ret
    exact ⟨rfl, hxa⟩
/-- a land's value: the slices of its wells and of its legs -/
structure LandAt (w : World) (wa : Option Addr) (wn wc : Nat) (la : Option Addr) (ln lc : Nat) (l : Land) : Prop where
  wells : WellsAt w wa wn l.wells
  legs : LegsAt w la ln l.legs
  c1 : wn ≤ wc
  c2 : wc ≤ maxLen
  c3 : ln ≤ lc
  c4 : lc ≤ maxLen
  n1 : wn ≤ 1000000000
  n2 : ln ≤ 1000000000
theorem LandAt.ext {w w' : World} {wa : Option Addr} {wn wc : Nat} {la : Option Addr} {ln lc : Nat} {l : Land} (h : LandAt w wa wn wc la ln lc l) (e : Ext w w') : LandAt w' wa wn wc la ln lc l := ⟨h.wells.ext e, h.legs.ext e, h.c1, h.c2, h.c3, h.c4, h.n1, h.n2⟩
set_option maxRecDepth 100000 in
theorem untrod_any (x : Leg) (ka : Option Addr) (kn kc q : Nat) (wa : Option Addr) (wn wc : Nat) (la : Option Addr) (ln lc : Nat) (w : World) (hg : GatesAt w ka kn x.gates) (hkc : kn ≤ kc) (hkm : kc ≤ maxLen) (hn : wn ≤ 1000000000) (hnc : wn ≤ wc) (hwc : wc ≤ maxLen) (hq : w.heap[q]? = some (.cells #[.slice wa wn wc, .slice la ln lc] 57 (0, 0))) :
    Calls Tryz.prog 123 #[.agg #[.int .i64 x.frm, .int .i64 x.to, .int .i64 x.long.lo, .int .i64 x.long.hi, .slice ka kn kc], .pointer (some ⟨q, 0, none⟩)] w fun e w' => e = .returned (.bool (!legOk wn x)) ∧ Ext w w' := by
  have hx1 : Ext w (w.alloc (.cells #[.int .i64 x.frm, .int .i64 x.to, .int .i64 x.long.lo, .int .i64 x.long.hi, .slice ka kn kc] 101)) := (Ext.refl _).alloc _
  have ht := trodden_any x ka kn kc wn _ (hg.ext hx1) hkc hkm hn
  obtain ⟨P, hP⟩ : ∃ P, legOk wn x = P := ⟨_, rfl⟩
  rw [hP] at ht ⊢
  have hql := heap_lt hq
  have hqq := hx1.heap hq
  obtain ⟨z, _⟩ := (Ext.refl _).box hq
  unfold legVal at ht
  obtain ⟨fr, tw, ⟨l0, l1⟩, gs⟩ := x
  simp only at *
  have Ht := Lib.hid ht
  have Hx1 := Lib.hid hx1
  have Hqq := Lib.hid hqq
  clear ht hx1 hqq
  clear hg hq hP
  go_enter Tryz.func123, Tryz.ntmps123
  go_wp2_with (go_at_call 124; refine Ht.out.mono ?_; rintro e w1 ⟨rfl, hx⟩)
  go_ret
  exact ⟨rfl, Hx1.out.trans hx⟩
def landErr (l : Land) : Int := if landOk l then 0 else 30
set_option maxRecDepth 100000 in
set_option maxHeartbeats 8000000 in
theorem checkLand_any (wa : Option Addr) (wn wc : Nat) (la : Option Addr) (ln lc : Nat) (l : Land) (w : World) (h : LandAt w wa wn wc la ln lc l) : Calls Tryz.prog 109 #[.agg #[.slice wa wn wc, .slice la ln lc]] w fun e w' => e = .returned (.int .i64 (landErr l)) ∧ Ext w w' := by
  have hx1 : Ext w (w.alloc (.cells #[.slice wa wn wc, .slice la ln lc] 57)) := (Ext.refl _).alloc _
  have hb1 := heap_alloc_new w (.cells #[.slice wa wn wc, .slice la ln lc] 57)
  have hcw := contains_well100 wa wn wc l.wells (fun x => !wellOk x) _ (h.wells.ext hx1) h.n1 (fun o _ W _ => undug_any o W)
  have hcl := fun W (hW : Ext (w.alloc (.cells #[.slice wa wn wc, .slice la ln lc] 57)) W) => contains_leg103 la ln lc w.heap.size l.legs (fun x => !legOk wn x) W ((h.legs.ext hx1).ext hW) h.n2 (fun o _ W' ka kn kc hW' h1 h2 h3 => untrod_any o ka kn kc w.heap.size wa wn wc la ln lc W' h3 h1 h2 h.n1 h.c1 h.c2 ((hW.trans hW').heap hb1))
  have hwl := h.wells.1
  have hll := h.legs.1
  have d1 := h.c1
  have d2 := h.c2
  have d3 := h.c3
  have d4 := h.c4
  unfold maxLen at d2 d4
  have hdef : landErr l = if (inB (wn : Int) 1 12 && decide (ln ≤ 24) && !(l.wells.any fun x => !wellOk x) && !(l.legs.any fun x => !legOk wn x)) then 0 else 30 := by
    unfold landErr landOk
    rw [hwl, hll, any_not, any_not]
    congr 1
    unfold inB
    rw [show (decide (1 ≤ wn) : Bool) = decide ((1 : Int) ≤ wn) by simp; omega, show (decide (wn ≤ 12) : Bool) = decide ((wn : Int) ≤ 12) by simp; omega]
  rw [hdef]
  clear hdef
  obtain ⟨P3, e3⟩ : ∃ P, (l.wells.any fun x => !wellOk x) = P := ⟨_, rfl⟩
  obtain ⟨P4, e4⟩ : ∃ P, (l.legs.any fun x => !legOk wn x) = P := ⟨_, rfl⟩
  rw [e3] at hcw ⊢
  rw [e4] at hcl ⊢
  obtain ⟨P1, e1⟩ : ∃ P, inB (wn : Int) 1 12 = P := ⟨_, rfl⟩
  rw [e1]
  have hz := ((Ext.refl _).box hb1).1
  have Hcw := Lib.hid hcw
  have Hcl := Lib.hid hcl
  have Hx1 := Lib.hid hx1
  have Hb1 := Lib.hid hb1
  have E1 := Lib.hid e1
  clear hcw hcl hx1 hb1 e1
  clear e3 e4 hwl hll h
  by_cases h24 : ln ≤ 24
  · have h24B : decide ((24 : Int) < (ln : Int)) = false := by simp; omega
    have h24C : decide (24 < ln) = false := by simp; omega
    have h24D : decide (ln ≤ 24) = true := by simpa using h24
    rw [h24D]
    clear h24 h24D
    cases P1 <;> cases P3 <;> cases P4
    all_goals
      simp only [Bool.and_false, Bool.false_and, Bool.and_true, Bool.true_and, if_true, Bool.false_eq_true, if_false, Bool.not_true, Bool.not_false]
      go_enter Tryz.func109, Tryz.ntmps109
      go_wp2_with (first | (go_at_call 119; refine Hcw.out.mono ?_; rintro e w1 ⟨rfl, hx2⟩; obtain ⟨z2, _⟩ := (Ext.refl _).box (hx2.heap Hb1.out)) | (go_at_call 122; refine (Hcl.out _ hx2).mono ?_; rintro e w2 ⟨rfl, hx3⟩; obtain ⟨z3, _⟩ := (Ext.refl _).box ((hx2.trans hx3).heap Hb1.out)) | (go_at_call 79; refine (fromW1 (alloc_at _ _ _ (by simp)) E1.out).mono ?_; rintro e w3 ⟨rfl, hx4⟩; obtain ⟨z4, _⟩ := (Ext.refl _).box ((((hx2.trans hx3).alloc _).trans hx4).heap Hb1.out)))
      go_ret
      exact ⟨rfl, Hx1.out.trans (((hx2.trans hx3).alloc _).trans hx4)⟩
  · have h24B : decide ((24 : Int) < (ln : Int)) = true := by simp; omega
    have h24C : decide (24 < ln) = true := by simp; omega
    have h24D : decide (ln ≤ 24) = false := by simpa using h24
    rw [h24D]
    clear h24 h24D
    cases P1
    all_goals
      simp only [Bool.and_false, Bool.false_and, Bool.and_true, Bool.true_and, if_true, Bool.false_eq_true, if_false]
      go_enter Tryz.func109, Tryz.ntmps109
      go_wp2_with (first | (go_at_call 119; refine Hcw.out.mono ?_; rintro e w1 ⟨rfl, hx2⟩; obtain ⟨z2, _⟩ := (Ext.refl _).box (hx2.heap Hb1.out)) | (go_at_call 122; refine (Hcl.out _ hx2).mono ?_; rintro e w2 ⟨rfl, hx3⟩; obtain ⟨z3, _⟩ := (Ext.refl _).box ((hx2.trans hx3).heap Hb1.out)) | (go_at_call 79; refine (fromW1 (alloc_at _ _ _ (by simp)) E1.out).mono ?_; rintro e w3 ⟨rfl, hx4⟩; obtain ⟨z4, _⟩ := (Ext.refl _).box ((((hx2.trans hx3).alloc _).trans hx4).heap Hb1.out)))
      go_ret
      exact ⟨rfl, Hx1.out.trans (((hx2.trans hx3).alloc _).trans hx4)⟩
end Go.Proofs.YtcoelhpmkhimpaaGreat

/- Contracts of layer 3: open, the days of a leg, the first of some days. -/
namespace Go.Proofs.YtcoelhpmkhimpaaGreat
open Go.RowKit
set_option linter.unusedVariables false
set_option linter.unusedSimpArgs false
def openErr (l : Land) (p : Span) : Int := if landOk l then (if paceOk p then 0 else 31) else 30
def openVal (wa : Option Addr) (wn wc : Nat) (la : Option Addr) (ln lc : Nat) (l : Land) (p : Span) : Value := if openErr l p = 0 then .agg #[.slice wa wn wc, .slice la ln lc, .int .i64 p.lo, .int .i64 p.hi] else .agg #[.slice none 0 0, .slice none 0 0, .int .i64 0, .int .i64 0]
theorem set4c_box {W : World} {b : Nat} {x0 y0 z0 u0 : Value} {T : TypeId} (h : W.heap[b]? = some (.cells #[x0, y0, z0, u0] T (0, 0))) (x y z u : Value) : ((((W.setCell ⟨b, 0, none⟩ x).setCell ⟨b, 1, none⟩ y).setCell ⟨b, 2, none⟩ z).setCell ⟨b, 3, none⟩ u).heap[b]? = some (.cells #[x, y, z, u] T (0, 0)) := by
  rw [heap_setCell_box, heap_setCell_box, heap_setCell_box, heap_setCell_box, h]
  rfl
set_option maxRecDepth 100000 in
set_option maxHeartbeats 8000000 in
theorem open_any (wa : Option Addr) (wn wc : Nat) (la : Option Addr) (ln lc : Nat) (l : Land) (p : Span) (w : World) (h : LandAt w wa wn wc la ln lc l) : Calls Tryz.prog 78 #[.agg #[.slice wa wn wc, .slice la ln lc], p.val] w fun e w' => e = .returned (.tuple #[openVal wa wn wc la ln lc l p, .int .i64 (openErr l p)]) ∧ Ext w w' := by
  have hcl := fun W (hW : Ext w W) => checkLand_any wa wn wc la ln lc l W (h.ext hW)
  have hr : openErr l p = if landErr l = 0 then (if paceOk p then 0 else 31) else landErr l := by
    unfold openErr landErr
    by_cases q : landOk l = true <;> simp [q]
  have hv : openVal wa wn wc la ln lc l p = if openErr l p = 0 then .agg #[.slice wa wn wc, .slice la ln lc, .int .i64 p.lo, .int .i64 p.hi] else .agg #[.slice none 0 0, .slice none 0 0, .int .i64 0, .int .i64 0] := rfl
  have hK : landErr l = 0 ∨ landErr l = 30 := by unfold landErr; split <;> simp
  obtain ⟨K, hk⟩ : ∃ K, landErr l = K := ⟨_, rfl⟩
  obtain ⟨V, hV⟩ : ∃ V, openVal wa wn wc la ln lc l p = V := ⟨_, rfl⟩
  obtain ⟨E, hE⟩ : ∃ E, openErr l p = E := ⟨_, rfl⟩
  rw [hV, hE] at hv
  rw [hE] at hr
  rw [hk] at hcl hr hK
  rw [hV, hE]
  clear hk hV hE h
  obtain ⟨p0, p1⟩ := p
  obtain ⟨P1, e1⟩ : ∃ P, spanOk ⟨p0, p1⟩ 1 100000 = P := ⟨_, rfl⟩
  unfold paceOk at hr
  rw [e1] at hr
  unfold Span.val
  simp only at *
  obtain ⟨W0, hW0⟩ : ∃ W0, ((w.alloc (.cells #[.slice wa wn wc, .slice la ln lc] 57)).alloc (.cells #[.int .i64 p0, .int .i64 p1] 27)).alloc (.cells #[.slice none 0 0, .slice none 0 0, .int .i64 0, .int .i64 0] 153) = W0 := ⟨_, rfl⟩
  have hx0 : Ext w W0 := by rw [← hW0]; exact (((Ext.refl w).alloc _).alloc _).alloc _
  have hb0 : W0.heap[w.heap.size]? = some (.cells #[.slice wa wn wc, .slice la ln lc] 57 (0, 0)) := by rw [← hW0]; exact alloc_heap (alloc_heap (heap_alloc_new w _) _) _
  have hb1 : W0.heap[w.heap.size + 1]? = some (.cells #[.int .i64 p0, .int .i64 p1] 27 (0, 0)) := by rw [← hW0]; exact alloc_heap (alloc_at _ _ _ (by simp)) _
  have hb2 : W0.heap[w.heap.size + 1 + 1]? = some (.cells #[.slice none 0 0, .slice none 0 0, .int .i64 0, .int .i64 0] 153 (0, 0)) := by rw [← hW0]; exact alloc_at _ _ _ (by simp)
  obtain ⟨z0, _⟩ := (Ext.refl W0).box hb0
  have Hcl := Lib.hid hcl
  have Hx0 := Lib.hid hx0
  have Hb0 := Lib.hid hb0
  have Hb1 := Lib.hid hb1
  have Hb2 := Lib.hid hb2
  have E1 := Lib.hid e1
  clear hcl hx0 hb0 hb1 hb2 e1
  rcases hK with rfl | rfl
  · rw [if_pos rfl] at hr
    cases P1
    · simp only [Bool.false_eq_true, if_false] at hr
      subst hr
      rw [if_neg (by decide)] at hv
      subst hv
      go_enter Tryz.func78, Tryz.ntmps78
      go_wp2_with (first | (go_at_call 109; refine (Hcl.out _ Hx0.out).mono ?_; rintro e w1 ⟨rfl, hx1⟩; clear hW0 z0; obtain ⟨z1, _⟩ := (Ext.refl w1).box (hx1.heap Hb1.out)) | (go_at_call 110; refine (ordW1 (alloc_at _ _ _ (by simp)) E1.out).mono ?_; rintro e w2 ⟨rfl, hx2⟩; have hx02 := (hx1.alloc _).trans hx2; have hr2 := hx02.heap Hb2.out; have hrl := heap_lt hr2; obtain ⟨z2, z3⟩ := (Ext.refl w2).box hr2))
      refine bodyPost_ret (results_cell_tmp (P := Tryz.prog) (fn := Tryz.f78) rfl _ _ (w.heap.size + 1 + 1) 153 #[.slice none 0 0, .slice none 0 0, .int .i64 0, .int .i64 0] (0, 0) _ rfl (set4c_box hr2 _ _ _ _) Tryz.underlying153 rfl (by kernel_rfl)) rfl ?_
      exact ⟨rfl, ((((Hx0.out.trans hx02).setCell (p := ⟨w.heap.size + 1 + 1, 0, none⟩) (by simp only; omega) _).setCell (p := ⟨w.heap.size + 1 + 1, 1, none⟩) (by simp only; omega) _).setCell (p := ⟨w.heap.size + 1 + 1, 2, none⟩) (by simp only; omega) _).setCell (p := ⟨w.heap.size + 1 + 1, 3, none⟩) (by simp only; omega) _⟩
    · simp only [if_true] at hr
      subst hr
      rw [if_pos rfl] at hv
      subst hv
      go_enter Tryz.func78, Tryz.ntmps78
      go_wp2_with (first | (go_at_call 109; refine (Hcl.out _ Hx0.out).mono ?_; rintro e w1 ⟨rfl, hx1⟩; clear hW0 z0; obtain ⟨z1, _⟩ := (Ext.refl w1).box (hx1.heap Hb1.out)) | (go_at_call 110; refine (ordW1 (alloc_at _ _ _ (by simp)) E1.out).mono ?_; rintro e w2 ⟨rfl, hx2⟩; have hx02 := (hx1.alloc _).trans hx2; have hr2 := hx02.heap Hb2.out; have hrl := heap_lt hr2; obtain ⟨z2, z3⟩ := (Ext.refl w2).box hr2; obtain ⟨z4, _⟩ := (Ext.refl w2).box (hx02.heap Hb0.out); obtain ⟨z5, _⟩ := (Ext.refl w2).box (hx02.heap Hb1.out)))
      refine bodyPost_ret (results_cell_tmp (P := Tryz.prog) (fn := Tryz.f78) rfl _ _ (w.heap.size + 1 + 1) 153 #[.slice wa wn wc, .slice la ln lc, .int .i64 p0, .int .i64 p1] (0, 0) _ rfl (set4c_box hr2 _ _ _ _) Tryz.underlying153 rfl (by kernel_rfl)) rfl ?_
      exact ⟨rfl, ((((Hx0.out.trans hx02).setCell (p := ⟨w.heap.size + 1 + 1, 0, none⟩) (by simp only; omega) _).setCell (p := ⟨w.heap.size + 1 + 1, 1, none⟩) (by simp only; omega) _).setCell (p := ⟨w.heap.size + 1 + 1, 2, none⟩) (by simp only; omega) _).setCell (p := ⟨w.heap.size + 1 + 1, 3, none⟩) (by simp only; omega) _⟩
  · rw [if_neg (by decide)] at hr
    subst hr
    rw [if_neg (by decide)] at hv
    subst hv
    go_enter Tryz.func78, Tryz.ntmps78
    go_wp2_with (go_at_call 109; refine (Hcl.out _ Hx0.out).mono ?_; rintro e w1 ⟨rfl, hx1⟩; have hr2 := hx1.heap Hb2.out; have hrl := heap_lt hr2; obtain ⟨z2, z3⟩ := (Ext.refl w1).box hr2)
    refine bodyPost_ret (results_cell_tmp (P := Tryz.prog) (fn := Tryz.f78) rfl _ _ (w.heap.size + 1 + 1) 153 #[.slice none 0 0, .slice none 0 0, .int .i64 0, .int .i64 0] (0, 0) _ rfl (set4c_box hr2 _ _ _ _) Tryz.underlying153 rfl (by kernel_rfl)) rfl ?_
    exact ⟨rfl, ((((Hx0.out.trans hx1).setCell (p := ⟨w.heap.size + 1 + 1, 0, none⟩) (by simp only; omega) _).setCell (p := ⟨w.heap.size + 1 + 1, 1, none⟩) (by simp only; omega) _).setCell (p := ⟨w.heap.size + 1 + 1, 2, none⟩) (by simp only; omega) _).setCell (p := ⟨w.heap.size + 1 + 1, 3, none⟩) (by simp only; omega) _⟩
theorem upq_bd {a b : Int} (ha : 0 ≤ a) (hb : 0 < b) : 0 ≤ upq a b ∧ upq a b ≤ a + 1 := by
  have h1 := upq_mul (a := a) (d := b) hb
  have h2 : 0 ≤ upq a b := upq_nonneg hb ha
  refine ⟨h2, ?_⟩
  rcases Int.lt_or_le (a + 1) (upq a b) with h | h
  · have h4 : upq a b - 1 ≤ (upq a b - 1) * b := by
      have := Int.mul_le_mul_of_nonneg_left (show 1 ≤ b by omega) (show 0 ≤ upq a b - 1 by omega)
      omega
    rw [Int.sub_mul] at h4
    omega
  · exact h
set_option maxRecDepth 100000 in
set_option maxHeartbeats 8000000 in
theorem legDays_any (wa : Option Addr) (wn wc : Nat) (la : Option Addr) (ln lc : Nat) (legs : List Leg) (p : Span) (g : Nat) (x : Leg) (w : World) (h : LegsAt w la ln legs) (hx : legs[g]? = some x) (hl : SpanIs x.long 1 1000000) (hp : SpanIs p 1 100000) (hlc : ln ≤ lc) (hlm : lc ≤ maxLen) :
    Calls Tryz.prog 80 #[.agg #[.slice wa wn wc, .slice la ln lc, .int .i64 p.lo, .int .i64 p.hi], .int .i64 g] w fun e w' => e = .returned (legDays x p).val ∧ Ext w w' := by
  have hgn : g < ln := by have := (List.getElem?_eq_some_iff.1 hx).1; have := h.1; omega
  obtain ⟨b, off, x', ka, kn, kc, rfl, hx', hb, c0, c1, c2, c3, c4, -, -, -⟩ := h.get g hgn
  rw [hx] at hx'
  cases hx'
  unfold maxLen at hlm
  obtain ⟨fr, tw, ⟨l0, l1⟩, gs⟩ := x
  obtain ⟨p0, p1⟩ := p
  obtain ⟨q1, q2, q3⟩ := hl
  obtain ⟨r1, r2, r3⟩ := hp
  unfold legDays Span.val
  simp only at *
  have hA := upq_bd (a := l0) (b := p1) (by omega) (by omega)
  have hB := upq_bd (a := l1) (b := p0) (by omega) (by omega)
  unfold upq at hA hB ⊢
  have z1 : (p1 == 0) = false := by simp; omega
  have z2 : (p0 == 0) = false := by simp; omega
  obtain ⟨W0, hW0⟩ : ∃ W0, ((w.alloc (.cells #[.slice wa wn wc, .slice (some ⟨b, off, none⟩) ln lc, .int .i64 p0, .int .i64 p1] 153)).alloc (.cells #[.int .i64 0, .int .i64 0] 157)).alloc (.cells #[.int .i64 l0, .int .i64 l1] 27) = W0 := ⟨_, rfl⟩
  have hx0 : Ext w W0 := by rw [← hW0]; exact (((Ext.refl w).alloc _).alloc _).alloc _
  have hc0 : W0.heap[w.heap.size]? = some (.cells #[.slice wa wn wc, .slice (some ⟨b, off, none⟩) ln lc, .int .i64 p0, .int .i64 p1] 153 (0, 0)) := by rw [← hW0]; exact alloc_heap (alloc_heap (heap_alloc_new w _) _) _
  have hr0 : W0.heap[w.heap.size + 1]? = some (.cells #[.int .i64 0, .int .i64 0] 157 (0, 0)) := by rw [← hW0]; exact alloc_heap (alloc_at _ _ _ (by simp)) _
  have hl0 : W0.heap[w.heap.size + 1 + 1]? = some (.cells #[.int .i64 l0, .int .i64 l1] 27 (0, 0)) := by rw [← hW0]; exact alloc_at _ _ _ (by simp)
  have Hx0 := Lib.hid hx0
  have Hc0 := Lib.hid hc0
  have Hr0 := Lib.hid hr0
  have Hl0 := Lib.hid hl0
  have HA := Lib.hid hA
  have HB := Lib.hid hB
  clear hx0 hc0 hr0 hl0 hA hB
  clear h hx
  go_enter Tryz.func80, Tryz.ntmps80
  go_upto_region 2 with fail
  clear hW0 c0 c1 c2 c3 c4
  have ha := HA.out
  have hb := HB.out
  refine wp_region_plan (.take [0, 1, 2, 3, 4, 5, 6, 7, 8, 9, 10, 11, 12, 13, 14, 15, 16, 17, 18, 19, 20, 21, 22] (.fin (.one 23 .done))) [23] (Ext W0) _ (by kernel_rfl) (by kernel_rfl) rfl (EC.ext W0) ((Ext.refl _).drew) ?_
  simp only [planOf, treeOf, oneOp, twoOp, opsOf, consOp, callOC, oneOC, twoOC, List.getElem?_toArray, List.getElem?_cons_succ, List.getElem?_cons_zero]
  intro ι _ f hf
  have f0 := fun q => ((hf q).box Hc0.out).1
  have f1 := fun q => ((hf q).box Hl0.out).1
  clear hf
  repeat (go_big_quiet_step (fail))
  refine wpQuiet_nil ?_
  clear f0 f1
  intro W1 hW1
  refine wpOT_one ?_
  have hr1 := hW1.heap Hr0.out
  have hrl := heap_lt hr1
  obtain ⟨y0, y1⟩ := (Ext.refl W1).box hr1
  go_wp2_with fail
  refine wpOT_done ?_
  go_wp2_with fail
  refine bodyPost_ret (results_cell_row rfl _ _ (w.heap.size + 1) 157 #[.int .i64 ((l0 + p1 - 1) / p1), .int .i64 ((l1 + p0 - 1) / p0)] (0, 0) _ rfl (set2_box hr1 _ _) Tryz.underlying157 rfl (by kernel_rfl)) rfl ?_
  exact ⟨rfl, set2_ext (Hx0.out.trans hW1) (by omega) _ _⟩
theorem bothSpan_any (a b : Int) (w : World) : Calls Tryz.prog 81 #[.agg #[.int .i64 a, .int .i64 b]] w fun e w' => e = .returned (.agg #[.int .i64 a, .int .i64 b]) ∧ Ext w w' := by
  go_enter Tryz.func81, Tryz.ntmps81
  go_wp2_with fail
  refine bodyPost_ret (results_cell_row rfl _ _ (w.heap.size + 1) 27 #[.int .i64 a, .int .i64 b] (0, 0) _ rfl (alloc_at _ _ _ (by simp)) Tryz.underlying27 rfl (by kernel_rfl)) rfl ?_
  exact ⟨rfl, ((Ext.refl _).alloc _).alloc _⟩
end Go.Proofs.YtcoelhpmkhimpaaGreat
