/- Contracts of layer 4's specification: whether areas and treks are valid; plain: when a well is found. -/
import Derived.Test.YtcoelhpmkhimpaaGreatVGr
import Derived.Test.YtcoelhpmkhimpaaGreatVGp
import Derived.BigQuiet
import Derived.Test.YtcoelhpmkhimpaaGreatVGa
namespace Go.Proofs.YtcoelhpmkhimpaaGreat
open Go.RowKit
set_option linter.unusedVariables false
set_option linter.unusedSimpArgs false
theorem within4_any (x lo hi : Int) (w : World) : Calls Tryz.prog 53 #[.int .i64 x, .int .i64 lo, .int .i64 hi] w fun e w' => e = .returned (.bool (inB x lo hi)) ∧ w' = w := by
  unfold inB
  by_cases h1 : lo ≤ x
  · have b1 : decide (lo ≤ x) = true := decide_eq_true h1
    go_enter Tryz.func53, Tryz.ntmps53
    go_wp2_with fail
    go_ret
    exact ⟨ret_bool (by first | rfl | (rw [b1]; rfl)), rfl⟩
  · have b1 : decide (lo ≤ x) = false := decide_eq_false h1
    go_enter Tryz.func53, Tryz.ntmps53
    go_wp2_with fail
    go_ret
    exact ⟨ret_bool (by first | rfl | (rw [b1]; rfl)), rfl⟩
theorem spanned4_any (s : Span) (lo hi : Int) (w : World) : Calls Tryz.prog 32 #[s.val, .int .i64 lo, .int .i64 hi] w fun e w' => e = .returned (.bool (spanOk s lo hi)) ∧ Ext w w' := by
  obtain ⟨x, y⟩ := s
  have h1 := fun W => within4_any x lo y W
  have hr : spanOk ⟨x, y⟩ lo hi = (inB x lo y && decide (y ≤ hi)) := rfl
  rw [hr]
  unfold Span.val
  cases hA : inB x lo y with
  | true =>
    rw [hA] at h1
    have H1 := Lib.hid h1
    clear h1
    clear hA hr
    go_enter Tryz.func32, Tryz.ntmps32
    go_wp2_with (go_at_call 53; refine (H1.out _).mono ?_; rintro e w1 ⟨rfl, rfl⟩; clear H1)
    go_ret
    exact ⟨rfl, (Ext.refl _).alloc _⟩
  | false =>
    rw [hA] at h1
    have H1 := Lib.hid h1
    clear h1
    clear hA hr
    go_enter Tryz.func32, Tryz.ntmps32
    go_wp2_with (go_at_call 53; refine (H1.out _).mono ?_; rintro e w1 ⟨rfl, rfl⟩; clear H1)
    go_ret
    exact ⟨rfl, (Ext.refl _).alloc _⟩
theorem area_of_all {l : List Half} {n : Nat} (hn : l.length = n) (h : ∀ j x, j < n → l[j]? = some x → halfOk x = true) : l.all halfOk = true := by
  rw [List.all_eq_true]
  intro x hx
  obtain ⟨j, hj, rfl⟩ := List.mem_iff_getElem.1 hx
  exact h j _ (by omega) (List.getElem?_eq_getElem hj)
theorem area_not {l : List Half} {j : Nat} {x : Half} (h : l[j]? = some x) (hx : halfOk x = false) : areaOk l = false := by
  have : l.all halfOk = false := by
    rw [Bool.eq_false_iff]
    intro e
    rw [List.all_eq_true.1 e x (List.mem_of_getElem? h)] at hx
    cases hx
  unfold areaOk
  rw [this, Bool.and_false]
set_option maxRecDepth 100000 in
set_option maxHeartbeats 4000000 in
theorem area_any (a : Option Addr) (len cap : Nat) (l : List Half) (w : World) (hl : HalvesAt w a len l) (hlen : len ≤ 100000) : Calls Tryz.prog 27 #[.agg #[.slice a len cap]] w fun e w' => e = .returned (.bool (areaOk l)) ∧ Ext w w' := by
  have hw := within4_any
  have hw1 := fun W => within4_any len 4 40 W
  have hll := hl.1
  have hb1 := heap_alloc_new w (.cells #[.slice a len cap] 24)
  cases hin : inB (len : Int) 4 40 with
  | false =>
    have hr : areaOk l = false := by
      unfold areaOk
      rw [Bool.eq_false_iff]
      intro h
      simp only [Bool.and_eq_true, decide_eq_true_eq] at h
      have : inB (len : Int) 4 40 = true := by
        simp only [inB, Bool.and_eq_true, decide_eq_true_eq]
        omega
      rw [hin] at this
      cases this
    rw [hr]
    rw [hin] at hw1
    have Hw1 := Lib.hid hw1
    clear hw1
    clear hl hw hr hin
    go_enter Tryz.func27, Tryz.ntmps27
    go_wp2_with (go_at_call 53; refine (Hw1.out _).mono ?_; rintro e w1 ⟨rfl, rfl⟩)
    go_ret
    exact ⟨rfl, (Ext.refl _).alloc _⟩
  | true =>
    rw [hin] at hw1
    have h4 : 4 ≤ len ∧ len ≤ 40 := by
      simp only [inB, Bool.and_eq_true, decide_eq_true_eq] at hin
      omega
    obtain ⟨W0, hW0⟩ : ∃ W0, w.alloc (.cells #[.slice a len cap] 24) = W0 := ⟨_, rfl⟩
    have hx0 : Ext w W0 := by rw [← hW0]; exact (Ext.refl w).alloc _
    have hb0 : W0.heap[w.heap.size]? = some (.cells #[.slice a len cap] 24 (0, 0)) := by rw [← hW0]; exact hb1
    obtain ⟨R, hR⟩ : ∃ R, areaOk l = R := ⟨_, rfl⟩
    rw [hR]
    have hc0 := ((Ext.refl W0).box hb0).1
    have Hw := Lib.hid hw
    have Hw1 := Lib.hid hw1
    have Hll := Lib.hid hll
    have Hx0 := Lib.hid hx0
    have Hb0 := Lib.hid hb0
    have Hl := Lib.hid hl
    have HR := Lib.hid hR
    clear hw hw1 hll hx0 hb0 hl hR
    clear hin hb1
    go_enter Tryz.func27, Tryz.ntmps27
    go_upto_region 4 with (go_at_call 53; refine (Hw1.out _).mono ?_; rintro e w1 ⟨rfl, hw⟩; subst w1)
    clear hc0 hW0
    go_loopw [3] (fun i wr => ∃ j : Nat, j ≤ len ∧ i = .int .i64 j ∧ Ext W0 wr ∧ ∀ q x, q < j → l[q]? = some x → halfOk x = true) (fun i _ => len - (intOf i).toNat)
    case atStart => exact ⟨0, Nat.zero_le _, rfl, Ext.refl _, fun q x hq => by omega⟩
    case round =>
      obtain ⟨j, hj, rfl, hx, hall⟩ := hrel
      obtain ⟨e0, _⟩ := hx.box Hb0.out
      by_cases hlt : j < len
      · have hltB : decide ((j : Int) < (len : Int)) = true := by simp; omega
        obtain ⟨ab, ao, x, rfl, hjx, hab, c0, c1, c2⟩ := (Hl.out.ext (Hx0.out.trans hx)).get j hlt
        have hno := fun (h : halfOk x = false) => HR.out.symm.trans (area_not hjx h)
        have hyes : halfOk x = true → ∀ q x, q < j + 1 → l[q]? = some x → halfOk x = true := fun h q y hq h1 => by
          rcases Nat.lt_or_ge q j with h' | h'
          · exact hall q y h' h1
          · obtain rfl : q = j := by omega
            rw [hjx] at h1
            cases h1
            exact h
        have hk : halfOk x = (inB x.a (-1000) 1000 && inB x.b (-1000) 1000 && (x.a != 0 || x.b != 0) && inB x.c (-100000000000) 100000000000) := rfl
        have Hx := Lib.hid hx
        have Hno := Lib.hid hno
        have Hyes := Lib.hid hyes
        have Hk := Lib.hid hk
        clear hx hno hyes hk
        clear hall hjx
        cases h1 : inB x.a (-1000) 1000 with
        | false =>
          have hr := Hno.out (by rw [Hk.out, h1]; rfl)
          have Hr := Lib.hid hr
          clear hr
          go_wp2_with (go_at_call 53; refine (Hw.out _ _ _ _).mono ?_; rintro e w1 ⟨rfl, rfl⟩)
          go_ret
          exact ⟨ret_bool Hr.out.symm, (Hx0.out.trans Hx.out).alloc _⟩
        | true =>
          cases h2 : inB x.b (-1000) 1000 with
          | false =>
            have hr := Hno.out (by rw [Hk.out, h1, h2]; rfl)
            have Hr := Lib.hid hr
            clear hr
            go_wp2_with (go_at_call 53; refine (Hw.out _ _ _ _).mono ?_; rintro e w1 ⟨rfl, rfl⟩)
            go_ret
            exact ⟨ret_bool Hr.out.symm, (Hx0.out.trans Hx.out).alloc _⟩
          | true =>
            cases h3 : x.a == 0 with
            | true =>
              cases h4 : x.b == 0 with
              | true =>
                have hr := Hno.out (by rw [Hk.out, h1, h2, bne, bne, h3, h4]; rfl)
                have Hr := Lib.hid hr
                clear hr
                go_wp2_with (go_at_call 53; refine (Hw.out _ _ _ _).mono ?_; rintro e w1 ⟨rfl, rfl⟩)
                go_ret
                exact ⟨ret_bool Hr.out.symm, (Hx0.out.trans Hx.out).alloc _⟩
              | false =>
                cases h5 : inB x.c (-100000000000) 100000000000 with
                | false =>
                  have hr := Hno.out (by rw [Hk.out, h1, h2, bne, bne, h3, h4, h5]; rfl)
                  have Hr := Lib.hid hr
                  clear hr
                  go_wp2_with (go_at_call 53; refine (Hw.out _ _ _ _).mono ?_; rintro e w1 ⟨rfl, rfl⟩)
                  go_ret
                  exact ⟨ret_bool Hr.out.symm, (Hx0.out.trans Hx.out).alloc _⟩
                | true =>
                  have hr := Hyes.out (by rw [Hk.out, h1, h2, bne, bne, h3, h4, h5]; rfl)
                  have Hr := Lib.hid hr
                  clear hr
                  go_wp2_with (go_at_call 53; refine (Hw.out _ _ _ _).mono ?_; rintro e w1 ⟨rfl, rfl⟩)
                  go_roundw
                  case rel => exact ⟨j + 1, by omega, by go_num, Hx.out.alloc _, Hr.out⟩
                  case measure => simp [intOf]; omega
            | false =>
              cases h5 : inB x.c (-100000000000) 100000000000 with
              | false =>
                have hr := Hno.out (by rw [Hk.out, h1, h2, bne, bne, h3, h5]; simp)
                have Hr := Lib.hid hr
                clear hr
                go_wp2_with (go_at_call 53; refine (Hw.out _ _ _ _).mono ?_; rintro e w1 ⟨rfl, rfl⟩)
                go_ret
                exact ⟨ret_bool Hr.out.symm, (Hx0.out.trans Hx.out).alloc _⟩
              | true =>
                have hr := Hyes.out (by rw [Hk.out, h1, h2, bne, bne, h3, h5]; simp)
                have Hr := Lib.hid hr
                clear hr
                go_wp2_with (go_at_call 53; refine (Hw.out _ _ _ _).mono ?_; rintro e w1 ⟨rfl, rfl⟩)
                go_roundw
                case rel => exact ⟨j + 1, by omega, by go_num, Hx.out.alloc _, Hr.out⟩
                case measure => simp [intOf]; omega
      · have hltB : decide ((j : Int) < (len : Int)) = false := by simp; omega
        obtain rfl : len = j := by omega
        have hal := area_of_all Hll.out hall
        have hlw := Hl.out.ext (Hx0.out.trans hx)
        obtain ⟨ab, ao, x0, rfl, hj0, hab, c0, c1, _⟩ := hlw.get 0 (by omega)
        obtain ⟨_, _, x1, e, hj1, _, d0, d1, _⟩ := hlw.get 1 (by omega)
        cases e
        obtain ⟨_, _, x2, e, hj2, _, k0, k1, _⟩ := hlw.get 2 (by omega)
        cases e
        obtain ⟨_, _, x3, e, hj3, _, m0, m1, _⟩ := hlw.get 3 (by omega)
        cases e
        simp only [Nat.zero_mul, Nat.add_zero, Nat.one_mul, Nat.reduceMul] at c0 c1 d0 d1 k0 k1 m0 m1
        have hres : R = (x0.a == 1 && x0.b == 0 && (x1.a == -1 && x1.b == 0) && (x2.a == 0 && x2.b == 1) && (x3.a == 0 && x3.b == -1)) := by
          rw [← HR.out]
          unfold areaOk head4 isAB
          have g : ∀ i x, l[i]? = some x → l.getD i zh = x := fun i x h => by simp [List.getD, h]
          rw [g 0 _ hj0, g 1 _ hj1, g 2 _ hj2, g 3 _ hj3, hal, Bool.and_true, decide_eq_true (show 4 ≤ l.length by have := Hll.out; omega), decide_eq_true (show l.length ≤ 40 by have := Hll.out; omega)]
          rfl
        have hl4 : decide ((0 : Int) < (len : Int)) = true := by simp; omega
        have Hx := Lib.hid hx
        have Hres := Lib.hid hres
        clear hx hres
        clear hall hlw hal hj0 hj1 hj2 hj3
        cases h0 : x0.a == 1
        · go_wp2_with fail
          go_ret
          exact ⟨ret_bool (by rw [Hres.out]; simp [*]), Hx0.out.trans Hx.out⟩
        cases h1 : x0.b == 0
        · go_wp2_with fail
          go_ret
          exact ⟨ret_bool (by rw [Hres.out]; simp [*]), Hx0.out.trans Hx.out⟩
        cases h2 : x1.a == -1
        · go_wp2_with fail
          go_ret
          exact ⟨ret_bool (by rw [Hres.out]; simp [*]), Hx0.out.trans Hx.out⟩
        cases h3 : x1.b == 0
        · go_wp2_with fail
          go_ret
          exact ⟨ret_bool (by rw [Hres.out]; simp [*]), Hx0.out.trans Hx.out⟩
        cases h4 : x2.a == 0
        · go_wp2_with fail
          go_ret
          exact ⟨ret_bool (by rw [Hres.out]; simp [*]), Hx0.out.trans Hx.out⟩
        cases h5 : x2.b == 1
        · go_wp2_with fail
          go_ret
          exact ⟨ret_bool (by rw [Hres.out]; simp [*]), Hx0.out.trans Hx.out⟩
        cases h6 : x3.a == 0
        · go_wp2_with fail
          go_ret
          exact ⟨ret_bool (by rw [Hres.out]; simp [*]), Hx0.out.trans Hx.out⟩
        cases h7 : x3.b == -1
        · go_wp2_with fail
          go_ret
          exact ⟨ret_bool (by rw [Hres.out]; simp [*]), Hx0.out.trans Hx.out⟩
        · go_wp2_with fail
          go_ret
          exact ⟨ret_bool (by rw [Hres.out]; simp [*]), Hx0.out.trans Hx.out⟩
theorem area_big {l : List Half} {n : Nat} (hn : l.length = n) (h : 100000 < n) : areaOk l = false := by
  rw [Bool.eq_false_iff]
  intro e
  have := (areaOk_iff.1 e).len
  omega
set_option maxRecDepth 100000 in
theorem areaAny_any (a : Option Addr) (len cap : Nat) (l : List Half) (w : World) (hl : HalvesAt w a len l) : Calls Tryz.prog 27 #[.agg #[.slice a len cap]] w fun e w' => e = .returned (.bool (areaOk l)) ∧ Ext w w' := by
  rcases Nat.lt_or_ge 100000 len with h | h
  · have hw1 := fun W => within4_any len 4 40 W
    rw [area_big hl.1 h]
    have hin : inB (len : Int) 4 40 = false := by
      rw [Bool.eq_false_iff]
      simp only [inB, ne_eq, Bool.and_eq_true, decide_eq_true_eq]
      omega
    rw [hin] at hw1
    have Hw1 := Lib.hid hw1
    clear hw1
    clear hl hin h
    go_enter Tryz.func27, Tryz.ntmps27
    go_wp2_with (go_at_call 53; refine (Hw1.out _).mono ?_; rintro e w1 ⟨rfl, rfl⟩)
    go_ret
    exact ⟨rfl, (Ext.refl _).alloc _⟩
  · exact area_any a len cap l w hl h
set_option maxRecDepth 100000 in
theorem rcheckAny_any (a : Option Addr) (len cap : Nat) (l : List Half) (w : World) (hl : HalvesAt w a len l) : Calls Tryz.prog 7 #[.agg #[.slice a len cap]] w fun e w' => e = .returned (.int .i64 (checkOf l)) ∧ Ext w w' := by
  have har := fun W (hW : Ext w W) => areaAny_any a len cap l W (hl.ext hW)
  unfold checkOf
  cases h : areaOk l with
  | true =>
    rw [h] at har
    simp only [if_true]
    have Har := Lib.hid har
    clear har
    clear hl h
    go_enter Tryz.func7, Tryz.ntmps7
    go_wp2_with (go_at_call 27; refine (Har.out _ ((Ext.refl _).alloc _)).mono ?_; rintro e w1 ⟨rfl, hx1⟩)
    go_ret
    exact ⟨rfl, ((Ext.refl _).alloc _).trans hx1⟩
  | false =>
    rw [h] at har
    simp only [Bool.false_eq_true, if_false]
    have Har := Lib.hid har
    clear har
    clear hl h
    go_enter Tryz.func7, Tryz.ntmps7
    go_wp2_with (go_at_call 27; refine (Har.out _ ((Ext.refl _).alloc _)).mono ?_; rintro e w1 ⟨rfl, hx1⟩)
    go_ret
    exact ⟨rfl, ((Ext.refl _).alloc _).trans hx1⟩
set_option maxRecDepth 100000 in
theorem rtrek_any (t : Trek) (w : World) : Calls Tryz.prog 12 #[t.val] w fun e w' => e = .returned (.bool (trekOk t)) ∧ Ext w w' := by
  have h1 := fun W => spanned4_any t.d 0 60 W
  have h2 := fun W => spanned4_any t.e (-100000) 100000 W
  have h3 := fun W => spanned4_any t.n (-100000) 100000 W
  have hT : trekOk t = (spanOk t.d 0 60 && spanOk t.e (-100000) 100000 && spanOk t.n (-100000) 100000) := rfl
  rw [hT]
  obtain ⟨⟨d0, d1⟩, ⟨e0, e1⟩, ⟨n0, n1⟩⟩ := t
  unfold Trek.val
  unfold Span.val at h1 h2 h3
  simp only at h1 h2 h3 ⊢
  obtain ⟨W0, hW0⟩ : ∃ W0, w.alloc (.cells #[.int .i64 d0, .int .i64 d1, .int .i64 e0, .int .i64 e1, .int .i64 n0, .int .i64 n1] 43) = W0 := ⟨_, rfl⟩
  have hx0 : Ext w W0 := by rw [← hW0]; exact (Ext.refl w).alloc _
  have hb0 : W0.heap[w.heap.size]? = some (.cells #[.int .i64 d0, .int .i64 d1, .int .i64 e0, .int .i64 e1, .int .i64 n0, .int .i64 n1] 43 (0, 0)) := by rw [← hW0]; exact heap_alloc_new w _
  obtain ⟨z0, _⟩ := (Ext.refl W0).box hb0
  clear hT
  generalize spanOk ⟨n0, n1⟩ (-100000) 100000 = R at *
  cases hA : spanOk ⟨d0, d1⟩ 0 60 with
  | false =>
    rw [hA] at h1
    have H1 := Lib.hid h1
    have Hx0 := Lib.hid hx0
    have Hb0 := Lib.hid hb0
    clear h1 hx0 hb0
    clear h2 hA h3
    go_enter Tryz.func12, Tryz.ntmps12
    go_wp2_with (go_at_call 32; refine (H1.out _).mono ?_; rintro e w1 ⟨rfl, hx1⟩)
    go_ret
    exact ⟨ret_bool (by simp), Hx0.out.trans hx1⟩
  | true =>
    cases hB : spanOk ⟨e0, e1⟩ (-100000) 100000 with
    | false =>
      rw [hA] at h1
      rw [hB] at h2
      have H1 := Lib.hid h1
      have H2 := Lib.hid h2
      have Hx0 := Lib.hid hx0
      have Hb0 := Lib.hid hb0
      clear h1 h2 hx0 hb0
      clear hA hB h3
      go_enter Tryz.func12, Tryz.ntmps12
      go_wp2_with (first | (go_at_call 32; refine (H1.out _).mono ?_; rintro e w1 ⟨rfl, hx1⟩; obtain ⟨z1, _⟩ := hx1.box Hb0.out; clear z0 hW0 H1) | (go_at_call 32; refine (H2.out _).mono ?_; rintro e w2 ⟨rfl, hx2⟩))
      go_ret
      exact ⟨ret_bool (by simp), Hx0.out.trans (hx1.trans hx2)⟩
    | true =>
      rw [hA] at h1
      rw [hB] at h2
      have H1 := Lib.hid h1
      have H2 := Lib.hid h2
      have H3 := Lib.hid h3
      have Hx0 := Lib.hid hx0
      have Hb0 := Lib.hid hb0
      clear h1 h2 h3 hx0 hb0
      clear hA hB
      go_enter Tryz.func12, Tryz.ntmps12
      go_wp2_with (first | (go_at_call 32; refine (H1.out _).mono ?_; rintro e w1 ⟨rfl, hx1⟩; obtain ⟨z1, _⟩ := hx1.box Hb0.out; clear z0 hW0 H1) | (go_at_call 32; refine (H2.out _).mono ?_; rintro e w2 ⟨rfl, hx2⟩; have hx12 := hx1.trans hx2; obtain ⟨z2, _⟩ := hx12.box Hb0.out; clear z1 H2) | (go_at_call 32; refine (H3.out _).mono ?_; rintro e w3 ⟨rfl, hx3⟩))
      go_ret
      exact ⟨ret_bool (by simp), Hx0.out.trans (hx12.trans hx3)⟩
/-- what is known after i treks -/
def kAt (l : List Half) (ts : List Trek) (x y far : Int) (i : Nat) : Int := knownOf (wayTo l ts i) x y far
/-- the first ones, as far as they are found -/
structure FirstIs (l : List Half) (ts : List Trek) (x y far : Int) (n : Nat) (m s : Int) : Prop where
  mr : -1 ≤ m ∧ m ≤ n
  sr : -1 ≤ s ∧ s ≤ n
  may : ∀ i : Nat, i ≤ n → 0 < kAt l ts x y far i → 0 ≤ m ∧ m ≤ i
  sure : ∀ i : Nat, i ≤ n → s = i → kAt l ts x y far i = 2
theorem first_is {l : List Half} {ts : List Trek} {x y far : Int} : ∀ (n : Nat) (m s : Int), findTo l ts x y far n = some (m, s) → FirstIs l ts x y far n m s
  | 0, m, s, h => by
    simp only [findTo, Option.some.injEq, Prod.mk.injEq] at h
    obtain ⟨h1, h2⟩ := h
    unfold noteMay at h1
    unfold noteSure at h2
    have e : kAt l ts x y far 0 = knownOf l x y far := rfl
    refine ⟨by split at h1 <;> omega, by split at h2 <;> omega, fun i hi hk => ?_, fun i hi hs => ?_⟩
    · obtain rfl : i = 0 := by omega
      rw [e] at hk
      rw [if_pos ⟨hk, by omega⟩] at h1
      omega
    · obtain rfl : i = 0 := by omega
      rw [e]
      split at h2
      · rename_i hh; exact hh.1
      · omega
  | n + 1, m, s, h => by
    simp only [findTo] at h
    cases hp : findTo l ts x y far n with
    | none => rw [hp] at h; cases h
    | some a =>
      obtain ⟨m0, s0⟩ := a
      rw [hp] at h
      simp only at h
      split at h
      · simp only [Option.some.injEq, Prod.mk.injEq] at h
        obtain ⟨h1, h2⟩ := h
        have ih := first_is n m0 s0 hp
        have e : kAt l ts x y far (n + 1) = knownOf (wayTo l ts (n + 1)) x y far := rfl
        rw [← e] at h1 h2
        unfold noteMay at h1
        unfold noteSure at h2
        have i1 := ih.mr
        have i2 := ih.sr
        refine ⟨by split at h1 <;> omega, by split at h2 <;> omega, fun i hi hk => ?_, fun i hi hs => ?_⟩
        · rcases Nat.lt_or_ge n i with hlt | hge
          · obtain rfl : i = n + 1 := by omega
            by_cases hm : m0 < 0
            · rw [if_pos ⟨hk, hm⟩] at h1
              omega
            · rw [if_neg (by omega)] at h1
              omega
          · have := ih.may i hge hk
            rw [if_neg (by omega)] at h1
            omega
        · rcases Nat.lt_or_ge n i with hlt | hge
          · obtain rfl : i = n + 1 := by omega
            split at h2
            · rename_i hh; exact hh.1
            · omega
          · split at h2
            · omega
            · exact ih.sure i hge (by omega)
      · cases h
theorem around_pt {px py far x y : Int} : In (around px py far) (pt x y) ↔ max (max (px - x) (x - px)) (max (py - y) (y - py)) ≤ far := by
  rw [show around px py far = box ⟨px - far, px + far⟩ ⟨py - far, py + far⟩ from rfl, box_iff]
  simp only [pt, Int.mul_one]
  omega
end Go.Proofs.YtcoelhpmkhimpaaGreat

/- TopHome, plain: what the animal has, where the caravan is; when a well is found for sure. -/
namespace Go.Proofs.YtcoelhpmkhimpaaGreat
set_option linter.unusedVariables false
/-- a number of a span that is chosen by another one -/
def oneV (s : Span) (n : Int) : Int := s.lo + n.tmod (s.hi - s.lo + 1)
theorem oneV_is {s : Span} {n : Int} (h : s.lo ≤ s.hi) (hn : 0 ≤ n) : s.lo ≤ oneV s n ∧ oneV s n ≤ s.hi := by
  unfold oneV
  rw [Int.tmod_eq_emod_of_nonneg hn]
  have := Int.emod_nonneg n (show s.hi - s.lo + 1 ≠ 0 by omega)
  have := Int.emod_lt_of_pos n (show 0 < s.hi - s.lo + 1 by omega)
  omega
def numV (by' : List Int) (i : Nat) : Int := by'.getD (i % by'.length) 0
/-- the animal after days that are alike -/
def camAt (b : Breed) (m : March) (c : Camel) : Nat → Camel
  | 0 => c
  | i + 1 => nextOf b (camAt b m c i) m
theorem camAt_next (b : Breed) (m : March) (c : Camel) : ∀ i, camAt b m (nextOf b c m) i = camAt b m c (i + 1)
  | 0 => rfl
  | i + 1 => by
    show nextOf b (camAt b m (nextOf b c m) i) m = nextOf b (camAt b m c (i + 1)) m
    rw [camAt_next b m c i]
theorem lasts_safe {b : Breed} {m : March} : ∀ (k : Nat) (c : Camel) (i : Nat), i < (lastsOf b m c k).1 → diesB b (camAt b m c i) m = false ∧ safeB b (camAt b m c i) m = true
  | 0, c, i, h => by simp [lastsOf] at h
  | k + 1, c, i, h => by
    unfold lastsOf at h
    cases hd : diesB b c m with
    | true => rw [hd] at h; simp at h
    | false =>
      rw [hd] at h
      cases hs : safeB b c m with
      | false => rw [hs] at h; simp at h
      | true =>
        rw [hs] at h
        simp only [Bool.false_eq_true, if_false, if_true] at h
        cases i with
        | zero => exact ⟨hd, hs⟩
        | succ i =>
          rw [← camAt_next]
          exact lasts_safe k _ i (by omega)
theorem camAt_milks (b : Breed) (m : March) (c : Camel) : ∀ i, (camAt b m c i).milks = c.milks
  | 0 => rfl
  | i + 1 => camAt_milks b m c i
theorem upq_most {a d : Int} (hd : 0 < d) : a ≤ d * upq a d := by
  unfold upq
  have := Int.emod_lt_of_pos (a + d - 1) hd
  have := Int.mul_ediv_add_emod (a + d - 1) d
  omega
/-- what the animal has at the least, in parts of 100000 -/
structure Has (b : Breed) (c : Camel) (W F : Int) : Prop where
  w0 : 100000 * c.water.lo ≤ W
  w1 : W ≤ 100000 * b.full
  f0 : 100000 * c.fat.lo ≤ F
  f1 : F ≤ 100000 * b.fed
/-- what is lost on a day -/
def lossW (b : Breed) (m : March) (mk : Bool) (n0 n1 n2 n3 n4 : Int) : Int := 100000 * (oneV b.rest n0 + oneV b.heat n1 * max 0 (oneV m.heat n2 - 20)) + oneV b.toil n3 * workOf m + (if mk then 100000 * oneV b.milk n4 else 0)
def lossF (b : Breed) (m : March) (n5 : Int) : Int := oneV b.burn n5 * workOf m
theorem loss_is {b : Breed} {m : March} (hb : BreedOk b) (hm : DayOk m) (mk : Bool) {n0 n1 n2 n3 n4 n5 : Int} (h0 : 0 ≤ n0) (h1 : 0 ≤ n1) (h2 : 0 ≤ n2) (h3 : 0 ≤ n3) (h4 : 0 ≤ n4) (h5 : 0 ≤ n5) :
    0 ≤ lossW b m mk n0 n1 n2 n3 n4 ∧ lossW b m mk n0 n1 n2 n3 n4 ≤ 100000 * (waterOf b mk m).hi ∧ 0 ≤ lossF b m n5 ∧ lossF b m n5 ≤ 100000 * (fatOf b m).hi := by
  have r := oneV_is hb.rest.ord h0
  have h := oneV_is hb.heat.ord h1
  have e := oneV_is hm.heat.ord h2
  have t := oneV_is hb.toil.ord h3
  have k := oneV_is hb.milk.ord h4
  have u := oneV_is hb.burn.ord h5
  have r0 := hb.rest.low
  have hl := hb.heat.low
  have t0 := hb.toil.low
  have k0 := hb.milk.low
  have u0 := hb.burn.low
  have wk := work_is hm
  have p1 : 0 ≤ oneV b.heat n1 * max 0 (oneV m.heat n2 - 20) := Int.mul_nonneg (by omega) (by omega)
  have p2 : oneV b.heat n1 * max 0 (oneV m.heat n2 - 20) ≤ b.heat.hi * max 0 (m.heat.hi - 20) := Int.mul_le_mul h.2 (by omega) (by omega) (by omega)
  have p3 : 0 ≤ oneV b.toil n3 * workOf m := Int.mul_nonneg (by omega) wk.1
  have p4 : oneV b.toil n3 * workOf m ≤ b.toil.hi * workOf m := Int.mul_le_mul_of_nonneg_right t.2 wk.1
  have p5 := upq_most (a := b.toil.hi * workOf m) (d := 100000) (by omega)
  have p6 : 0 ≤ oneV b.burn n5 * workOf m := Int.mul_nonneg (by omega) wk.1
  have p7 : oneV b.burn n5 * workOf m ≤ b.burn.hi * workOf m := Int.mul_le_mul_of_nonneg_right u.2 wk.1
  have p8 := upq_most (a := b.burn.hi * workOf m) (d := 100000) (by omega)
  unfold lossW lossF waterOf fatOf milkOf
  simp only
  cases mk <;> simp only [Bool.false_eq_true, if_false, if_true] <;> omega
theorem Has.day {b : Breed} {m : March} {c : Camel} {W F : Int} (h : Has b c W F) (hb : BreedOk b) (hm : DayOk m) (hs : safeB b c m = true) {x y d g : Int} (x0 : x ≤ 100000 * (waterOf b c.milks m).hi) (y0 : y ≤ 100000 * (fatOf b m).hi) (d0 : m.drinks.lo ≤ d) (g0 : m.grass.lo ≤ g) :
    0 ≤ W - x ∧ 0 ≤ F - y ∧ Has b (nextOf b c m) (min (100000 * b.full) (W - x + 100000 * d)) (min (100000 * b.fed) (F - y + 100000 * g)) := by
  unfold safeB at hs
  simp only [Bool.and_eq_true, decide_eq_true_eq] at hs
  have hw0 := h.w0
  have hf0 := h.f0
  refine ⟨by omega, by omega, ?_, by omega, ?_, by omega⟩
  · unfold nextOf leftOf
    simp only
    omega
  · unfold nextOf leftOf
    simp only
    omega
end Go.Proofs.YtcoelhpmkhimpaaGreat

/- TopHome: contracts of the law's own functions: oneOf, numberOf, stays. -/
namespace Go.Proofs.YtcoelhpmkhimpaaGreat
open Go.RowKit
set_option linter.unusedVariables false
set_option linter.unusedSimpArgs false
theorem oneOf_any (lo hi n : Int) (w : World) (h0 : -1000000000 ≤ lo) (h1 : lo ≤ hi) (h2 : hi ≤ 1000000000) (hn : 0 ≤ n ∧ n ≤ 4294967295) : Calls Tryz.prog 15 #[.agg #[.int .i64 lo, .int .i64 hi], .int .u32 n] w fun e w' => e = .returned (.int .i64 (oneV ⟨lo, hi⟩ n)) ∧ Ext w w' := by
  have hx0 : Ext w (w.alloc (.cells #[.int .i64 lo, .int .i64 hi] 27)) := (Ext.refl w).alloc _
  have hb0 := heap_alloc_new w (.cells #[.int .i64 lo, .int .i64 hi] 27)
  obtain ⟨W0, hW0⟩ : ∃ W0, w.alloc (.cells #[.int .i64 lo, .int .i64 hi] 27) = W0 := ⟨_, rfl⟩
  rw [hW0] at hx0 hb0
  have hv : oneV ⟨lo, hi⟩ n = lo + n.tmod (hi - lo + 1) := rfl
  rw [hv]
  obtain ⟨R, hR⟩ : ∃ R, n.tmod (hi - lo + 1) = R := ⟨_, rfl⟩
  have hR0 : 0 ≤ R ∧ R ≤ hi - lo := by
    rw [← hR, Int.tmod_eq_emod_of_nonneg hn.1]
    have := Int.emod_nonneg n (show hi - lo + 1 ≠ 0 by omega)
    have := Int.emod_lt_of_pos n (show 0 < hi - lo + 1 by omega)
    omega
  rw [hR]
  have hnz : (hi - lo + 1 == 0) = false := by simp; omega
  have hnz' : hi - lo + 1 ≠ 0 := by omega
  clear hv
  have Hx0 := Lib.hid hx0
  have Hb0 := Lib.hid hb0
  clear hx0 hb0
  go_enter Tryz.func15, Tryz.ntmps15
  go_upto_region 1 with fail
  refine wp_region_ext (by kernel_rfl) (by kernel_rfl) (fun f hf hs => ?_)
  have f0 := fun q => ((hf q).box Hb0.out).1
  clear hf hs
  repeat (go_big_quiet_step (fail))
  refine wpQuiet_nil ?_
  intro W1 hW1
  clear f0
  go_wp2_with fail
  go_ret
  exact ⟨rfl, Hx0.out.trans hW1⟩
def numI (by' : List Int) (j : Int) : Int := if by'.length = 0 then 0 else by'.getD (j.tmod by'.length).toNat 0
theorem numI_is {by' : List Int} (h : ∀ x ∈ by', 0 ≤ x ∧ x ≤ 4294967295) (j : Int) : 0 ≤ numI by' j ∧ numI by' j ≤ 4294967295 := by
  unfold numI
  split
  · omega
  · rw [List.getD_eq_getElem?_getD]
    cases e : by'[(j.tmod by'.length).toNat]? with
    | none => simp
    | some x => exact h x (List.mem_of_getElem? e)
theorem numberOf_any (a : Option Addr) (n c : Nat) (l : List Int) (j : Int) (w : World) (hl : IntsAt .u32 w a n l) (hn : n ≤ maxLen) (hj : 0 ≤ j ∧ j ≤ 1000000000) : Calls Tryz.prog 16 #[.slice a n c, .int .i64 j] w fun e w' => e = .returned (.int .u32 (numI l j)) ∧ w' = w := by
  have hll := hl.1
  unfold maxLen at hn
  by_cases h0 : n = 0
  · subst h0
    have hv : numI l j = 0 := by unfold numI; rw [hll, if_pos rfl]
    rw [hv]
    clear hl hll
    go_enter Tryz.func16, Tryz.ntmps16
    go_wp2_with fail
    go_ret
    exact ⟨rfl, rfl⟩
  · obtain ⟨R, hR⟩ : ∃ R : Nat, j.tmod n = R := ⟨(j.tmod n).toNat, by
      rw [Int.tmod_eq_emod_of_nonneg hj.1]
      have := Int.emod_nonneg j (show (n : Int) ≠ 0 by omega)
      omega⟩
    have hRn : R < n := by
      have := Int.emod_lt_of_pos j (show (0 : Int) < n by omega)
      rw [Int.tmod_eq_emod_of_nonneg hj.1] at hR
      omega
    have hv : numI l j = l.getD R 0 := by unfold numI; rw [hll, if_neg h0, hR]; rfl
    rw [hv]
    obtain ⟨b, off, k, rfl, hk, c0⟩ := hl.get R hRn
    rw [show l.getD R 0 = k by rw [List.getD_eq_getElem?_getD, hk]; rfl]
    have hz : ((n : Int) == 0) = false := by simp; omega
    have hz' : (n : Int) ≠ 0 := by omega
    have hlt : decide ((R : Int) < (n : Int)) = true := by simp; omega
    clear hl hll hv
    go_enter Tryz.func16, Tryz.ntmps16
    go_wp2_with fail
    go_ret
    exact ⟨rfl, rfl⟩
structure SpOk (lo hi : Int) : Prop where
  a : -1000000000 ≤ lo
  b : lo ≤ hi
  c : hi ≤ 1000000000
structure NmOk (n : Int) : Prop where
  a : 0 ≤ n
  b : n ≤ 4294967295
theorem nm_ok {bl : List Int} (h : ∀ x ∈ bl, 0 ≤ x ∧ x ≤ 4294967295) (j : Int) : NmOk (numI bl j) := ⟨(numI_is h j).1, (numI_is h j).2⟩
theorem one_of {lo hi n : Int} (h : SpOk lo hi) (h' : NmOk n) (w : World) : Calls Tryz.prog 15 #[.agg #[.int .i64 lo, .int .i64 hi], .int .u32 n] w fun e w' => e = .returned (.int .i64 (oneV ⟨lo, hi⟩ n)) ∧ Ext w w' := oneOf_any lo hi n w h.a h.b h.c ⟨h'.a, h'.b⟩
theorem one_in {lo hi n : Int} (h : SpOk lo hi) (h' : NmOk n) : lo ≤ oneV ⟨lo, hi⟩ n ∧ oneV ⟨lo, hi⟩ n ≤ hi := oneV_is (s := ⟨lo, hi⟩) h.b h'.a
def staysB (l : List Half) (x y : Int) : Bool := l.all fun h => decide (h.a * x + h.b * y ≤ h.c)
theorem stays_in {l : List Half} {x y : Int} : staysB l x y = true ↔ In l (pt x y) := by
  rw [pt_in]
  unfold staysB
  simp only [List.all_eq_true, decide_eq_true_eq]
theorem stays_any (a : Option Addr) (n cap : Nat) (l : List Half) (x y : Int) (w : World) (hl : HalvesAt w a n l) (hc : n ≤ cap) (hm : cap ≤ maxLen) (ho : ∀ h ∈ l, -1000 ≤ h.a ∧ h.a ≤ 1000 ∧ -1000 ≤ h.b ∧ h.b ≤ 1000) (hx : -20000000 ≤ x ∧ x ≤ 20000000) (hy : -20000000 ≤ y ∧ y ≤ 20000000) :
    Calls Tryz.prog 8 #[.agg #[.slice a n cap], .int .i64 x, .int .i64 y] w fun e w' => e = .returned (.bool (staysB l x y)) ∧ Ext w w' := by
  have hll := hl.1
  unfold maxLen at hm
  have hb0 := heap_alloc_new w (.cells #[.slice a n cap] 24)
  have hx0 : Ext w (w.alloc (.cells #[.slice a n cap] 24)) := (Ext.refl w).alloc _
  obtain ⟨z0, _⟩ := (Ext.refl _).box hb0
  have hdef : staysB l x y = l.all fun h => decide (h.a * x + h.b * y ≤ h.c) := rfl
  obtain ⟨V, hV⟩ : ∃ V, staysB l x y = V := ⟨_, rfl⟩
  rw [hV] at hdef ⊢
  have Hx0 := Lib.hid hx0
  have Hl := Lib.hid hl
  have Ho := Lib.hid ho
  have Hdef := Lib.hid hdef
  clear hx0 hl ho hdef
  clear hb0 hV
  go_enter Tryz.func8, Tryz.ntmps8
  go_upto_region 2 with fail
  generalize w.alloc (.cells #[.slice a n cap] 24) = W0 at *
  clear z0
  go_loopw [12] (fun i wr => ∃ k : Nat, i = .int .i64 k ∧ k ≤ n ∧ Ext w wr ∧ ∀ h ∈ l.take k, h.a * x + h.b * y ≤ h.c) (fun i _ => n - (intOf i).toNat)
  case atStart => exact ⟨0, rfl, Nat.zero_le _, Hx0.out, by simp⟩
  case round =>
    obtain ⟨k, rfl, hk, hxw, hall⟩ := hrel
    by_cases hlt : k < n
    · have hltB : decide ((k : Int) < (n : Int)) = true := by simp; omega
      obtain ⟨b, off, h, rfl, hk', hb, c0, c1, c2⟩ := (Hl.out.ext hxw).get k hlt
      obtain ⟨a0, a1, b0, b1⟩ := Ho.out h (List.mem_of_getElem? hk')
      have m1 := mul_le (A := 1000) (B := 20000000) a0 a1 hx.1 hx.2
      have m2 := mul_le (A := 1000) (B := 20000000) b0 b1 hy.1 hy.2
      simp only [Int.reduceMul, Int.reduceNeg] at m1 m2
      have hlast : ∀ e : decide (h.a * x + h.b * y ≤ h.c) = true, ∀ z ∈ l.take (k + 1), z.a * x + z.b * y ≤ z.c := fun e z hz => by
        rw [List.take_add_one, hk', Option.toList_some, List.mem_append, List.mem_singleton] at hz
        rcases hz with hz | rfl
        · exact hall z hz
        · exact of_decide_eq_true e
      have hfalse : decide (h.a * x + h.b * y ≤ h.c) = false → V = false := fun e => by
        rw [Hdef.out, List.all_eq_false]
        exact ⟨h, List.mem_of_getElem? hk', by rw [e]; simp⟩
      obtain ⟨p, q, r⟩ := h
      simp only at c0 c1 c2 m1 m2 hlast hfalse
      obtain ⟨P1, hP1⟩ : ∃ P, p * x = P := ⟨_, rfl⟩
      obtain ⟨P2, hP2⟩ : ∃ P, q * y = P := ⟨_, rfl⟩
      rw [hP1] at m1 hlast hfalse
      rw [hP2] at m2 hlast hfalse
      by_cases ht : P1 + P2 ≤ r
      · have htB : decide (r < P1 + P2) = false := by simp; omega
        have hL := hlast (decide_eq_true ht)
        have Hxw := Lib.hid hxw
        have HL := Lib.hid hL
        clear hxw hL
        clear hlast hfalse hall hk' ht
        go_wp2_with fail
        go_roundw
        case rel => exact ⟨k + 1, by go_num, by omega, Hxw.out.alloc _, HL.out⟩
        case measure => simp [intOf]; omega
      · have htB : decide (r < P1 + P2) = true := by simp; omega
        have hL := hfalse (decide_eq_false ht)
        have Hxw := Lib.hid hxw
        clear hxw
        clear hlast hfalse hall hk' ht
        subst hL
        go_wp2_with fail
        go_ret
        exact ⟨rfl, Hxw.out.alloc _⟩
    · have hltB : decide ((k : Int) < (n : Int)) = false := by simp; omega
      have hV : V = true := by
        rw [Hdef.out, List.all_eq_true]
        intro h hh
        rw [List.take_of_length_le (by omega)] at hall
        exact decide_eq_true (hall h hh)
      subst hV
      have Hxw := Lib.hid hxw
      clear hxw
      clear hall
      go_wp2_with fail
      go_ret
      exact ⟨rfl, Hxw.out⟩
end Go.Proofs.YtcoelhpmkhimpaaGreat
