/- The law GuideNear. -/
import Derived.Test.YtacdndehlkaaeaaVExam
import Derived.Test.YtacdndehlkaaeaaVRefFlo
import Derived.Test.YtacdndehlkaaeaaVAlive
namespace Go.Proofs.Ytacdndehlkaaeaa
open Go.RowKit
set_option linter.unusedVariables false
set_option linter.unusedSimpArgs false
theorem lt_of_mul {a b d : Int} (hd : 0 < d) (h : a * d < b * d) : a < b := Int.lt_of_mul_lt_mul_right h (Int.le_of_lt hd)
theorem near_inside {l : List Half} {E N : Span} {x y far : Int} (h : AreaOk l) (hb : boundsOf l = (E, N, 0)) : knownOf l x y far = 2 ↔ (x - far ≤ E.lo ∧ E.hi ≤ x + far ∧ y - far ≤ N.lo ∧ N.hi ≤ y + far) := by
  have ht := bounds_told h
  rw [hb] at ht
  have hs := ht.sem rfl
  have hp := ht.is.1 rfl
  have hk := (known_of h.bounded x y far).yes
  rw [hk]
  have e : around x y far = box ⟨x - far, x + far⟩ ⟨y - far, y + far⟩ := rfl
  rw [e]
  simp only at hs
  constructor
  · rintro ⟨_, hall⟩
    obtain ⟨p1, a1, b1⟩ := hs.xl'
    obtain ⟨p2, a2, b2⟩ := hs.xh'
    obtain ⟨p3, a3, b3⟩ := hs.yl'
    obtain ⟨p4, a4, b4⟩ := hs.yh'
    have c1 := lt_of_mul a1.1 (Int.lt_of_le_of_lt (box_iff.1 (hall p1 a1)).2.1 b1)
    have c2 := lt_of_mul a2.1 (Int.lt_of_lt_of_le b2 (box_iff.1 (hall p2 a2)).2.2.1)
    have c3 := lt_of_mul a3.1 (Int.lt_of_le_of_lt (box_iff.1 (hall p3 a3)).2.2.2.1 b3)
    have c4 := lt_of_mul a4.1 (Int.lt_of_lt_of_le b4 (box_iff.1 (hall p4 a4)).2.2.2.2)
    simp only at c1 c2 c3 c4
    omega
  · rintro ⟨c1, c2, c3, c4⟩
    refine ⟨hp, fun p hp => box_iff.2 ⟨hp.1, ?_, ?_, ?_, ?_⟩⟩
    · exact Int.le_trans (Int.mul_le_mul_of_nonneg_right c1 (Int.le_of_lt hp.1)) (hs.xl p hp)
    · exact Int.le_trans (hs.xh p hp) (Int.mul_le_mul_of_nonneg_right c2 (Int.le_of_lt hp.1))
    · exact Int.le_trans (Int.mul_le_mul_of_nonneg_right c3 (Int.le_of_lt hp.1)) (hs.yl p hp)
    · exact Int.le_trans (hs.yh p hp) (Int.mul_le_mul_of_nonneg_right c4 (Int.le_of_lt hp.1))
theorem near_see {l : List Half} {x y far : Int} (h : AreaOk l) (hn : (placeOk x && placeOk y && inB far 0 10000000) = true) :
    ((seeOf l ⟨3, x, y, 0, 0, 0, 0, 0, 0, far⟩).2 = 9 ∨ (seeOf l ⟨3, x, y, 0, 0, 0, 0, 0, 0, far⟩).2 = 43 ∧ knownOf l x y far = 0 ∨ (seeOf l ⟨3, x, y, 0, 0, 0, 0, 0, 0, far⟩).2 = 0 ∧ knownOf l x y far ≠ 0) := by
  have e1 : halvesOf ⟨3, x, y, 0, 0, 0, 0, 0, 0, far⟩ = around x y far := by simp [halvesOf]
  have e2 : sightOk ⟨3, x, y, 0, 0, 0, 0, 0, 0, far⟩ = true := by simp only [sightOk, closeB]; simpa using hn
  unfold seeOf knownOf
  rw [areaOk_iff.2 h, e1, e2]
  simp only [Bool.true_eq_false, if_false]
  split
  · exact .inl rfl
  · split
    · exact .inr (.inl ⟨rfl, rfl⟩)
    · refine .inr (.inr ⟨rfl, ?_⟩)
      split <;> omega
theorem area_big {l : List Half} {n : Nat} (hn : l.length = n) (h : 100000 < n) : areaOk l = false := by
  rw [Bool.eq_false_iff]
  intro e
  have := (areaOk_iff.1 e).len
  omega
set_option maxRecDepth 100000 in
theorem areaAny_any (a : Option Addr) (len cap : Nat) (l : List Half) (w : World) (hl : HalvesAt w a len l) : Calls Try.prog 53 #[.agg #[.slice a len cap]] w fun e w' => e = .returned (.bool (areaOk l)) ∧ Ext w w' := by
  rcases Nat.lt_or_ge 100000 len with h | h
  · have hw1 := fun W => within_any len 4 40 W
    rw [area_big hl.1 h]
    have hin : inB (len : Int) 4 40 = false := by
      rw [Bool.eq_false_iff]
      simp only [inB, ne_eq, Bool.and_eq_true, decide_eq_true_eq]
      omega
    rw [hin] at hw1
    have Hw1 := Lib.hid hw1
    clear hw1
    clear hl hin h
    go_enter Try.func53, Try.ntmps53
    go_wp2_with (go_at_call 75; refine (Hw1.out _).mono ?_; rintro e w1 ⟨rfl, rfl⟩)
    go_ret
    exact ⟨rfl, (Ext.refl _).alloc _⟩
  · exact area_any a len cap l w hl h
set_option maxRecDepth 100000 in
theorem rcheckAny_any (a : Option Addr) (len cap : Nat) (l : List Half) (w : World) (hl : HalvesAt w a len l) : Calls Try.prog 29 #[.agg #[.slice a len cap]] w fun e w' => e = .returned (.int .i64 (checkOf l)) ∧ Ext w w' := by
  have har := fun W (hW : Ext w W) => areaAny_any a len cap l W (hl.ext hW)
  unfold checkOf
  cases h : areaOk l with
  | true =>
    rw [h] at har
    simp only [if_true]
    have Har := Lib.hid har
    clear har
    clear hl h
    go_enter Try.func29, Try.ntmps29
    go_wp2_with (go_at_call 53; refine (Har.out _ ((Ext.refl _).alloc _)).mono ?_; rintro e w1 ⟨rfl, hx1⟩)
    go_ret
    exact ⟨rfl, ((Ext.refl _).alloc _).trans hx1⟩
  | false =>
    rw [h] at har
    simp only [Bool.false_eq_true, if_false]
    have Har := Lib.hid har
    clear har
    clear hl h
    go_enter Try.func29, Try.ntmps29
    go_wp2_with (go_at_call 53; refine (Har.out _ ((Ext.refl _).alloc _)).mono ?_; rintro e w1 ⟨rfl, hx1⟩)
    go_ret
    exact ⟨rfl, ((Ext.refl _).alloc _).trans hx1⟩
set_option maxRecDepth 100000 in
set_option maxHeartbeats 8000000 in
theorem lawNear_any (a : Option Addr) (len cap : Nat) (l : List Half) (x y far : Int) (w : World) (hl : HalvesAt w a len l) (hc : len ≤ cap) (hm : cap ≤ maxLen) :
    Calls Try.prog 11 #[.agg #[.slice a len cap], .int .i64 x, .int .i64 y, .int .i64 far] w fun e w' => e = .returned (.bool true) ∧ Ext w w' := by
  have hal := alive_any
  have hch := fun W (hW : Ext w W) => rcheckAny_any a len cap l W (hl.ext hW)
  have hbd := fun W (hW : Ext w W) => boundsF_any a len cap l W (hl.ext hW) hc hm
  have hnr := fun W (hW : Ext w W) => nearF_any a len cap l x y far W (hl.ext hW) hc hm
  have hsee := fun W (hW : Ext w W) => see_any a len cap l ⟨3, x, y, 0, 0, 0, 0, 0, 0, far⟩ W (hl.ext hW) hc hm (by simp) (by simp)
  unfold checkOf at hch
  unfold BoundsPost at hbd
  unfold NearPost at hnr
  unfold SeePost Sight.val at hsee
  simp only at hsee
  obtain ⟨W0, hW0⟩ : ∃ W0, w.alloc (.cells #[.slice a len cap] 24) = W0 := ⟨_, rfl⟩
  have hx0 : Ext w W0 := by rw [← hW0]; exact (Ext.refl w).alloc _
  have ha0 : W0.heap[w.heap.size]? = some (.cells #[.slice a len cap] 24 (0, 0)) := by rw [← hW0]; exact heap_alloc_new w _
  have hmx := fun P1 P2 P3 P4 W => run_max4 P1 P2 P3 P4 W
  have Hx0 := Lib.hid hx0
  have Ha0 := Lib.hid ha0
  have Hal := Lib.hid hal
  clear hx0 ha0 hal
  cases hao : areaOk l with
  | false =>
    rw [hao] at hch
    simp only [Bool.false_eq_true, if_false] at hch
    have Hch := Lib.hid hch
    clear hch
    clear hl hbd hnr hsee hmx hao
    go_enter Try.func11, Try.ntmps11
    go_wp2_with (first | (go_at_call 34; refine (Hal.out _).mono ?_; rintro e w1 ⟨rfl, hx1⟩; obtain ⟨z1, _⟩ := (Ext.refl w1).box (hx1.heap Ha0.out); clear hW0) | (go_at_call 29; refine (Hch.out _ (Hx0.out.trans hx1)).mono ?_; rintro e w2 ⟨rfl, hx2⟩))
    go_ret
    exact ⟨rfl, Hx0.out.trans (hx1.trans hx2)⟩
  | true =>
    have hA := areaOk_iff.1 hao
    rw [hao] at hch
    simp only [if_true] at hch
    by_cases hpl : (-10000000 ≤ x ∧ x ≤ 10000000) ∧ (-10000000 ≤ y ∧ y ≤ 10000000)
    · obtain ⟨⟨x0, x1⟩, y0, y1⟩ := hpl
      have hmxx := fun W => hmx x (-x) y (-y) W
      obtain ⟨MX, hMX⟩ : ∃ MX, max (max x (-x)) (max y (-y)) = MX := ⟨_, rfl⟩
      rw [hMX] at hmxx
      have hMX1 : MX ≤ 10000000 := by omega
      have hMXB : decide (10000000 < MX) = false := decide_eq_false (by omega)
      have hmi : -10000000 ≤ (if y < x then y else x) := by split <;> omega
      obtain ⟨MI, hMI⟩ : ∃ MI, (if y < x then y else x) = MI := ⟨_, rfl⟩
      rw [hMI] at hmi
      have hMIB : decide (MI < -10000000) = false := decide_eq_false (by omega)
      clear hmx hMX
      by_cases hf0 : far < 0
      · have hf0B : decide (far < 0) = true := decide_eq_true hf0
        have Hch := Lib.hid hch
        clear hch
        clear hl hbd hnr hsee hao hA
        go_enter Try.func11, Try.ntmps11
        go_wp2_with (first | (go_at_call 34; refine (Hal.out _).mono ?_; rintro e w1 ⟨rfl, hx1⟩; obtain ⟨z1, _⟩ := (Ext.refl w1).box (hx1.heap Ha0.out); clear hW0) | (go_at_call 29; refine (Hch.out _ (Hx0.out.trans hx1)).mono ?_; rintro e w2 ⟨rfl, hx2⟩))
        go_ret
        exact ⟨rfl, Hx0.out.trans (hx1.trans hx2)⟩
      · have hf0B : decide (far < 0) = false := decide_eq_false hf0
        by_cases hf1 : 10000000 < far
        · have hf1B : decide (10000000 < far) = true := decide_eq_true hf1
          have Hch := Lib.hid hch
          clear hch
          clear hl hbd hnr hsee hao hA
          go_enter Try.func11, Try.ntmps11
          go_wp2_with (first | (go_at_call 34; refine (Hal.out _).mono ?_; rintro e w1 ⟨rfl, hx1⟩; obtain ⟨z1, _⟩ := (Ext.refl w1).box (hx1.heap Ha0.out); clear hW0) | (go_at_call 29; refine (Hch.out _ (Hx0.out.trans hx1)).mono ?_; rintro e w2 ⟨rfl, hx2⟩))
          go_ret
          exact ⟨rfl, Hx0.out.trans (hx1.trans hx2)⟩
        · have hf1B : decide (10000000 < far) = false := decide_eq_false hf1
          have hok : (placeOk x && placeOk y && inB far 0 10000000) = true := by
            simp only [placeOk, inB, Bool.and_eq_true, decide_eq_true_eq]
            omega
          have hsc := near_see hA hok
          have hkr := known_012 l x y far
          have hask : askedOf l x y far = if someB l = false then 43 else 0 := by
            unfold askedOf
            rw [hao, hok]
            simp
          unfold nearOf at hnr
          cases hsm : someB l with
          | false =>
            rw [boundsOf_lost hao hsm] at hbd
            rw [hask, hsm] at hnr
            simp only [if_true, ne_eq, Int.reduceEq, not_false_eq_true] at hnr
            unfold Span.val zs at hbd
            simp only at hbd
            have Hch := Lib.hid hch
            have Hbd := Lib.hid hbd
            have Hnr := Lib.hid hnr
            clear hch hbd hnr
            clear hl hsee hao hA hsc hkr hask hok hsm
            go_enter Try.func11, Try.ntmps11
            go_wp2_with (first | (go_at_call 34; refine (Hal.out _).mono ?_; rintro e w1 ⟨rfl, hx1⟩; obtain ⟨z1, _⟩ := (Ext.refl w1).box (hx1.heap Ha0.out); clear hW0) | (go_at_call 29; refine (Hch.out _ (Hx0.out.trans hx1)).mono ?_; rintro e w2 ⟨rfl, hx2⟩; have hx12 := hx1.trans hx2; obtain ⟨z2, _⟩ := (Ext.refl w2).box (hx12.heap Ha0.out); clear z1) | (go_at_call 24; refine (Hbd.out _ (Hx0.out.trans hx12)).mono ?_; rintro e w3 ⟨rfl, hx3⟩; have hx13 := hx12.trans hx3; obtain ⟨z3, _⟩ := (Ext.refl w3).box (hx13.heap Ha0.out); have hlz := heap_lt (hx13.heap Ha0.out); clear z2) | (go_at_call 26; refine (Hnr.out _ (Hx0.out.trans ((hx13.alloc _).alloc _))).mono ?_; rintro e w4 ⟨rfl, hx4⟩))
            go_ret
            exact ⟨rfl, Hx0.out.trans (((hx13.alloc _).alloc _).trans hx4)⟩
          | true =>
            rw [hask, hsm] at hnr
            simp only [Bool.true_eq_false, if_false, ne_eq, not_true_eq_false] at hnr
            obtain ⟨⟨e0, e1⟩, ⟨n0, n1⟩, hbo⟩ : ∃ E N : Span, boundsOf l = (E, N, 0) := ⟨_, _, boundsOf_bndL hao hsm⟩
            have hins := near_inside (x := x) (y := y) (far := far) hA hbo
            rw [hbo] at hbd
            unfold Span.val at hbd
            simp only at hbd hins
            generalize knownOf l x y far = r at *
            generalize (seeOf l ⟨3, x, y, 0, 0, 0, 0, 0, 0, far⟩).1.length = sn at *
            generalize (seeOf l ⟨3, x, y, 0, 0, 0, 0, 0, 0, far⟩).1 = sL at *
            generalize (seeOf l ⟨3, x, y, 0, 0, 0, 0, 0, 0, far⟩).2 = sc at *
            have Hch := Lib.hid hch
            have Hbd := Lib.hid hbd
            have Hnr := Lib.hid hnr
            have Hsee := Lib.hid hsee
            clear hch hbd hnr hsee
            have Hsc := Lib.hid hsc
            have Hkr := Lib.hid hkr
            have Hins := Lib.hid hins
            clear hl hao hA hsc hkr hask hok hsm hbo hins
            go_enter Try.func11, Try.ntmps11
            go_upto_region 10 with (first | (go_at_call 34; refine (Hal.out _).mono ?_; rintro e w1 ⟨rfl, hx1⟩; obtain ⟨z1, _⟩ := (Ext.refl w1).box (hx1.heap Ha0.out); clear hW0) | (go_at_call 29; refine (Hch.out _ (Hx0.out.trans hx1)).mono ?_; rintro e w2 ⟨rfl, hx2⟩; have hx12 := hx1.trans hx2; obtain ⟨z2, _⟩ := (Ext.refl w2).box (hx12.heap Ha0.out); clear z1) | (go_at_call 24; refine (Hbd.out _ (Hx0.out.trans hx12)).mono ?_; rintro e w3 ⟨rfl, hx3⟩; have hx13 := hx12.trans hx3; obtain ⟨z3, _⟩ := (Ext.refl w3).box (hx13.heap Ha0.out); have hlz := heap_lt (hx13.heap Ha0.out); clear z2) | (go_at_call 26; refine (Hnr.out _ (Hx0.out.trans ((hx13.alloc _).alloc _))).mono ?_; rintro e w4 ⟨rfl, hx4⟩))
            have hx14 := ((hx13.alloc (.cells #[.int .i64 e0, .int .i64 e1] 28)).alloc (.cells #[.int .i64 n0, .int .i64 n1] 28)).trans hx4
            have hb5 := hx4.heap (((Ext.refl _).alloc _).heap (heap_alloc_new w3 (.cells #[.int .i64 e0, .int .i64 e1] 28)))
            have hb6 := hx4.heap (alloc_at (w3.alloc (.cells #[.int .i64 e0, .int .i64 e1] 28)) (.cells #[.int .i64 n0, .int .i64 n1] 28) (w3.heap.size + 1) (by simp))
            obtain ⟨z5, _⟩ := (Ext.refl w4).box hb5
            obtain ⟨z6, _⟩ := (Ext.refl w4).box hb6
            obtain ⟨z7, _⟩ := (Ext.refl w4).box (hx14.heap Ha0.out)
            clear hx4 hx13 hx12 hx1 hx2 hx3 z3 hb5 hb6 hlz
            by_cases t1 : x - far ≤ e0
            · have t1B : decide (x - far ≤ e0) = true := decide_eq_true t1
              by_cases t2 : e1 ≤ x + far
              · have t2B : decide (e1 ≤ x + far) = true := decide_eq_true t2
                by_cases t3 : y - far ≤ n0
                · have t3B : decide (y - far ≤ n0) = true := decide_eq_true t3
                  by_cases t4 : n1 ≤ y + far
                  · have t4B : decide (n1 ≤ y + far) = true := decide_eq_true t4
                    rcases Hkr.out with hr | hr | hr
                    all_goals rcases Hsc.out with hs | ⟨hs, hs'⟩ | ⟨hs, hs'⟩
                    all_goals first
                      | (exfalso; have h9 := Hins.out; omega)
                      | (subst hr hs; clear Hins Hsc Hkr; go_wp2_with (go_at_call 16; refine (Hsee.out _ (Hx0.out.trans hx14)).mono ?_; rintro e w5 ⟨sa, sc', rfl, _, _, hx5, _, _⟩); go_ret; exact ⟨rfl, Hx0.out.trans (hx14.trans (hx5.alloc _))⟩)
                  · have t4B : decide (n1 ≤ y + far) = false := decide_eq_false t4
                    rcases Hkr.out with hr | hr | hr
                    all_goals rcases Hsc.out with hs | ⟨hs, hs'⟩ | ⟨hs, hs'⟩
                    all_goals first
                      | (exfalso; have h9 := Hins.out; omega)
                      | (subst hr hs; clear Hins Hsc Hkr; go_wp2_with (go_at_call 16; refine (Hsee.out _ (Hx0.out.trans hx14)).mono ?_; rintro e w5 ⟨sa, sc', rfl, _, _, hx5, _, _⟩); go_ret; exact ⟨rfl, Hx0.out.trans (hx14.trans (hx5.alloc _))⟩)
                · have t3B : decide (y - far ≤ n0) = false := decide_eq_false t3
                  rcases Hkr.out with hr | hr | hr
                  all_goals rcases Hsc.out with hs | ⟨hs, hs'⟩ | ⟨hs, hs'⟩
                  all_goals first
                    | (exfalso; have h9 := Hins.out; omega)
                    | (subst hr hs; clear Hins Hsc Hkr; go_wp2_with (go_at_call 16; refine (Hsee.out _ (Hx0.out.trans hx14)).mono ?_; rintro e w5 ⟨sa, sc', rfl, _, _, hx5, _, _⟩); go_ret; exact ⟨rfl, Hx0.out.trans (hx14.trans (hx5.alloc _))⟩)
              · have t2B : decide (e1 ≤ x + far) = false := decide_eq_false t2
                rcases Hkr.out with hr | hr | hr
                all_goals rcases Hsc.out with hs | ⟨hs, hs'⟩ | ⟨hs, hs'⟩
                all_goals first
                  | (exfalso; have h9 := Hins.out; omega)
                  | (subst hr hs; clear Hins Hsc Hkr; go_wp2_with (go_at_call 16; refine (Hsee.out _ (Hx0.out.trans hx14)).mono ?_; rintro e w5 ⟨sa, sc', rfl, _, _, hx5, _, _⟩); go_ret; exact ⟨rfl, Hx0.out.trans (hx14.trans (hx5.alloc _))⟩)
            · have t1B : decide (x - far ≤ e0) = false := decide_eq_false t1
              rcases Hkr.out with hr | hr | hr
              all_goals rcases Hsc.out with hs | ⟨hs, hs'⟩ | ⟨hs, hs'⟩
              all_goals first
                | (exfalso; have h9 := Hins.out; omega)
                | (subst hr hs; clear Hins Hsc Hkr; go_wp2_with (go_at_call 16; refine (Hsee.out _ (Hx0.out.trans hx14)).mono ?_; rintro e w5 ⟨sa, sc', rfl, _, _, hx5, _, _⟩); go_ret; exact ⟨rfl, Hx0.out.trans (hx14.trans (hx5.alloc _))⟩)
    · have hmxx := hmx
      have Hch := Lib.hid hch
      clear hch
      clear hl hbd hnr hsee hao hA hmx
      go_enter Try.func11, Try.ntmps11
      go_wp2_with (first | (go_at_call 34; refine (Hal.out _).mono ?_; rintro e w1 ⟨rfl, hx1⟩; obtain ⟨z1, _⟩ := (Ext.refl w1).box (hx1.heap Ha0.out); clear hW0) | (go_at_call 29; refine (Hch.out _ (Hx0.out.trans hx1)).mono ?_; rintro e w2 ⟨rfl, hx2⟩))
      all_goals
        go_ret
        exact ⟨rfl, Hx0.out.trans (hx1.trans hx2)⟩
end Go.Proofs.Ytacdndehlkaaeaa
