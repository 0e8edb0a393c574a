/- The reference: Looks. -/
import Derived.Test.YtacdndehlkaaeaaVGr3
namespace Go.Proofs.Ytacdndehlkaaeaa
open Go.RowKit
set_option linter.unusedVariables false
set_option linter.unusedSimpArgs false
set_option maxRecDepth 100000 in
set_option maxHeartbeats 4000000 in
theorem looks_3 (x y fx fy tx ty nl nh far : Int) (w : World) : Calls Try.prog 42 #[Sight.val ⟨3, x, y, fx, fy, tx, ty, nl, nh, far⟩] w fun e w' => e = .returned (.bool (sightOk ⟨3, x, y, fx, fy, tx, ty, nl, nh, far⟩)) ∧ Ext w w' := by
  have hw := within_any
  have hs : sightOk ⟨3, x, y, fx, fy, tx, ty, nl, nh, far⟩ = (inB x (-10000000) 10000000 && inB y (-10000000) 10000000 && inB far 0 10000000) := rfl
  rw [hs]
  have hb1 := heap_alloc_new w (.cells #[.int .u8 3, .int .i64 x, .int .i64 y, .int .i64 fx, .int .i64 fy, .int .i64 tx, .int .i64 ty, .int .i64 nl, .int .i64 nh, .int .i64 far] 30)
  unfold Sight.val
  have Hw := Lib.hid hw
  have Hb1 := Lib.hid hb1
  clear hw hb1
  clear hs
  cases hA : inB x (-10000000) 10000000 with
  | false =>
    go_enter Try.func42, Try.ntmps42
    go_wp2_with (go_at_call 75; refine (Hw.out _ _ _ _).mono ?_; rintro e w1 ⟨rfl, rfl⟩)
    go_ret
    exact ⟨rfl, (Ext.refl _).alloc _⟩
  | true =>
    cases hB : inB y (-10000000) 10000000 with
    | false =>
      go_enter Try.func42, Try.ntmps42
      go_wp2_with (go_at_call 75; refine (Hw.out _ _ _ _).mono ?_; rintro e w1 ⟨rfl, rfl⟩)
      go_ret
      exact ⟨rfl, (Ext.refl _).alloc _⟩
    | true =>
      go_enter Try.func42, Try.ntmps42
      go_wp2_with (go_at_call 75; refine (Hw.out _ _ _ _).mono ?_; rintro e w1 ⟨rfl, rfl⟩)
      go_ret
      exact ⟨rfl, (Ext.refl _).alloc _⟩
set_option maxRecDepth 100000 in
set_option maxHeartbeats 4000000 in
theorem looks_2 (x y fx fy tx ty nl nh far : Int) (w : World) : Calls Try.prog 42 #[Sight.val ⟨2, x, y, fx, fy, tx, ty, nl, nh, far⟩] w fun e w' => e = .returned (.bool (sightOk ⟨2, x, y, fx, fy, tx, ty, nl, nh, far⟩)) ∧ Ext w w' := by
  have hw := within_any
  have hsp := fun W => spanned_any ⟨nl, nh⟩ (-10000000) 10000000 W
  have hs : sightOk ⟨2, x, y, fx, fy, tx, ty, nl, nh, far⟩ = spanOk ⟨nl, nh⟩ (-10000000) 10000000 := rfl
  rw [hs]
  have hb1 := heap_alloc_new w (.cells #[.int .u8 2, .int .i64 x, .int .i64 y, .int .i64 fx, .int .i64 fy, .int .i64 tx, .int .i64 ty, .int .i64 nl, .int .i64 nh, .int .i64 far] 30)
  generalize spanOk ⟨nl, nh⟩ (-10000000) 10000000 = R at *
  unfold Span.val at hsp
  unfold Sight.val
  try simp only at hsp
  have Hw := Lib.hid hw
  have Hb1 := Lib.hid hb1
  have Hsp := Lib.hid hsp
  clear hw hb1 hsp
  clear hs
  cases hA : inB x (-10000000) 10000000 with
  | false =>
    go_enter Try.func42, Try.ntmps42
    go_wp2_with (first | (go_at_call 75; refine (Hw.out _ _ _ _).mono ?_; rintro e w1 ⟨rfl, rfl⟩) | (go_at_call 59; refine (Hsp.out _).mono ?_; rintro e w2 ⟨rfl, hx2⟩; have hx3 := ((Ext.refl w).alloc _).trans hx2))
    go_ret
    exact ⟨rfl, hx3⟩
  | true =>
    go_enter Try.func42, Try.ntmps42
    go_wp2_with (first | (go_at_call 75; refine (Hw.out _ _ _ _).mono ?_; rintro e w1 ⟨rfl, rfl⟩) | (go_at_call 59; refine (Hsp.out _).mono ?_; rintro e w2 ⟨rfl, hx2⟩; have hx3 := ((Ext.refl w).alloc _).trans hx2))
    go_ret
    exact ⟨rfl, hx3⟩
set_option maxRecDepth 100000 in
set_option maxHeartbeats 4000000 in
theorem looks_not (kd x y fx fy tx ty nl nh far : Int) (w : World) (h1 : kd ≠ 1) (h2 : kd ≠ 2) (h3 : kd ≠ 3) : Calls Try.prog 42 #[Sight.val ⟨kd, x, y, fx, fy, tx, ty, nl, nh, far⟩] w fun e w' => e = .returned (.bool (sightOk ⟨kd, x, y, fx, fy, tx, ty, nl, nh, far⟩)) ∧ Ext w w' := by
  have hw := within_any
  have hs : sightOk ⟨kd, x, y, fx, fy, tx, ty, nl, nh, far⟩ = false := by
    unfold sightOk
    rw [if_neg h1, if_neg h2, if_neg h3]
  rw [hs]
  have e1 : (kd == 1) = false := by rw [beq_eq_false_iff_ne]; exact h1
  have e2 : (kd == 2) = false := by rw [beq_eq_false_iff_ne]; exact h2
  have e3 : (kd == 3) = false := by rw [beq_eq_false_iff_ne]; exact h3
  unfold Sight.val
  try simp only
  have Hw := Lib.hid hw
  clear hw
  clear hs
  cases hA : inB x (-10000000) 10000000 with
  | false =>
    go_enter Try.func42, Try.ntmps42
    go_wp2_with (go_at_call 75; refine (Hw.out _ _ _ _).mono ?_; rintro e w1 ⟨rfl, rfl⟩)
    go_ret
    exact ⟨rfl, (Ext.refl _).alloc _⟩
  | true =>
    go_enter Try.func42, Try.ntmps42
    go_wp2_with (go_at_call 75; refine (Hw.out _ _ _ _).mono ?_; rintro e w1 ⟨rfl, rfl⟩)
    go_ret
    exact ⟨rfl, (Ext.refl _).alloc _⟩
set_option maxRecDepth 100000 in
set_option maxHeartbeats 4000000 in
theorem looks_1 (x y fx fy tx ty nl nh far : Int) (w : World) : Calls Try.prog 42 #[Sight.val ⟨1, x, y, fx, fy, tx, ty, nl, nh, far⟩] w fun e w' => e = .returned (.bool (sightOk ⟨1, x, y, fx, fy, tx, ty, nl, nh, far⟩)) ∧ Ext w w' := by
  have hw := within_any
  have hc1 := fun W => course_any fx fy W
  have hc2 := fun W => course_any tx ty W
  have hs : sightOk ⟨1, x, y, fx, fy, tx, ty, nl, nh, far⟩ = ((inB x (-10000000) 10000000 && inB y (-10000000) 10000000) && (partOk fx && partOk fy && partOk tx && partOk ty) && decide (fy * tx < fx * ty)) := rfl
  rw [hs, Bool.and_assoc (partOk fx && partOk fy)]
  clear hs
  have hb1 := heap_alloc_new w (.cells #[.int .u8 1, .int .i64 x, .int .i64 y, .int .i64 fx, .int .i64 fy, .int .i64 tx, .int .i64 ty, .int .i64 nl, .int .i64 nh, .int .i64 far] 30)
  have hmul : (partOk fx && partOk fy) = true → (partOk tx && partOk ty) = true → (-1000000 ≤ fx * ty ∧ fx * ty ≤ 1000000) ∧ (-1000000 ≤ fy * tx ∧ fy * tx ≤ 1000000) := fun h1 h2 => by
    simp only [partOk, inB, Bool.and_eq_true, decide_eq_true_eq] at h1 h2
    have m1 := mul_le (A := 1000) (B := 1000) h1.1.1 h1.1.2 h2.2.1 h2.2.2
    have m2 := mul_le (A := 1000) (B := 1000) h1.2.1 h1.2.2 h2.1.1 h2.1.2
    simp only [Int.reduceMul, Int.reduceNeg] at m1 m2
    exact ⟨m1, m2⟩
  generalize (partOk fx && partOk fy) = C1 at *
  generalize (partOk tx && partOk ty) = C2 at *
  obtain ⟨P1, e1⟩ : ∃ P, fx * ty = P := ⟨_, rfl⟩
  obtain ⟨P2, e2⟩ : ∃ P, fy * tx = P := ⟨_, rfl⟩
  rw [e1, e2] at hmul ⊢
  obtain ⟨D, hD⟩ : ∃ D, decide (P2 < P1) = D := ⟨_, rfl⟩
  rw [hD]
  unfold Sight.val
  cases hA : inB x (-10000000) 10000000 with
  | false =>
    have Hw := Lib.hid hw
    have Hb1 := Lib.hid hb1
    have Hc1 := Lib.hid hc1
    have Hc2 := Lib.hid hc2
    clear hw hb1 hc1 hc2
    clear hmul e1 e2 hD
    go_enter Try.func42, Try.ntmps42
    go_wp2_with (go_at_call 75; refine (Hw.out _ _ _ _).mono ?_; rintro e w1 ⟨rfl, rfl⟩)
    go_ret
    exact ⟨ret_bool (by simp), (Ext.refl _).alloc _⟩
  | true =>
    cases hB : inB y (-10000000) 10000000 with
    | false =>
      have Hw := Lib.hid hw
      have Hb1 := Lib.hid hb1
      have Hc1 := Lib.hid hc1
      have Hc2 := Lib.hid hc2
      clear hw hb1 hc1 hc2
      clear hmul e1 e2 hD
      go_enter Try.func42, Try.ntmps42
      go_wp2_with (go_at_call 75; refine (Hw.out _ _ _ _).mono ?_; rintro e w1 ⟨rfl, rfl⟩)
      go_ret
      exact ⟨ret_bool (by simp), (Ext.refl _).alloc _⟩
    | true =>
      cases C1 with
      | false =>
        have Hw := Lib.hid hw
        have Hb1 := Lib.hid hb1
        have Hc1 := Lib.hid hc1
        have Hc2 := Lib.hid hc2
        clear hw hb1 hc1 hc2
        clear hmul e1 e2 hD
        go_enter Try.func42, Try.ntmps42
        go_wp2_with (first | (go_at_call 75; refine (Hw.out _ _ _ _).mono ?_; rintro e w1 ⟨rfl, rfl⟩) | (go_at_call 76; refine (Hc1.out _).mono ?_; rintro e w2 ⟨rfl, hx2⟩; have hb2 := hx2.heap Hb1.out; obtain ⟨f0, _⟩ := (Ext.refl w2).box hb2; have hx2' := ((Ext.refl w).alloc _).trans hx2; clear Hc1) | (go_at_call 76; refine (Hc2.out _).mono ?_; rintro e w3 ⟨rfl, hx3⟩; have hb3 := hx3.heap hb2; obtain ⟨g0, _⟩ := (Ext.refl w3).box hb3; have hx3' := hx2'.trans hx3))
        go_ret
        exact ⟨ret_bool (by simp), hx2'⟩
      | true =>
        cases C2 with
        | false =>
          have Hw := Lib.hid hw
          have Hb1 := Lib.hid hb1
          have Hc1 := Lib.hid hc1
          have Hc2 := Lib.hid hc2
          clear hw hb1 hc1 hc2
          clear hmul e1 e2 hD
          go_enter Try.func42, Try.ntmps42
          go_wp2_with (first | (go_at_call 75; refine (Hw.out _ _ _ _).mono ?_; rintro e w1 ⟨rfl, rfl⟩) | (go_at_call 76; refine (Hc1.out _).mono ?_; rintro e w2 ⟨rfl, hx2⟩; have hb2 := hx2.heap Hb1.out; obtain ⟨f0, _⟩ := (Ext.refl w2).box hb2; have hx2' := ((Ext.refl w).alloc _).trans hx2; clear Hc1) | (go_at_call 76; refine (Hc2.out _).mono ?_; rintro e w3 ⟨rfl, hx3⟩; have hb3 := hx3.heap hb2; obtain ⟨g0, _⟩ := (Ext.refl w3).box hb3; have hx3' := hx2'.trans hx3))
          go_ret
          exact ⟨ret_bool (by simp), hx3'⟩
        | true =>
          obtain ⟨m1, m2⟩ := hmul rfl rfl
          have Hw := Lib.hid hw
          have Hb1 := Lib.hid hb1
          have Hc1 := Lib.hid hc1
          have Hc2 := Lib.hid hc2
          clear hw hb1 hc1 hc2
          clear hmul
          go_enter Try.func42, Try.ntmps42
          go_wp2_with (first | (go_at_call 75; refine (Hw.out _ _ _ _).mono ?_; rintro e w1 ⟨rfl, rfl⟩) | (go_at_call 76; refine (Hc1.out _).mono ?_; rintro e w2 ⟨rfl, hx2⟩; have hb2 := hx2.heap Hb1.out; obtain ⟨f0, _⟩ := (Ext.refl w2).box hb2; have hx2' := ((Ext.refl w).alloc _).trans hx2; clear Hc1) | (go_at_call 76; refine (Hc2.out _).mono ?_; rintro e w3 ⟨rfl, hx3⟩; have hb3 := hx3.heap hb2; obtain ⟨g0, _⟩ := (Ext.refl w3).box hb3; have hx3' := hx2'.trans hx3))
          go_ret
          exact ⟨ret_bool (by simp), hx3'⟩
theorem looks_any (s : Sight) (w : World) : Calls Try.prog 42 #[s.val] w fun e w' => e = .returned (.bool (sightOk s)) ∧ Ext w w' := by
  obtain ⟨kd, x, y, fx, fy, tx, ty, nl, nh, far⟩ := s
  by_cases h1 : kd = 1
  · subst h1
    exact looks_1 x y fx fy tx ty nl nh far w
  · by_cases h2 : kd = 2
    · subst h2
      exact looks_2 x y fx fy tx ty nl nh far w
    · by_cases h3 : kd = 3
      · subst h3
        exact looks_3 x y fx fy tx ty nl nh far w
      · exact looks_not kd x y fx fy tx ty nl nh far w h1 h2 h3
end Go.Proofs.Ytacdndehlkaaeaa
