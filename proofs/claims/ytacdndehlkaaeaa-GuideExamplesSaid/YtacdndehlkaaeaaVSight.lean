/- The kinds of sight. -/
import Derived.Test.YtacdndehlkaaeaaVNear
namespace Go.Proofs.Ytacdndehlkaaeaa
open Go.RowKit
set_option linter.unusedVariables false
set_option linter.unusedSimpArgs false

theorem placed_any (s : Sight) (w : World) : Calls Try.prog 114 #[s.val] w fun e w' => e = .returned (.bool (placeOk s.x && placeOk s.y)) ∧ Ext w w' := by
  obtain ⟨kd, x, y, fx, fy, tx, ty, nl, nh, far⟩ := s
  have hf2 := fun W k hb => from2 (-10000000) 10000000 x y W k hb
  unfold Sight.val placeOk
  simp only
  have hnew := fun (W : World) (o : Obj) (b : Nat) (hb : b = W.heap.size) => show (W.alloc o).heap[b]? = some o from by rw [hb]; exact heap_alloc_new W o
  have Hf2 := Lib.hid hf2
  have Hnew := Lib.hid hnew
  clear hf2 hnew
  go_enter Try.func114, Try.ntmps114
  go_wp2_with (go_at_call 66; refine (Hf2.out _ _ (Hnew.out _ _ _ (by simp))).mono ?_; rintro e w1 ⟨rfl, hx1⟩)
  go_ret
  exact ⟨rfl, (((Ext.refl _).alloc _).alloc _).trans hx1⟩
theorem risen_any (s : Sight) (w : World) : Calls Try.prog 99 #[s.val] w fun e w' => e = .returned (.bool (risenB s)) ∧ Ext w w' := by
  obtain ⟨kd, x, y, fx, fy, tx, ty, nl, nh, far⟩ := s
  have hf := fun W k hb => ordered1 (-10000000) 10000000 ⟨nl, nh⟩ W k hb
  unfold Sight.val risenB
  simp only at hf ⊢
  have hnew := fun (W : World) (o : Obj) (b : Nat) (hb : b = W.heap.size) => show (W.alloc o).heap[b]? = some o from by rw [hb]; exact heap_alloc_new W o
  have Hf := Lib.hid hf
  have Hnew := Lib.hid hnew
  clear hf hnew
  go_enter Try.func99, Try.ntmps99
  go_wp2_with (go_at_call 57; refine (Hf.out _ _ (Hnew.out _ _ _ (by simp))).mono ?_; rintro e w1 ⟨rfl, hx1⟩)
  go_ret
  exact ⟨rfl, (((Ext.refl _).alloc _).alloc _).trans hx1⟩
set_option maxRecDepth 100000 in
set_option maxHeartbeats 4000000 in
theorem pointed_any (s : Sight) (w : World) : Calls Try.prog 97 #[s.val] w fun e w' => e = .returned (.bool (pointedB s)) ∧ Ext w w' := by
  obtain ⟨kd, x, y, fx, fy, tx, ty, nl, nh, far⟩ := s
  have hf4 := fun W k hb => from4 (-1000) 1000 fx fy tx ty W k hb
  have hp := fun W => placed_any ⟨kd, x, y, fx, fy, tx, ty, nl, nh, far⟩ W
  have hpb : pointedB ⟨kd, x, y, fx, fy, tx, ty, nl, nh, far⟩ = ((placeOk x && placeOk y) && (inB fx (-1000) 1000 && inB fy (-1000) 1000 && inB tx (-1000) 1000 && inB ty (-1000) 1000) && decide (fy * tx < fx * ty)) := rfl
  rw [hpb]
  unfold Sight.val at hp ⊢
  simp only at hp ⊢
  have hnew := fun (W : World) (o : Obj) (b : Nat) (hb : b = W.heap.size) => show (W.alloc o).heap[b]? = some o from by rw [hb]; exact heap_alloc_new W o
  have hb1 := heap_alloc_new w (.cells #[.int .u8 kd, .int .i64 x, .int .i64 y, .int .i64 fx, .int .i64 fy, .int .i64 tx, .int .i64 ty, .int .i64 nl, .int .i64 nh, .int .i64 far] 133)
  have hfin : ∀ {P Q D R : Bool}, (P && Q && D) = R → ∀ {w' : World}, Ext w w' → Ending.returned (.bool R) = Ending.returned (.bool (P && Q && D)) ∧ Ext w w' := fun h _ hx => ⟨by rw [h], hx⟩
  by_cases hall : (placeOk x && placeOk y) = true ∧ (inB fx (-1000) 1000 && inB fy (-1000) 1000 && inB tx (-1000) 1000 && inB ty (-1000) 1000) = true
  · obtain ⟨hQ, hP⟩ := hall
    have hr := hP
    simp only [inB, Bool.and_eq_true, decide_eq_true_eq] at hr
    obtain ⟨⟨⟨⟨r0, r1⟩, r2, r3⟩, r4, r5⟩, r6, r7⟩ := hr
    have m1 := mul_le (A := 1000) (B := 1000) r0 r1 r6 r7
    have m2 := mul_le (A := 1000) (B := 1000) r2 r3 r4 r5
    simp only [Int.reduceMul, Int.reduceNeg] at m1 m2
    rw [hQ] at hp ⊢
    rw [hP] at hf4 ⊢
    obtain ⟨P1, e1⟩ : ∃ P, fx * ty = P := ⟨_, rfl⟩
    obtain ⟨P2, e2⟩ : ∃ P, fy * tx = P := ⟨_, rfl⟩
    rw [e1] at m1 ⊢
    rw [e2] at m2 ⊢
    rw [show (true && true && decide (P2 < P1)) = decide (P2 < P1) by simp]
    obtain ⟨D, hD⟩ : ∃ D, decide (P2 < P1) = D := ⟨_, rfl⟩
    rw [hD]
    have Hf4 := Lib.hid hf4
    have Hp := Lib.hid hp
    have Hnew := Lib.hid hnew
    have Hb1 := Lib.hid hb1
    clear hf4 hp hnew hb1
    clear hpb hfin hP hQ
    go_enter Try.func97, Try.ntmps97
    go_wp2_with (first | (go_at_call 66; refine (Hf4.out _ _ (Hnew.out _ _ _ (by simp))).mono ?_; rintro e w1 ⟨rfl, hx1⟩; clear Hf4; have hb2 := (((Ext.refl _).alloc _).trans hx1).heap Hb1.out; have hx1' := (((Ext.refl w).alloc _).alloc _).trans hx1; obtain ⟨f0, _⟩ := (Ext.refl w1).box hb2) | (go_at_call 114; refine (Hp.out _).mono ?_; rintro e w2 ⟨rfl, hx2⟩; obtain ⟨g0, _⟩ := hx2.box hb2; have hx2' := hx1'.trans hx2))
    go_ret
    exact ⟨rfl, hx2'⟩
  · obtain ⟨P, hP⟩ : ∃ P, (inB fx (-1000) 1000 && inB fy (-1000) 1000 && inB tx (-1000) 1000 && inB ty (-1000) 1000) = P := ⟨_, rfl⟩
    rw [hP] at hf4 hall ⊢
    obtain ⟨D, hD⟩ : ∃ D, decide (fy * tx < fx * ty) = D := ⟨_, rfl⟩
    rw [hD]
    cases hQ : placeOk x && placeOk y with
    | false =>
      rw [hQ] at hp
      rw [show (false && P && D) = false by simp]
      have Hf4 := Lib.hid hf4
      have Hp := Lib.hid hp
      have Hnew := Lib.hid hnew
      have Hb1 := Lib.hid hb1
      clear hf4 hp hnew hb1
      clear hpb hfin hP hQ hall hD
      go_enter Try.func97, Try.ntmps97
      go_wp2_with (first | (go_at_call 66; refine (Hf4.out _ _ (Hnew.out _ _ _ (by simp))).mono ?_; rintro e w1 ⟨rfl, hx1⟩; clear Hf4; have hb2 := (((Ext.refl _).alloc _).trans hx1).heap Hb1.out; have hx1' := (((Ext.refl w).alloc _).alloc _).trans hx1; obtain ⟨f0, _⟩ := (Ext.refl w1).box hb2) | (go_at_call 114; refine (Hp.out _).mono ?_; rintro e w2 ⟨rfl, hx2⟩; obtain ⟨g0, _⟩ := hx2.box hb2; have hx2' := hx1'.trans hx2))
      go_ret
      exact ⟨rfl, hx2'⟩
    | true =>
      obtain rfl : P = false := by
        cases P with
        | false => rfl
        | true => exact absurd ⟨hQ, rfl⟩ hall
      rw [hQ] at hp
      rw [show (true && false && D) = false by simp]
      have Hf4 := Lib.hid hf4
      have Hp := Lib.hid hp
      have Hnew := Lib.hid hnew
      have Hb1 := Lib.hid hb1
      clear hf4 hp hnew hb1
      clear hpb hfin hP hQ hall hD
      go_enter Try.func97, Try.ntmps97
      go_wp2_with (first | (go_at_call 66; refine (Hf4.out _ _ (Hnew.out _ _ _ (by simp))).mono ?_; rintro e w1 ⟨rfl, hx1⟩; clear Hf4; have hb2 := (((Ext.refl _).alloc _).trans hx1).heap Hb1.out; have hx1' := (((Ext.refl w).alloc _).alloc _).trans hx1; obtain ⟨f0, _⟩ := (Ext.refl w1).box hb2) | (go_at_call 114; refine (Hp.out _).mono ?_; rintro e w2 ⟨rfl, hx2⟩; obtain ⟨g0, _⟩ := hx2.box hb2; have hx2' := hx1'.trans hx2))
      go_ret
      exact ⟨rfl, hx2'⟩
theorem close_any (s : Sight) (w : World) : Calls Try.prog 101 #[s.val] w fun e w' => e = .returned (.bool (closeB s)) ∧ Ext w w' := by
  obtain ⟨kd, x, y, fx, fy, tx, ty, nl, nh, far⟩ := s
  have hf1 := fun W k hb => from1 0 10000000 far W k hb
  have hp := fun W => placed_any ⟨kd, x, y, fx, fy, tx, ty, nl, nh, far⟩ W
  have hpb : closeB ⟨kd, x, y, fx, fy, tx, ty, nl, nh, far⟩ = ((placeOk x && placeOk y) && inB far 0 10000000) := rfl
  rw [hpb]
  unfold Sight.val at hp ⊢
  simp only at hp ⊢
  have hnew := fun (W : World) (o : Obj) (b : Nat) (hb : b = W.heap.size) => show (W.alloc o).heap[b]? = some o from by rw [hb]; exact heap_alloc_new W o
  have hb1 := heap_alloc_new w (.cells #[.int .u8 kd, .int .i64 x, .int .i64 y, .int .i64 fx, .int .i64 fy, .int .i64 tx, .int .i64 ty, .int .i64 nl, .int .i64 nh, .int .i64 far] 133)
  obtain ⟨P, hP⟩ : ∃ P, inB far 0 10000000 = P := ⟨_, rfl⟩
  rw [hP] at hf1 ⊢
  cases hQ : placeOk x && placeOk y with
  | false =>
    rw [hQ] at hp
    rw [Bool.false_and]
    have Hf1 := Lib.hid hf1
    have Hp := Lib.hid hp
    have Hnew := Lib.hid hnew
    have Hb1 := Lib.hid hb1
    clear hf1 hp hnew hb1
    clear hpb hP hQ
    go_enter Try.func101, Try.ntmps101
    go_wp2_with (go_at_call 114; refine (Hp.out _).mono ?_; rintro e w2 ⟨rfl, hx2⟩; have hx2' := ((Ext.refl w).alloc _).trans hx2)
    go_ret
    exact ⟨rfl, hx2'⟩
  | true =>
    rw [hQ] at hp
    rw [Bool.true_and]
    have Hf1 := Lib.hid hf1
    have Hp := Lib.hid hp
    have Hnew := Lib.hid hnew
    have Hb1 := Lib.hid hb1
    clear hf1 hp hnew hb1
    clear hpb hP hQ
    go_enter Try.func101, Try.ntmps101
    go_wp2_with (first | (go_at_call 114; refine (Hp.out _).mono ?_; rintro e w2 ⟨rfl, hx2⟩; have hx2' := ((Ext.refl w).alloc _).trans hx2; obtain ⟨f0, _⟩ := hx2.box Hb1.out) | (go_at_call 66; refine (Hf1.out _ _ (Hnew.out _ _ _ (by simp))).mono ?_; rintro e w1 ⟨rfl, hx1⟩))
    go_ret
    exact ⟨rfl, (hx2'.alloc _).trans hx1⟩
/-- halves in a slice of their own -/
def OwnHalves (l : List Half) (w : World) (e : Ending) (w' : World) : Prop := ∃ a c, e = .returned (.slice a l.length c) ∧ l.length ≤ c ∧ c ≤ maxLen ∧ Ext w w' ∧ HalvesAt w' a l.length l ∧ From w.heap.size a
theorem NewHalves.own {l : List Half} {w w' : World} {e : Ending} (h : NewHalves l w e w') (hl : l.length ≤ maxLen) : OwnHalves l w e w' :=
  let ⟨b, h1, h2, h3, h4⟩ := h; ⟨_, _, h1, Nat.le_refl _, hl, h3, halves_block l h4, fun x hx => by cases hx; exact h2⟩
theorem round_any (s : Sight) (w : World) (h : closeB s = true) : Calls Try.prog 102 #[s.val] w (OwnHalves (around s.x s.y s.far) w) := by
  obtain ⟨kd, x, y, fx, fy, tx, ty, nl, nh, far⟩ := s
  have ha := fun W => around_any x y far W (nearOk_of h)
  have hal : (around x y far).length = 4 := rfl
  unfold Sight.val
  simp only
  generalize around x y far = A at *
  have Ha := Lib.hid ha
  have Hal := Lib.hid hal
  clear ha hal
  clear h
  go_enter Try.func102, Try.ntmps102
  go_wp2_with (go_at_call 86; refine (Ha.out _).mono ?_; rintro e w1 ⟨b, rfl, h1, h2, h3⟩)
  go_ret
  exact ⟨_, _, rfl, Nat.le_refl _, by rw [Hal.out]; decide, ((Ext.refl _).alloc _).trans h2, halves_block _ h3, fun x hx => by cases hx; exact Nat.le_trans (by simp) h1⟩
theorem strip_any (s : Sight) (w : World) (h : risenB s = true) : Calls Try.prog 100 #[s.val] w (OwnHalves (strip s) w) := by
  obtain ⟨kd, x, y, fx, fy, tx, ty, nl, nh, far⟩ := s
  simp only [risenB, spanOk, Bool.and_eq_true, decide_eq_true_eq] at h
  obtain ⟨⟨h0, h1⟩, h2⟩ := h
  have hb := fun W => box_any zs ⟨nl, nh⟩ W ⟨by decide, by decide⟩ ⟨by decide, by decide⟩ ⟨by simp only; omega, by simp only; omega⟩ ⟨by simp only; omega, by simp only; omega⟩
  have e0 : Span.val zs = .agg #[.int .i64 0, .int .i64 0] := rfl
  rw [e0] at hb
  have hbl : (box zs ⟨nl, nh⟩).length = 4 := rfl
  unfold Span.val at hb
  unfold Sight.val
  simp only at hb ⊢
  have Hb := Lib.hid hb
  clear hb
  clear e0
  go_enter Try.func100, Try.ntmps100
  go_wp2_with (go_at_call 58; refine (Hb.out _).mono ?_; rintro e w1 ⟨b, rfl, h1', h2, h3⟩; rw [hbl])
  go_ret
  have hbh := halves_block _ h3
  obtain ⟨b', off, e, hc⟩ := hbh.2 (show 0 < 4 by decide)
  cases e
  refine ⟨_, _, rfl, (show 2 ≤ 2 from Nat.le_refl 2), (show 2 ≤ maxLen by decide), ((Ext.refl _).alloc _).trans h2, ⟨rfl, fun _ => ⟨b, _, rfl, fun k hk j v hv => ?_⟩⟩, fun x hx => by cases hx; exact Nat.le_trans (by simp) h1'⟩
  replace hk : k < 2 := hk
  match k, hk with
  | 0, _ => exact hc 2 (show 2 < 4 by omega) j v hv
  | 1, _ => exact hc 3 (show 3 < 4 by omega) j v hv
set_option maxRecDepth 100000 in
set_option maxHeartbeats 4000000 in
theorem wedge_any (s : Sight) (w : World) (h : pointedB s = true) : Calls Try.prog 98 #[s.val] w (OwnHalves (wedge s) w) := by
  obtain ⟨kd, x, y, fx, fy, tx, ty, nl, nh, far⟩ := s
  simp only [pointedB, placeOk, partOk, inB, Bool.and_eq_true, decide_eq_true_eq] at h
  obtain ⟨⟨⟨⟨x0, x1⟩, y0, y1⟩, ⟨⟨⟨r0, r1⟩, r2, r3⟩, r4, r5⟩, r6, r7⟩, _⟩ := h
  have m1 := mul_le (A := 1000) (B := 10000000) r0 r1 y0 y1
  have m2 := mul_le (A := 1000) (B := 10000000) r2 r3 x0 x1
  have m3 := mul_le (A := 1000) (B := 10000000) r6 r7 x0 x1
  have m4 := mul_le (A := 1000) (B := 10000000) r4 r5 y0 y1
  simp only [Int.reduceMul, Int.reduceNeg] at m1 m2 m3 m4
  have hw : wedge ⟨kd, x, y, fx, fy, tx, ty, nl, nh, far⟩ = [⟨-fy, fx, fx * y - fy * x⟩, ⟨ty, -tx, ty * x - tx * y⟩] := rfl
  rw [hw]
  clear hw
  obtain ⟨P1, e1⟩ : ∃ P, fx * y = P := ⟨_, rfl⟩
  obtain ⟨P2, e2⟩ : ∃ P, fy * x = P := ⟨_, rfl⟩
  obtain ⟨P3, e3⟩ : ∃ P, ty * x = P := ⟨_, rfl⟩
  obtain ⟨P4, e4⟩ : ∃ P, tx * y = P := ⟨_, rfl⟩
  rw [e1] at m1 ⊢
  rw [e2] at m2 ⊢
  rw [e3] at m3 ⊢
  rw [e4] at m4 ⊢
  unfold Sight.val
  simp only
  go_enter Try.func98, Try.ntmps98
  go_wp2_with fail
  go_ret
  refine ⟨_, _, rfl, (show 2 ≤ 2 from Nat.le_refl 2), (show 2 ≤ maxLen by decide), ?_, halves_block [⟨-fy, fx, P1 - P2⟩, ⟨ty, -tx, P3 - P4⟩] (alloc_at _ _ _ (by simp)), fun x hx => by cases hx; simp; omega⟩
  repeat (first | exact Ext.refl _ | refine Ext.alloc ?_ _ | refine Ext.setCell ?_ (by first | (simp; done) | (simp; omega)) _ | refine Ext.drew ?_)
end Go.Proofs.Ytacdndehlkaaeaa
