/- Contracts of layer 4: looks (ported). -/
import Derived.Test.YtcoelhpmkhimpaaGreatVGp
import Derived.Test.YtcoelhpmkhimpaaGreatVGo
import Derived.Test.YtcoelhpmkhimpaaGreatVGq
import Derived.Test.YtcoelhpmkhimpaaGreatVGs
import Derived.Test.YtcoelhpmkhimpaaGreatVGn
import Derived.Test.YtcoelhpmkhimpaaGreatVGm
import Derived.Laws.EntriesVeiled
namespace Go.Proofs.YtcoelhpmkhimpaaGreat
open Go.RowKit
set_option linter.unusedVariables false
set_option linter.unusedSimpArgs false
theorem floor_any (a b : Int) (w : World) (ha0 : -1000000000000000 ≤ a) (ha1 : a ≤ 1000000000000000) (hb0 : 1 ≤ b) (hb1 : b ≤ 1000000000000000) :
    Calls Tryz.prog 75 #[.int .i64 a, .int .i64 b] w fun e w' => e = .returned (.int .i64 (flo a b)) ∧ w' = w := by
  have hbd := flo_bd (a := a) (b := b) (M := 1000000000000000) (by omega) ha0 ha1
  by_cases h : a < 0
  · have hB : decide (a < 0) = true := decide_eq_true h
    have he := flo_neg (a := a) (b := b) (by omega)
    obtain ⟨q, hq⟩ : ∃ q, flo a b = q := ⟨_, rfl⟩
    rw [hq] at he hbd ⊢
    have h0 : 0 ≤ b - 1 - a := by omega
    obtain ⟨r, hr⟩ : ∃ r, (b - 1 - a) / b = r := ⟨_, rfl⟩
    rw [hr] at he
    have htd : (b - 1 - a).tdiv b = r := by rw [Int.tdiv_eq_ediv_of_nonneg h0, hr]
    have hb2 : b ≠ 0 := by omega
    go_enter Tryz.func75, Tryz.ntmps75
    go_wp2_with fail
    go_ret
    exact ⟨ret_int (by omega), rfl⟩
  · have hB : decide (a < 0) = false := decide_eq_false h
    have htd : a.tdiv b = flo a b := by rw [Int.tdiv_eq_ediv_of_nonneg (by omega)]; rfl
    generalize flo a b = q at *
    have hb2 : b ≠ 0 := by omega
    go_enter Tryz.func75, Tryz.ntmps75
    go_wp2_with fail
    go_ret
    exact ⟨rfl, rfl⟩
theorem placed_any (s : Sight) (w : World) : Calls Tryz.prog 118 #[s.val] w fun e w' => e = .returned (.bool (placeOk s.x && placeOk s.y)) ∧ Ext w w' := by
  obtain ⟨kd, x, y, fx, fy, tx, ty, nl, nh, far⟩ := s
  have hf2 := fun W k hb => from2 (-10000000) 10000000 x y W k hb
  unfold Sight.val placeOk
  simp only
  have hnew := fun (W : World) (o : Obj) (b : Nat) (hb : b = W.heap.size) => show (W.alloc o).heap[b]? = some o from by rw [hb]; exact heap_alloc_new W o
  have Hf2 := Lib.hid hf2
  have Hnew := Lib.hid hnew
  clear hf2 hnew
  go_enter Tryz.func118, Tryz.ntmps118
  go_wp2_with (go_at_call 54; refine (Hf2.out _ _ (Hnew.out _ _ _ (by simp))).mono ?_; rintro e w1 ⟨rfl, hx1⟩)
  go_ret
  exact ⟨rfl, (((Ext.refl _).alloc _).alloc _).trans hx1⟩
theorem risen_any (s : Sight) (w : World) : Calls Tryz.prog 102 #[s.val] w fun e w' => e = .returned (.bool (risenB s)) ∧ Ext w w' := by
  obtain ⟨kd, x, y, fx, fy, tx, ty, nl, nh, far⟩ := s
  have hf := fun W k hb => ordered1 (-10000000) 10000000 ⟨nl, nh⟩ W k hb
  unfold Sight.val risenB
  simp only at hf ⊢
  have hnew := fun (W : World) (o : Obj) (b : Nat) (hb : b = W.heap.size) => show (W.alloc o).heap[b]? = some o from by rw [hb]; exact heap_alloc_new W o
  have Hf := Lib.hid hf
  have Hnew := Lib.hid hnew
  clear hf hnew
  go_enter Tryz.func102, Tryz.ntmps102
  go_wp2_with (go_at_call 43; refine (Hf.out _ _ (Hnew.out _ _ _ (by simp))).mono ?_; rintro e w1 ⟨rfl, hx1⟩)
  go_ret
  exact ⟨rfl, (((Ext.refl _).alloc _).alloc _).trans hx1⟩
set_option maxRecDepth 100000 in
set_option maxHeartbeats 4000000 in
theorem pointed_any (s : Sight) (w : World) : Calls Tryz.prog 100 #[s.val] w fun e w' => e = .returned (.bool (pointedB s)) ∧ Ext w w' := by
  obtain ⟨kd, x, y, fx, fy, tx, ty, nl, nh, far⟩ := s
  have hf4 := fun W k hb => from4 (-1000) 1000 fx fy tx ty W k hb
  have hp := fun W => placed_any ⟨kd, x, y, fx, fy, tx, ty, nl, nh, far⟩ W
  have hpb : pointedB ⟨kd, x, y, fx, fy, tx, ty, nl, nh, far⟩ = ((placeOk x && placeOk y) && (inB fx (-1000) 1000 && inB fy (-1000) 1000 && inB tx (-1000) 1000 && inB ty (-1000) 1000) && decide (fy * tx < fx * ty)) := rfl
  rw [hpb]
  unfold Sight.val at hp ⊢
  simp only at hp ⊢
  have hnew := fun (W : World) (o : Obj) (b : Nat) (hb : b = W.heap.size) => show (W.alloc o).heap[b]? = some o from by rw [hb]; exact heap_alloc_new W o
  have hb1 := heap_alloc_new w (.cells #[.int .u8 kd, .int .i64 x, .int .i64 y, .int .i64 fx, .int .i64 fy, .int .i64 tx, .int .i64 ty, .int .i64 nl, .int .i64 nh, .int .i64 far] 147)
  have hfin : ∀ {P Q D R : Bool}, (P && Q && D) = R → ∀ {w' : World}, Ext w w' → Ending.returned (.bool R) = Ending.returned (.bool (P && Q && D)) ∧ Ext w w' := fun h _ hx => ⟨by rw [h], hx⟩
  by_cases hall : (placeOk x && placeOk y) = true ∧ (inB fx (-1000) 1000 && inB fy (-1000) 1000 && inB tx (-1000) 1000 && inB ty (-1000) 1000) = true
  · obtain ⟨hQ, hP⟩ := hall
    have hr := hP
    simp only [inB, Bool.and_eq_true, decide_eq_true_eq] at hr
    obtain ⟨⟨⟨⟨r0, r1⟩, r2, r3⟩, r4, r5⟩, r6, r7⟩ := hr
    have m1 := mul_le (A := 1000) (B := 1000) r0 r1 r6 r7
    have m2 := mul_le (A := 1000) (B := 1000) r2 r3 r4 r5
    simp only [Int.reduceMul, Int.reduceNeg] at m1 m2
    rw [hQ] at hp ⊢
    rw [hP] at hf4 ⊢
    obtain ⟨P1, e1⟩ : ∃ P, fx * ty = P := ⟨_, rfl⟩
    obtain ⟨P2, e2⟩ : ∃ P, fy * tx = P := ⟨_, rfl⟩
    rw [e1] at m1 ⊢
    rw [e2] at m2 ⊢
    rw [show (true && true && decide (P2 < P1)) = decide (P2 < P1) by simp]
    obtain ⟨D, hD⟩ : ∃ D, decide (P2 < P1) = D := ⟨_, rfl⟩
    rw [hD]
    have Hf4 := Lib.hid hf4
    have Hp := Lib.hid hp
    have Hnew := Lib.hid hnew
    have Hb1 := Lib.hid hb1
    clear hf4 hp hnew hb1
    clear hpb hfin hP hQ
    go_enter Tryz.func100, Tryz.ntmps100
    go_wp2_with (first | (go_at_call 54; refine (Hf4.out _ _ (Hnew.out _ _ _ (by simp))).mono ?_; rintro e w1 ⟨rfl, hx1⟩; clear Hf4; have hb2 := (((Ext.refl _).alloc _).trans hx1).heap Hb1.out; have hx1' := (((Ext.refl w).alloc _).alloc _).trans hx1; obtain ⟨f0, _⟩ := (Ext.refl w1).box hb2) | (go_at_call 118; refine (Hp.out _).mono ?_; rintro e w2 ⟨rfl, hx2⟩; obtain ⟨g0, _⟩ := hx2.box hb2; have hx2' := hx1'.trans hx2))
    go_ret
    exact ⟨rfl, hx2'⟩
  · obtain ⟨P, hP⟩ : ∃ P, (inB fx (-1000) 1000 && inB fy (-1000) 1000 && inB tx (-1000) 1000 && inB ty (-1000) 1000) = P := ⟨_, rfl⟩
    rw [hP] at hf4 hall ⊢
    obtain ⟨D, hD⟩ : ∃ D, decide (fy * tx < fx * ty) = D := ⟨_, rfl⟩
    rw [hD]
    cases hQ : placeOk x && placeOk y with
    | false =>
      rw [hQ] at hp
      rw [show (false && P && D) = false by simp]
      have Hf4 := Lib.hid hf4
      have Hp := Lib.hid hp
      have Hnew := Lib.hid hnew
      have Hb1 := Lib.hid hb1
      clear hf4 hp hnew hb1
      clear hpb hfin hP hQ hall hD
      go_enter Tryz.func100, Tryz.ntmps100
      go_wp2_with (first | (go_at_call 54; refine (Hf4.out _ _ (Hnew.out _ _ _ (by simp))).mono ?_; rintro e w1 ⟨rfl, hx1⟩; clear Hf4; have hb2 := (((Ext.refl _).alloc _).trans hx1).heap Hb1.out; have hx1' := (((Ext.refl w).alloc _).alloc _).trans hx1; obtain ⟨f0, _⟩ := (Ext.refl w1).box hb2) | (go_at_call 118; refine (Hp.out _).mono ?_; rintro e w2 ⟨rfl, hx2⟩; obtain ⟨g0, _⟩ := hx2.box hb2; have hx2' := hx1'.trans hx2))
      go_ret
      exact ⟨rfl, hx2'⟩
    | true =>
      obtain rfl : P = false := by
        cases P with
        | false => rfl
        | true => exact absurd ⟨hQ, rfl⟩ hall
      rw [hQ] at hp
      rw [show (true && false && D) = false by simp]
      have Hf4 := Lib.hid hf4
      have Hp := Lib.hid hp
      have Hnew := Lib.hid hnew
      have Hb1 := Lib.hid hb1
      clear hf4 hp hnew hb1
      clear hpb hfin hP hQ hall hD
      go_enter Tryz.func100, Tryz.ntmps100
      go_wp2_with (first | (go_at_call 54; refine (Hf4.out _ _ (Hnew.out _ _ _ (by simp))).mono ?_; rintro e w1 ⟨rfl, hx1⟩; clear Hf4; have hb2 := (((Ext.refl _).alloc _).trans hx1).heap Hb1.out; have hx1' := (((Ext.refl w).alloc _).alloc _).trans hx1; obtain ⟨f0, _⟩ := (Ext.refl w1).box hb2) | (go_at_call 118; refine (Hp.out _).mono ?_; rintro e w2 ⟨rfl, hx2⟩; obtain ⟨g0, _⟩ := hx2.box hb2; have hx2' := hx1'.trans hx2))
      go_ret
      exact ⟨rfl, hx2'⟩
theorem close_any (s : Sight) (w : World) : Calls Tryz.prog 104 #[s.val] w fun e w' => e = .returned (.bool (closeB s)) ∧ Ext w w' := by
  obtain ⟨kd, x, y, fx, fy, tx, ty, nl, nh, far⟩ := s
  have hf1 := fun W k hb => from1 0 10000000 far W k hb
  have hp := fun W => placed_any ⟨kd, x, y, fx, fy, tx, ty, nl, nh, far⟩ W
  have hpb : closeB ⟨kd, x, y, fx, fy, tx, ty, nl, nh, far⟩ = ((placeOk x && placeOk y) && inB far 0 10000000) := rfl
  rw [hpb]
  unfold Sight.val at hp ⊢
  simp only at hp ⊢
  have hnew := fun (W : World) (o : Obj) (b : Nat) (hb : b = W.heap.size) => show (W.alloc o).heap[b]? = some o from by rw [hb]; exact heap_alloc_new W o
  have hb1 := heap_alloc_new w (.cells #[.int .u8 kd, .int .i64 x, .int .i64 y, .int .i64 fx, .int .i64 fy, .int .i64 tx, .int .i64 ty, .int .i64 nl, .int .i64 nh, .int .i64 far] 147)
  obtain ⟨P, hP⟩ : ∃ P, inB far 0 10000000 = P := ⟨_, rfl⟩
  rw [hP] at hf1 ⊢
  cases hQ : placeOk x && placeOk y with
  | false =>
    rw [hQ] at hp
    rw [Bool.false_and]
    have Hf1 := Lib.hid hf1
    have Hp := Lib.hid hp
    have Hnew := Lib.hid hnew
    have Hb1 := Lib.hid hb1
    clear hf1 hp hnew hb1
    clear hpb hP hQ
    go_enter Tryz.func104, Tryz.ntmps104
    go_wp2_with (go_at_call 118; refine (Hp.out _).mono ?_; rintro e w2 ⟨rfl, hx2⟩; have hx2' := ((Ext.refl w).alloc _).trans hx2)
    go_ret
    exact ⟨rfl, hx2'⟩
  | true =>
    rw [hQ] at hp
    rw [Bool.true_and]
    have Hf1 := Lib.hid hf1
    have Hp := Lib.hid hp
    have Hnew := Lib.hid hnew
    have Hb1 := Lib.hid hb1
    clear hf1 hp hnew hb1
    clear hpb hP hQ
    go_enter Tryz.func104, Tryz.ntmps104
    go_wp2_with (first | (go_at_call 118; refine (Hp.out _).mono ?_; rintro e w2 ⟨rfl, hx2⟩; have hx2' := ((Ext.refl w).alloc _).trans hx2; obtain ⟨f0, _⟩ := hx2.box Hb1.out) | (go_at_call 54; refine (Hf1.out _ _ (Hnew.out _ _ _ (by simp))).mono ?_; rintro e w1 ⟨rfl, hx1⟩))
    go_ret
    exact ⟨rfl, (hx2'.alloc _).trans hx1⟩
theorem round_any (s : Sight) (w : World) (h : closeB s = true) : Calls Tryz.prog 105 #[s.val] w (OwnHalves (around s.x s.y s.far) w) := by
  obtain ⟨kd, x, y, fx, fy, tx, ty, nl, nh, far⟩ := s
  have ha := fun W => around_any x y far W (nearOk_of h)
  have hal : (around x y far).length = 4 := rfl
  unfold Sight.val
  simp only
  generalize around x y far = A at *
  have Ha := Lib.hid ha
  have Hal := Lib.hid hal
  clear ha hal
  clear h
  go_enter Tryz.func105, Tryz.ntmps105
  go_wp2_with (go_at_call 57; refine (Ha.out _).mono ?_; rintro e w1 ⟨b, rfl, h1, h2, h3⟩)
  go_ret
  exact ⟨_, _, rfl, Nat.le_refl _, by rw [Hal.out]; decide, ((Ext.refl _).alloc _).trans h2, halves_block _ h3, fun x hx => by cases hx; exact Nat.le_trans (by simp) h1⟩
theorem strip_any (s : Sight) (w : World) (h : risenB s = true) : Calls Tryz.prog 103 #[s.val] w (OwnHalves (strip s) w) := by
  obtain ⟨kd, x, y, fx, fy, tx, ty, nl, nh, far⟩ := s
  simp only [risenB, spanOk, Bool.and_eq_true, decide_eq_true_eq] at h
  obtain ⟨⟨h0, h1⟩, h2⟩ := h
  have hb := fun W => box_any zs ⟨nl, nh⟩ W ⟨by decide, by decide⟩ ⟨by decide, by decide⟩ ⟨by simp only; omega, by simp only; omega⟩ ⟨by simp only; omega, by simp only; omega⟩
  have e0 : Span.val zs = .agg #[.int .i64 0, .int .i64 0] := rfl
  rw [e0] at hb
  have hbl : (box zs ⟨nl, nh⟩).length = 4 := rfl
  unfold Span.val at hb
  unfold Sight.val
  simp only at hb ⊢
  have Hb := Lib.hid hb
  clear hb
  clear e0
  go_enter Tryz.func103, Tryz.ntmps103
  go_wp2_with (go_at_call 44; refine (Hb.out _).mono ?_; rintro e w1 ⟨b, rfl, h1', h2, h3⟩; rw [hbl])
  go_ret
  have hbh := halves_block _ h3
  obtain ⟨b', off, e, hc⟩ := hbh.2 (show 0 < 4 by decide)
  cases e
  refine ⟨_, _, rfl, (show 2 ≤ 2 from Nat.le_refl 2), (show 2 ≤ maxLen by decide), ((Ext.refl _).alloc _).trans h2, ⟨rfl, fun _ => ⟨b, _, rfl, fun k hk j v hv => ?_⟩⟩, fun x hx => by cases hx; exact Nat.le_trans (by simp) h1'⟩
  replace hk : k < 2 := hk
  match k, hk with
  | 0, _ => exact hc 2 (show 2 < 4 by omega) j v hv
  | 1, _ => exact hc 3 (show 3 < 4 by omega) j v hv
set_option maxRecDepth 100000 in
set_option maxHeartbeats 4000000 in
theorem wedge_any (s : Sight) (w : World) (h : pointedB s = true) : Calls Tryz.prog 101 #[s.val] w (OwnHalves (wedge s) w) := by
  obtain ⟨kd, x, y, fx, fy, tx, ty, nl, nh, far⟩ := s
  simp only [pointedB, placeOk, partOk, inB, Bool.and_eq_true, decide_eq_true_eq] at h
  obtain ⟨⟨⟨⟨x0, x1⟩, y0, y1⟩, ⟨⟨⟨r0, r1⟩, r2, r3⟩, r4, r5⟩, r6, r7⟩, _⟩ := h
  have m1 := mul_le (A := 1000) (B := 10000000) r0 r1 y0 y1
  have m2 := mul_le (A := 1000) (B := 10000000) r2 r3 x0 x1
  have m3 := mul_le (A := 1000) (B := 10000000) r6 r7 x0 x1
  have m4 := mul_le (A := 1000) (B := 10000000) r4 r5 y0 y1
  simp only [Int.reduceMul, Int.reduceNeg] at m1 m2 m3 m4
  have hw : wedge ⟨kd, x, y, fx, fy, tx, ty, nl, nh, far⟩ = [⟨-fy, fx, fx * y - fy * x⟩, ⟨ty, -tx, ty * x - tx * y⟩] := rfl
  rw [hw]
  clear hw
  obtain ⟨P1, e1⟩ : ∃ P, fx * y = P := ⟨_, rfl⟩
  obtain ⟨P2, e2⟩ : ∃ P, fy * x = P := ⟨_, rfl⟩
  obtain ⟨P3, e3⟩ : ∃ P, ty * x = P := ⟨_, rfl⟩
  obtain ⟨P4, e4⟩ : ∃ P, tx * y = P := ⟨_, rfl⟩
  rw [e1] at m1 ⊢
  rw [e2] at m2 ⊢
  rw [e3] at m3 ⊢
  rw [e4] at m4 ⊢
  unfold Sight.val
  simp only
  go_enter Tryz.func101, Tryz.ntmps101
  go_wp2_with fail
  go_ret
  refine ⟨_, _, rfl, (show 2 ≤ 2 from Nat.le_refl 2), (show 2 ≤ maxLen by decide), ?_, halves_block [⟨-fy, fx, P1 - P2⟩, ⟨ty, -tx, P3 - P4⟩] (alloc_at _ _ _ (by simp)), fun x hx => by cases hx; simp; omega⟩
  repeat (first | exact Ext.refl _ | refine Ext.alloc ?_ _ | refine Ext.setCell ?_ (by first | (simp; done) | (simp; omega)) _ | refine Ext.drew ?_)
theorem rules_any (w : World) : Calls Tryz.prog 73 #[] w fun e w' => e = .returned (.agg #[.nilFunc, .nilFunc, .func (.func 100) #[] #[], .func (.func 101) #[] #[], .func (.func 102) #[] #[], .func (.func 103) #[] #[], .func (.func 104) #[] #[], .func (.func 105) #[] #[]]) ∧ Ext w w' := by
  go_enter Tryz.func73, Tryz.ntmps73
  go_wp2_with fail
  refine bodyPost_ret (by simp [results, Tryz.results73, asAddr, go_sem]; rfl) rfl ?_
  exact ⟨rfl, (Ext.refl _).alloc _⟩
def HalvesPost (s : Sight) (w : World) (e : Ending) (w' : World) : Prop := (sightOk s = true ∧ ∃ a c, e = .returned (.tuple #[.slice a (halvesOf s).length c, .bool true]) ∧ (halvesOf s).length ≤ c ∧ c ≤ maxLen ∧ Ext w w' ∧ HalvesAt w' a (halvesOf s).length (halvesOf s) ∧ From w.heap.size a) ∨ (sightOk s = false ∧ e = .returned (.tuple #[.slice none 0 0, .bool false]) ∧ Ext w w')
set_option maxRecDepth 100000 in
set_option maxHeartbeats 4000000 in
theorem halves_not (s : Sight) (w : World) (h0 : 0 ≤ s.kind) (h1 : s.kind ≤ 255) (hk : ¬ (1 ≤ s.kind ∧ s.kind ≤ 3)) : Calls Tryz.prog 46 #[s.val] w (HalvesPost s w) := by
  obtain ⟨kd, x, y, fx, fy, tx, ty, nl, nh, far⟩ := s
  have hf1 := fun W k hb => from1 1 3 kd W k hb
  simp only at h0 h1 hk
  have hin : inB kd 1 3 = false := by simp [inB]; omega
  have hs : sightOk ⟨kd, x, y, fx, fy, tx, ty, nl, nh, far⟩ = false := by
    unfold sightOk
    rw [if_neg (by simp only; omega), if_neg (by simp only; omega), if_neg (by simp only; omega)]
  rw [hin] at hf1
  have hru := rules_any
  have hnew := fun (W : World) (o : Obj) (b : Nat) (hb : b = W.heap.size) => show (W.alloc o).heap[b]? = some o from by rw [hb]; exact heap_alloc_new W o
  have hb1 := heap_alloc_new w (.cells #[.int .u8 kd, .int .i64 x, .int .i64 y, .int .i64 fx, .int .i64 fy, .int .i64 tx, .int .i64 ty, .int .i64 nl, .int .i64 nh, .int .i64 far] 68)
  unfold Sight.val
  try simp only
  obtain ⟨Q, hQ⟩ : ∃ Q, HalvesPost ⟨kd, x, y, fx, fy, tx, ty, nl, nh, far⟩ w = Q := ⟨_, rfl⟩
  have hfin : ∀ w', Ext w w' → Q (.returned (.tuple #[.slice none 0 0, .bool false])) w' := by
    rw [← hQ]
    exact fun w' hx => .inr ⟨hs, rfl, hx⟩
  rw [hQ]
  clear hQ hs hin hk
  have Hf1 := Lib.hid hf1
  have Hru := Lib.hid hru
  have Hnew := Lib.hid hnew
  have Hb1 := Lib.hid hb1
  have Hfin := Lib.hid hfin
  clear hf1 hru hnew hb1 hfin
  go_enter Tryz.func46, Tryz.ntmps46
  go_upto_region 2 with (go_at_call 73; refine (Hru.out _).mono ?_; rintro e w1 ⟨rfl, hx1⟩)
  obtain ⟨W0, hW0⟩ : ∃ W0, w1.alloc (.cells #[.nilFunc, .nilFunc, .func (.func 100) #[] #[], .func (.func 101) #[] #[], .func (.func 102) #[] #[], .func (.func 103) #[] #[], .func (.func 104) #[] #[], .func (.func 105) #[] #[]] 145) = W0 := ⟨_, rfl⟩
  have hx0 : Ext w W0 := by rw [← hW0]; exact (((Ext.refl w).alloc _).trans hx1).alloc _
  have hb2 : W0.heap[w.heap.size]? = some (.cells #[.int .u8 kd, .int .i64 x, .int .i64 y, .int .i64 fx, .int .i64 fy, .int .i64 tx, .int .i64 ty, .int .i64 nl, .int .i64 nh, .int .i64 far] 68 (0, 0)) := by rw [← hW0]; exact ((Ext.refl w1).alloc _).heap (hx1.heap Hb1.out)
  have hb3 : W0.heap[w1.heap.size]? = some (.cells #[.nilFunc, .nilFunc, .func (.func 100) #[] #[], .func (.func 101) #[] #[], .func (.func 102) #[] #[], .func (.func 103) #[] #[], .func (.func 104) #[] #[], .func (.func 105) #[] #[]] 145 (0, 0)) := by rw [← hW0]; exact Hnew.out _ _ _ rfl
  rw [hW0]
  clear hW0
  have Hx0 := Lib.hid hx0
  have Hb2 := Lib.hid hb2
  have Hb3 := Lib.hid hb3
  clear hx0 hb2 hb3
  refine wp_region_tree (.take [0, 1, 2] (.one 3 (.one 4 (.take [5, 6, 7, 8, 9, 10, 11, 12] (.one 13 (.take [14, 15] .done)))))) (Ext W0) _ (by kernel_rfl) (by kernel_rfl) rfl ((Ext.refl _).drew) ?_
  intro ι _ f hf hs
  have f0 := fun q => ((hf q).box Hb2.out).1
  have f1 := fun q => ((hf q).box Hb3.out).1
  have Hs := Lib.hid hs
  clear hs
  clear hf
  simp only [treeOf, oneOp, twoOp, opsOf, consOp, List.getElem?_toArray, List.getElem?_cons_succ, List.getElem?_cons_zero]
  refine wpOT_take ?_
  repeat (go_big_quiet_step (fail))
  refine wpQuiet_nil ?_
  refine wpOT_one ?_
  go_wp2_with fail
  refine ⟨Hs.out _ ((Ext.refl _).alloc _).drew, ?_⟩
  refine wpOT_one ?_
  have hz : (W0.alloc (.cells #[.int .i64 kd] 3)).drew.heap[W0.heap.size]? = some (.cells #[.int .i64 kd] 3 (0, 0)) := Hnew.out W0 _ _ rfl
  have hy : Ext W0 (W0.alloc (.cells #[.int .i64 kd] 3)).drew := ((Ext.refl W0).alloc _).drew
  have Hz := Lib.hid hz
  have Hy := Lib.hid hy
  clear hz hy
  go_wp2_with (go_at_call 54; refine (Hf1.out _ _ Hz.out).mono ?_; rintro e w2 ⟨rfl, hx2⟩; have hx3 := Hy.out.trans hx2)
  refine ⟨Hs.out _ hx3, ?_⟩
  refine wpOT_take ?_
  repeat (go_big_quiet_step (fail))
  refine wpQuiet_nil ?_
  refine wpOT_one ?_
  go_wp2_with fail
  refine ⟨Hs.out _ hx3, ?_⟩
  refine wpOT_take ?_
  repeat (go_big_quiet_step (fail))
  refine wpQuiet_nil ?_
  refine wpOT_done ?_
  clear f0 f1
  go_wp2_with fail
  exact Hfin.out _ (Hx0.out.trans hx3)
set_option maxRecDepth 100000 in
set_option maxHeartbeats 4000000 in
theorem halves_1 (x y fx fy tx ty nl nh far : Int) (w : World) : Calls Tryz.prog 46 #[Sight.val ⟨1, x, y, fx, fy, tx, ty, nl, nh, far⟩] w (HalvesPost ⟨1, x, y, fx, fy, tx, ty, nl, nh, far⟩ w) := by
  have hf1 := fun W k hb => from1 1 3 1 W k hb
  rw [show inB 1 1 3 = true from rfl] at hf1
  have hv := fun W => pointed_any ⟨1, x, y, fx, fy, tx, ty, nl, nh, far⟩ W
  have hs : sightOk ⟨1, x, y, fx, fy, tx, ty, nl, nh, far⟩ = pointedB ⟨1, x, y, fx, fy, tx, ty, nl, nh, far⟩ := rfl
  have hh : halvesOf ⟨1, x, y, fx, fy, tx, ty, nl, nh, far⟩ = wedge ⟨1, x, y, fx, fy, tx, ty, nl, nh, far⟩ := rfl
  obtain ⟨Q, hQ⟩ : ∃ Q, HalvesPost ⟨1, x, y, fx, fy, tx, ty, nl, nh, far⟩ w = Q := ⟨_, rfl⟩
  rw [hQ]
  cases hb : pointedB ⟨1, x, y, fx, fy, tx, ty, nl, nh, far⟩ with
  | false =>
    have hfin : ∀ w', Ext w w' → Q (.returned (.tuple #[.slice none 0 0, .bool false])) w' := by
      rw [← hQ]
      exact fun w' hx => .inr ⟨hs.trans hb, rfl, hx⟩
    rw [hb] at hv
    unfold Sight.val at hv
    try simp only at hv
    have hru := rules_any
    have hnew := fun (W : World) (o : Obj) (b : Nat) (hb : b = W.heap.size) => show (W.alloc o).heap[b]? = some o from by rw [hb]; exact heap_alloc_new W o
    have hb1 := heap_alloc_new w (.cells #[.int .u8 1, .int .i64 x, .int .i64 y, .int .i64 fx, .int .i64 fy, .int .i64 tx, .int .i64 ty, .int .i64 nl, .int .i64 nh, .int .i64 far] 68)
    unfold Sight.val
    try simp only
    clear hQ hs hb hh
    have Hf1 := Lib.hid hf1
    have Hru := Lib.hid hru
    have Hnew := Lib.hid hnew
    have Hb1 := Lib.hid hb1
    have Hfin := Lib.hid hfin
    have Hv := Lib.hid hv
    clear hf1 hru hnew hb1 hfin hv
    go_enter Tryz.func46, Tryz.ntmps46
    go_upto_region 2 with (go_at_call 73; refine (Hru.out _).mono ?_; rintro e w1 ⟨rfl, hx1⟩)
    obtain ⟨W0, hW0⟩ : ∃ W0, w1.alloc (.cells #[.nilFunc, .nilFunc, .func (.func 100) #[] #[], .func (.func 101) #[] #[], .func (.func 102) #[] #[], .func (.func 103) #[] #[], .func (.func 104) #[] #[], .func (.func 105) #[] #[]] 145) = W0 := ⟨_, rfl⟩
    have hx0 : Ext w W0 := by rw [← hW0]; exact (((Ext.refl w).alloc _).trans hx1).alloc _
    have hb2 : W0.heap[w.heap.size]? = some (.cells #[.int .u8 1, .int .i64 x, .int .i64 y, .int .i64 fx, .int .i64 fy, .int .i64 tx, .int .i64 ty, .int .i64 nl, .int .i64 nh, .int .i64 far] 68 (0, 0)) := by rw [← hW0]; exact ((Ext.refl w1).alloc _).heap (hx1.heap Hb1.out)
    have hb3 : W0.heap[w1.heap.size]? = some (.cells #[.nilFunc, .nilFunc, .func (.func 100) #[] #[], .func (.func 101) #[] #[], .func (.func 102) #[] #[], .func (.func 103) #[] #[], .func (.func 104) #[] #[], .func (.func 105) #[] #[]] 145 (0, 0)) := by rw [← hW0]; exact Hnew.out _ _ _ rfl
    rw [hW0]
    clear hW0
    have Hx0 := Lib.hid hx0
    have Hb2 := Lib.hid hb2
    have Hb3 := Lib.hid hb3
    clear hx0 hb2 hb3
    refine wp_region_tree (.take [0, 1, 2] (.one 3 (.one 4 (.take [5, 6, 7, 8, 9, 10, 11, 12] (.one 13 (.take [14, 15] .done)))))) (Ext W0) _ (by kernel_rfl) (by kernel_rfl) rfl ((Ext.refl _).drew) ?_
    intro ι _ f hf hs
    have f0 := fun q => ((hf q).box Hb2.out).1
    have f1 := fun q => ((hf q).box Hb3.out).1
    have Hs := Lib.hid hs
    clear hs
    clear hf
    simp only [treeOf, oneOp, twoOp, opsOf, consOp, List.getElem?_toArray, List.getElem?_cons_succ, List.getElem?_cons_zero]
    refine wpOT_take ?_
    repeat (go_big_quiet_step (fail))
    refine wpQuiet_nil ?_
    refine wpOT_one ?_
    go_wp2_with fail
    refine ⟨Hs.out _ ((Ext.refl _).alloc _).drew, ?_⟩
    refine wpOT_one ?_
    have hz : (W0.alloc (.cells #[.int .i64 1] 3)).drew.heap[W0.heap.size]? = some (.cells #[.int .i64 1] 3 (0, 0)) := Hnew.out W0 _ _ rfl
    have hy : Ext W0 (W0.alloc (.cells #[.int .i64 1] 3)).drew := ((Ext.refl W0).alloc _).drew
    have Hz := Lib.hid hz
    have Hy := Lib.hid hy
    clear hz hy
    go_wp2_with (go_at_call 54; refine (Hf1.out _ _ Hz.out).mono ?_; rintro e w2 ⟨rfl, hx2⟩; have hx3 := Hy.out.trans hx2)
    refine ⟨Hs.out _ hx3, ?_⟩
    refine wpOT_take ?_
    repeat (go_big_quiet_step (fail))
    refine wpQuiet_nil ?_
    refine wpOT_one ?_
    go_wp2_with (go_at_call 100; refine (Hv.out _).mono ?_; rintro e w3 ⟨rfl, hx4⟩; have hx5 := hx3.trans hx4)
    refine ⟨Hs.out _ hx5, ?_⟩
    refine wpOT_take ?_
    repeat (go_big_quiet_step (fail))
    refine wpQuiet_nil ?_
    refine wpOT_done ?_
    clear f0 f1
    go_wp2_with fail
    exact Hfin.out _ (Hx0.out.trans hx5)
  | true =>
    have hfin : ∀ v w' w'', Ext w w' → OwnHalves (wedge ⟨1, x, y, fx, fy, tx, ty, nl, nh, far⟩) w' (.returned v) w'' → Q (.returned (.tuple #[v, .bool true])) w'' := by
      rw [← hQ]
      intro v w' w'' hx ⟨a, c, e, h1, h2, h3, h4, h5⟩
      cases e
      rw [← hh] at h1 h4 ⊢
      exact .inl ⟨hs.trans hb, a, c, rfl, h1, h2, hx.trans h3, h4, fun x e => Nat.le_trans hx.size (h5 x e)⟩
    have hmk := fun W => wedge_any ⟨1, x, y, fx, fy, tx, ty, nl, nh, far⟩ W hb
    rw [hb] at hv
    try simp only at hmk
    obtain ⟨L, hL⟩ : ∃ L, wedge ⟨1, x, y, fx, fy, tx, ty, nl, nh, far⟩ = L := ⟨_, rfl⟩
    rw [hL] at hfin
    rw [show wedge ⟨1, x, y, fx, fy, tx, ty, nl, nh, far⟩ = L from hL] at hmk
    unfold Sight.val at hv hmk
    try simp only at hv hmk
    have hru := rules_any
    have hnew := fun (W : World) (o : Obj) (b : Nat) (hb : b = W.heap.size) => show (W.alloc o).heap[b]? = some o from by rw [hb]; exact heap_alloc_new W o
    have hb1 := heap_alloc_new w (.cells #[.int .u8 1, .int .i64 x, .int .i64 y, .int .i64 fx, .int .i64 fy, .int .i64 tx, .int .i64 ty, .int .i64 nl, .int .i64 nh, .int .i64 far] 68)
    unfold Sight.val
    try simp only
    clear hQ hs hb hh hL
    have Hf1 := Lib.hid hf1
    have Hru := Lib.hid hru
    have Hnew := Lib.hid hnew
    have Hb1 := Lib.hid hb1
    have Hfin := Lib.hid hfin
    have Hv := Lib.hid hv
    have Hmk := Lib.hid hmk
    clear hf1 hru hnew hb1 hfin hv hmk
    go_enter Tryz.func46, Tryz.ntmps46
    go_upto_region 2 with (go_at_call 73; refine (Hru.out _).mono ?_; rintro e w1 ⟨rfl, hx1⟩)
    obtain ⟨W0, hW0⟩ : ∃ W0, w1.alloc (.cells #[.nilFunc, .nilFunc, .func (.func 100) #[] #[], .func (.func 101) #[] #[], .func (.func 102) #[] #[], .func (.func 103) #[] #[], .func (.func 104) #[] #[], .func (.func 105) #[] #[]] 145) = W0 := ⟨_, rfl⟩
    have hx0 : Ext w W0 := by rw [← hW0]; exact (((Ext.refl w).alloc _).trans hx1).alloc _
    have hb2 : W0.heap[w.heap.size]? = some (.cells #[.int .u8 1, .int .i64 x, .int .i64 y, .int .i64 fx, .int .i64 fy, .int .i64 tx, .int .i64 ty, .int .i64 nl, .int .i64 nh, .int .i64 far] 68 (0, 0)) := by rw [← hW0]; exact ((Ext.refl w1).alloc _).heap (hx1.heap Hb1.out)
    have hb3 : W0.heap[w1.heap.size]? = some (.cells #[.nilFunc, .nilFunc, .func (.func 100) #[] #[], .func (.func 101) #[] #[], .func (.func 102) #[] #[], .func (.func 103) #[] #[], .func (.func 104) #[] #[], .func (.func 105) #[] #[]] 145 (0, 0)) := by rw [← hW0]; exact Hnew.out _ _ _ rfl
    rw [hW0]
    clear hW0
    have Hx0 := Lib.hid hx0
    have Hb2 := Lib.hid hb2
    have Hb3 := Lib.hid hb3
    clear hx0 hb2 hb3
    refine wp_region_tree (.take [0, 1, 2] (.one 3 (.one 4 (.take [5, 6, 7, 8, 9, 10, 11, 12] (.one 13 (.take [14, 15] .done)))))) (Ext W0) _ (by kernel_rfl) (by kernel_rfl) rfl ((Ext.refl _).drew) ?_
    intro ι _ f hf hs
    have f0 := fun q => ((hf q).box Hb2.out).1
    have f1 := fun q => ((hf q).box Hb3.out).1
    have Hs := Lib.hid hs
    clear hs
    clear hf
    simp only [treeOf, oneOp, twoOp, opsOf, consOp, List.getElem?_toArray, List.getElem?_cons_succ, List.getElem?_cons_zero]
    refine wpOT_take ?_
    repeat (go_big_quiet_step (fail))
    refine wpQuiet_nil ?_
    refine wpOT_one ?_
    go_wp2_with fail
    refine ⟨Hs.out _ ((Ext.refl _).alloc _).drew, ?_⟩
    refine wpOT_one ?_
    have hz : (W0.alloc (.cells #[.int .i64 1] 3)).drew.heap[W0.heap.size]? = some (.cells #[.int .i64 1] 3 (0, 0)) := Hnew.out W0 _ _ rfl
    have hy : Ext W0 (W0.alloc (.cells #[.int .i64 1] 3)).drew := ((Ext.refl W0).alloc _).drew
    have Hz := Lib.hid hz
    have Hy := Lib.hid hy
    clear hz hy
    go_wp2_with (go_at_call 54; refine (Hf1.out _ _ Hz.out).mono ?_; rintro e w2 ⟨rfl, hx2⟩; have hx3 := Hy.out.trans hx2)
    refine ⟨Hs.out _ hx3, ?_⟩
    refine wpOT_take ?_
    repeat (go_big_quiet_step (fail))
    refine wpQuiet_nil ?_
    refine wpOT_one ?_
    go_wp2_with (go_at_call 100; refine (Hv.out _).mono ?_; rintro e w3 ⟨rfl, hx4⟩; have hx5 := hx3.trans hx4)
    refine ⟨Hs.out _ hx5, ?_⟩
    refine wpOT_take ?_
    repeat (go_big_quiet_step (fail))
    refine wpQuiet_nil ?_
    refine wpOT_done ?_
    clear f0 f1 Hs
    have hb5 := hx5.heap Hb2.out
    have hb6 := hx5.heap Hb3.out
    have Hb5 := Lib.hid hb5
    have Hb6 := Lib.hid hb6
    clear hb5 hb6
    go_wp2_with fail
    refine wp_region_tree (.take [0, 1, 2, 3, 4, 5] (.one 6 (.take [7, 8] .done))) (Ext w3) _ (by kernel_rfl) (by kernel_rfl) rfl ((Ext.refl _).drew) ?_
    intro ι _ f hf hs
    have f0 := fun q => ((hf q).box Hb5.out).1
    have f1 := fun q => ((hf q).box Hb6.out).1
    have Hs := Lib.hid hs
    clear hs
    clear hf
    simp only [treeOf, oneOp, twoOp, opsOf, consOp, List.getElem?_toArray, List.getElem?_cons_succ, List.getElem?_cons_zero]
    refine wpOT_take ?_
    repeat (go_big_quiet_step (fail))
    refine wpQuiet_nil ?_
    refine wpOT_one ?_
    go_wp2_with (go_at_call 101; refine (Hmk.out _).mono ?_; rintro e w4 ⟨ra, rc, rfl, r1, r2, r3, r4, r5⟩; have hx6 := (Ext.refl w3).drew.trans r3)
    refine ⟨Hs.out _ hx6, ?_⟩
    refine wpOT_take ?_
    repeat (go_big_quiet_step (fail))
    refine wpQuiet_nil ?_
    refine wpOT_done ?_
    clear f0 f1
    go_wp2_with fail
    exact Hfin.out _ _ _ (Hx0.out.trans hx5) ⟨_, _, rfl, r1, r2, hx6, r4, r5⟩
set_option maxRecDepth 100000 in
set_option maxHeartbeats 4000000 in
theorem halves_2 (x y fx fy tx ty nl nh far : Int) (w : World) : Calls Tryz.prog 46 #[Sight.val ⟨2, x, y, fx, fy, tx, ty, nl, nh, far⟩] w (HalvesPost ⟨2, x, y, fx, fy, tx, ty, nl, nh, far⟩ w) := by
  have hf1 := fun W k hb => from1 1 3 2 W k hb
  rw [show inB 2 1 3 = true from rfl] at hf1
  have hv := fun W => risen_any ⟨2, x, y, fx, fy, tx, ty, nl, nh, far⟩ W
  have hs : sightOk ⟨2, x, y, fx, fy, tx, ty, nl, nh, far⟩ = risenB ⟨2, x, y, fx, fy, tx, ty, nl, nh, far⟩ := rfl
  have hh : halvesOf ⟨2, x, y, fx, fy, tx, ty, nl, nh, far⟩ = strip ⟨2, x, y, fx, fy, tx, ty, nl, nh, far⟩ := rfl
  obtain ⟨Q, hQ⟩ : ∃ Q, HalvesPost ⟨2, x, y, fx, fy, tx, ty, nl, nh, far⟩ w = Q := ⟨_, rfl⟩
  rw [hQ]
  cases hb : risenB ⟨2, x, y, fx, fy, tx, ty, nl, nh, far⟩ with
  | false =>
    have hfin : ∀ w', Ext w w' → Q (.returned (.tuple #[.slice none 0 0, .bool false])) w' := by
      rw [← hQ]
      exact fun w' hx => .inr ⟨hs.trans hb, rfl, hx⟩
    rw [hb] at hv
    unfold Sight.val at hv
    try simp only at hv
    have hru := rules_any
    have hnew := fun (W : World) (o : Obj) (b : Nat) (hb : b = W.heap.size) => show (W.alloc o).heap[b]? = some o from by rw [hb]; exact heap_alloc_new W o
    have hb1 := heap_alloc_new w (.cells #[.int .u8 2, .int .i64 x, .int .i64 y, .int .i64 fx, .int .i64 fy, .int .i64 tx, .int .i64 ty, .int .i64 nl, .int .i64 nh, .int .i64 far] 68)
    unfold Sight.val
    try simp only
    clear hQ hs hb hh
    have Hf1 := Lib.hid hf1
    have Hru := Lib.hid hru
    have Hnew := Lib.hid hnew
    have Hb1 := Lib.hid hb1
    have Hfin := Lib.hid hfin
    have Hv := Lib.hid hv
    clear hf1 hru hnew hb1 hfin hv
    go_enter Tryz.func46, Tryz.ntmps46
    go_upto_region 2 with (go_at_call 73; refine (Hru.out _).mono ?_; rintro e w1 ⟨rfl, hx1⟩)
    obtain ⟨W0, hW0⟩ : ∃ W0, w1.alloc (.cells #[.nilFunc, .nilFunc, .func (.func 100) #[] #[], .func (.func 101) #[] #[], .func (.func 102) #[] #[], .func (.func 103) #[] #[], .func (.func 104) #[] #[], .func (.func 105) #[] #[]] 145) = W0 := ⟨_, rfl⟩
    have hx0 : Ext w W0 := by rw [← hW0]; exact (((Ext.refl w).alloc _).trans hx1).alloc _
    have hb2 : W0.heap[w.heap.size]? = some (.cells #[.int .u8 2, .int .i64 x, .int .i64 y, .int .i64 fx, .int .i64 fy, .int .i64 tx, .int .i64 ty, .int .i64 nl, .int .i64 nh, .int .i64 far] 68 (0, 0)) := by rw [← hW0]; exact ((Ext.refl w1).alloc _).heap (hx1.heap Hb1.out)
    have hb3 : W0.heap[w1.heap.size]? = some (.cells #[.nilFunc, .nilFunc, .func (.func 100) #[] #[], .func (.func 101) #[] #[], .func (.func 102) #[] #[], .func (.func 103) #[] #[], .func (.func 104) #[] #[], .func (.func 105) #[] #[]] 145 (0, 0)) := by rw [← hW0]; exact Hnew.out _ _ _ rfl
    rw [hW0]
    clear hW0
    have Hx0 := Lib.hid hx0
    have Hb2 := Lib.hid hb2
    have Hb3 := Lib.hid hb3
    clear hx0 hb2 hb3
    refine wp_region_tree (.take [0, 1, 2] (.one 3 (.one 4 (.take [5, 6, 7, 8, 9, 10, 11, 12] (.one 13 (.take [14, 15] .done)))))) (Ext W0) _ (by kernel_rfl) (by kernel_rfl) rfl ((Ext.refl _).drew) ?_
    intro ι _ f hf hs
    have f0 := fun q => ((hf q).box Hb2.out).1
    have f1 := fun q => ((hf q).box Hb3.out).1
    have Hs := Lib.hid hs
    clear hs
    clear hf
    simp only [treeOf, oneOp, twoOp, opsOf, consOp, List.getElem?_toArray, List.getElem?_cons_succ, List.getElem?_cons_zero]
    refine wpOT_take ?_
    repeat (go_big_quiet_step (fail))
    refine wpQuiet_nil ?_
    refine wpOT_one ?_
    go_wp2_with fail
    refine ⟨Hs.out _ ((Ext.refl _).alloc _).drew, ?_⟩
    refine wpOT_one ?_
    have hz : (W0.alloc (.cells #[.int .i64 2] 3)).drew.heap[W0.heap.size]? = some (.cells #[.int .i64 2] 3 (0, 0)) := Hnew.out W0 _ _ rfl
    have hy : Ext W0 (W0.alloc (.cells #[.int .i64 2] 3)).drew := ((Ext.refl W0).alloc _).drew
    have Hz := Lib.hid hz
    have Hy := Lib.hid hy
    clear hz hy
    go_wp2_with (go_at_call 54; refine (Hf1.out _ _ Hz.out).mono ?_; rintro e w2 ⟨rfl, hx2⟩; have hx3 := Hy.out.trans hx2)
    refine ⟨Hs.out _ hx3, ?_⟩
    refine wpOT_take ?_
    repeat (go_big_quiet_step (fail))
    refine wpQuiet_nil ?_
    refine wpOT_one ?_
    go_wp2_with (go_at_call 102; refine (Hv.out _).mono ?_; rintro e w3 ⟨rfl, hx4⟩; have hx5 := hx3.trans hx4)
    refine ⟨Hs.out _ hx5, ?_⟩
    refine wpOT_take ?_
    repeat (go_big_quiet_step (fail))
    refine wpQuiet_nil ?_
    refine wpOT_done ?_
    clear f0 f1
    go_wp2_with fail
    exact Hfin.out _ (Hx0.out.trans hx5)
  | true =>
    have hfin : ∀ v w' w'', Ext w w' → OwnHalves (strip ⟨2, x, y, fx, fy, tx, ty, nl, nh, far⟩) w' (.returned v) w'' → Q (.returned (.tuple #[v, .bool true])) w'' := by
      rw [← hQ]
      intro v w' w'' hx ⟨a, c, e, h1, h2, h3, h4, h5⟩
      cases e
      rw [← hh] at h1 h4 ⊢
      exact .inl ⟨hs.trans hb, a, c, rfl, h1, h2, hx.trans h3, h4, fun x e => Nat.le_trans hx.size (h5 x e)⟩
    have hmk := fun W => strip_any ⟨2, x, y, fx, fy, tx, ty, nl, nh, far⟩ W hb
    rw [hb] at hv
    try simp only at hmk
    obtain ⟨L, hL⟩ : ∃ L, strip ⟨2, x, y, fx, fy, tx, ty, nl, nh, far⟩ = L := ⟨_, rfl⟩
    rw [hL] at hfin
    rw [show strip ⟨2, x, y, fx, fy, tx, ty, nl, nh, far⟩ = L from hL] at hmk
    unfold Sight.val at hv hmk
    try simp only at hv hmk
    have hru := rules_any
    have hnew := fun (W : World) (o : Obj) (b : Nat) (hb : b = W.heap.size) => show (W.alloc o).heap[b]? = some o from by rw [hb]; exact heap_alloc_new W o
    have hb1 := heap_alloc_new w (.cells #[.int .u8 2, .int .i64 x, .int .i64 y, .int .i64 fx, .int .i64 fy, .int .i64 tx, .int .i64 ty, .int .i64 nl, .int .i64 nh, .int .i64 far] 68)
    unfold Sight.val
    try simp only
    clear hQ hs hb hh hL
    have Hf1 := Lib.hid hf1
    have Hru := Lib.hid hru
    have Hnew := Lib.hid hnew
    have Hb1 := Lib.hid hb1
    have Hfin := Lib.hid hfin
    have Hv := Lib.hid hv
    have Hmk := Lib.hid hmk
    clear hf1 hru hnew hb1 hfin hv hmk
    go_enter Tryz.func46, Tryz.ntmps46
    go_upto_region 2 with (go_at_call 73; refine (Hru.out _).mono ?_; rintro e w1 ⟨rfl, hx1⟩)
    obtain ⟨W0, hW0⟩ : ∃ W0, w1.alloc (.cells #[.nilFunc, .nilFunc, .func (.func 100) #[] #[], .func (.func 101) #[] #[], .func (.func 102) #[] #[], .func (.func 103) #[] #[], .func (.func 104) #[] #[], .func (.func 105) #[] #[]] 145) = W0 := ⟨_, rfl⟩
    have hx0 : Ext w W0 := by rw [← hW0]; exact (((Ext.refl w).alloc _).trans hx1).alloc _
    have hb2 : W0.heap[w.heap.size]? = some (.cells #[.int .u8 2, .int .i64 x, .int .i64 y, .int .i64 fx, .int .i64 fy, .int .i64 tx, .int .i64 ty, .int .i64 nl, .int .i64 nh, .int .i64 far] 68 (0, 0)) := by rw [← hW0]; exact ((Ext.refl w1).alloc _).heap (hx1.heap Hb1.out)
    have hb3 : W0.heap[w1.heap.size]? = some (.cells #[.nilFunc, .nilFunc, .func (.func 100) #[] #[], .func (.func 101) #[] #[], .func (.func 102) #[] #[], .func (.func 103) #[] #[], .func (.func 104) #[] #[], .func (.func 105) #[] #[]] 145 (0, 0)) := by rw [← hW0]; exact Hnew.out _ _ _ rfl
    rw [hW0]
    clear hW0
    have Hx0 := Lib.hid hx0
    have Hb2 := Lib.hid hb2
    have Hb3 := Lib.hid hb3
    clear hx0 hb2 hb3
    refine wp_region_tree (.take [0, 1, 2] (.one 3 (.one 4 (.take [5, 6, 7, 8, 9, 10, 11, 12] (.one 13 (.take [14, 15] .done)))))) (Ext W0) _ (by kernel_rfl) (by kernel_rfl) rfl ((Ext.refl _).drew) ?_
    intro ι _ f hf hs
    have f0 := fun q => ((hf q).box Hb2.out).1
    have f1 := fun q => ((hf q).box Hb3.out).1
    have Hs := Lib.hid hs
    clear hs
    clear hf
    simp only [treeOf, oneOp, twoOp, opsOf, consOp, List.getElem?_toArray, List.getElem?_cons_succ, List.getElem?_cons_zero]
    refine wpOT_take ?_
    repeat (go_big_quiet_step (fail))
    refine wpQuiet_nil ?_
    refine wpOT_one ?_
    go_wp2_with fail
    refine ⟨Hs.out _ ((Ext.refl _).alloc _).drew, ?_⟩
    refine wpOT_one ?_
    have hz : (W0.alloc (.cells #[.int .i64 2] 3)).drew.heap[W0.heap.size]? = some (.cells #[.int .i64 2] 3 (0, 0)) := Hnew.out W0 _ _ rfl
    have hy : Ext W0 (W0.alloc (.cells #[.int .i64 2] 3)).drew := ((Ext.refl W0).alloc _).drew
    have Hz := Lib.hid hz
    have Hy := Lib.hid hy
    clear hz hy
    go_wp2_with (go_at_call 54; refine (Hf1.out _ _ Hz.out).mono ?_; rintro e w2 ⟨rfl, hx2⟩; have hx3 := Hy.out.trans hx2)
    refine ⟨Hs.out _ hx3, ?_⟩
    refine wpOT_take ?_
    repeat (go_big_quiet_step (fail))
    refine wpQuiet_nil ?_
    refine wpOT_one ?_
    go_wp2_with (go_at_call 102; refine (Hv.out _).mono ?_; rintro e w3 ⟨rfl, hx4⟩; have hx5 := hx3.trans hx4)
    refine ⟨Hs.out _ hx5, ?_⟩
    refine wpOT_take ?_
    repeat (go_big_quiet_step (fail))
    refine wpQuiet_nil ?_
    refine wpOT_done ?_
    clear f0 f1 Hs
    have hb5 := hx5.heap Hb2.out
    have hb6 := hx5.heap Hb3.out
    have Hb5 := Lib.hid hb5
    have Hb6 := Lib.hid hb6
    clear hb5 hb6
    go_wp2_with fail
    refine wp_region_tree (.take [0, 1, 2, 3, 4, 5] (.one 6 (.take [7, 8] .done))) (Ext w3) _ (by kernel_rfl) (by kernel_rfl) rfl ((Ext.refl _).drew) ?_
    intro ι _ f hf hs
    have f0 := fun q => ((hf q).box Hb5.out).1
    have f1 := fun q => ((hf q).box Hb6.out).1
    have Hs := Lib.hid hs
    clear hs
    clear hf
    simp only [treeOf, oneOp, twoOp, opsOf, consOp, List.getElem?_toArray, List.getElem?_cons_succ, List.getElem?_cons_zero]
    refine wpOT_take ?_
    repeat (go_big_quiet_step (fail))
    refine wpQuiet_nil ?_
    refine wpOT_one ?_
    go_wp2_with (go_at_call 103; refine (Hmk.out _).mono ?_; rintro e w4 ⟨ra, rc, rfl, r1, r2, r3, r4, r5⟩; have hx6 := (Ext.refl w3).drew.trans r3)
    refine ⟨Hs.out _ hx6, ?_⟩
    refine wpOT_take ?_
    repeat (go_big_quiet_step (fail))
    refine wpQuiet_nil ?_
    refine wpOT_done ?_
    clear f0 f1
    go_wp2_with fail
    exact Hfin.out _ _ _ (Hx0.out.trans hx5) ⟨_, _, rfl, r1, r2, hx6, r4, r5⟩
set_option maxRecDepth 100000 in
set_option maxHeartbeats 4000000 in
theorem halves_3 (x y fx fy tx ty nl nh far : Int) (w : World) : Calls Tryz.prog 46 #[Sight.val ⟨3, x, y, fx, fy, tx, ty, nl, nh, far⟩] w (HalvesPost ⟨3, x, y, fx, fy, tx, ty, nl, nh, far⟩ w) := by
  have hf1 := fun W k hb => from1 1 3 3 W k hb
  rw [show inB 3 1 3 = true from rfl] at hf1
  have hv := fun W => close_any ⟨3, x, y, fx, fy, tx, ty, nl, nh, far⟩ W
  have hs : sightOk ⟨3, x, y, fx, fy, tx, ty, nl, nh, far⟩ = closeB ⟨3, x, y, fx, fy, tx, ty, nl, nh, far⟩ := rfl
  have hh : halvesOf ⟨3, x, y, fx, fy, tx, ty, nl, nh, far⟩ = around x y far := rfl
  obtain ⟨Q, hQ⟩ : ∃ Q, HalvesPost ⟨3, x, y, fx, fy, tx, ty, nl, nh, far⟩ w = Q := ⟨_, rfl⟩
  rw [hQ]
  cases hb : closeB ⟨3, x, y, fx, fy, tx, ty, nl, nh, far⟩ with
  | false =>
    have hfin : ∀ w', Ext w w' → Q (.returned (.tuple #[.slice none 0 0, .bool false])) w' := by
      rw [← hQ]
      exact fun w' hx => .inr ⟨hs.trans hb, rfl, hx⟩
    rw [hb] at hv
    unfold Sight.val at hv
    try simp only at hv
    have hru := rules_any
    have hnew := fun (W : World) (o : Obj) (b : Nat) (hb : b = W.heap.size) => show (W.alloc o).heap[b]? = some o from by rw [hb]; exact heap_alloc_new W o
    have hb1 := heap_alloc_new w (.cells #[.int .u8 3, .int .i64 x, .int .i64 y, .int .i64 fx, .int .i64 fy, .int .i64 tx, .int .i64 ty, .int .i64 nl, .int .i64 nh, .int .i64 far] 68)
    unfold Sight.val
    try simp only
    clear hQ hs hb hh
    have Hf1 := Lib.hid hf1
    have Hru := Lib.hid hru
    have Hnew := Lib.hid hnew
    have Hb1 := Lib.hid hb1
    have Hfin := Lib.hid hfin
    have Hv := Lib.hid hv
    clear hf1 hru hnew hb1 hfin hv
    go_enter Tryz.func46, Tryz.ntmps46
    go_upto_region 2 with (go_at_call 73; refine (Hru.out _).mono ?_; rintro e w1 ⟨rfl, hx1⟩)
    obtain ⟨W0, hW0⟩ : ∃ W0, w1.alloc (.cells #[.nilFunc, .nilFunc, .func (.func 100) #[] #[], .func (.func 101) #[] #[], .func (.func 102) #[] #[], .func (.func 103) #[] #[], .func (.func 104) #[] #[], .func (.func 105) #[] #[]] 145) = W0 := ⟨_, rfl⟩
    have hx0 : Ext w W0 := by rw [← hW0]; exact (((Ext.refl w).alloc _).trans hx1).alloc _
    have hb2 : W0.heap[w.heap.size]? = some (.cells #[.int .u8 3, .int .i64 x, .int .i64 y, .int .i64 fx, .int .i64 fy, .int .i64 tx, .int .i64 ty, .int .i64 nl, .int .i64 nh, .int .i64 far] 68 (0, 0)) := by rw [← hW0]; exact ((Ext.refl w1).alloc _).heap (hx1.heap Hb1.out)
    have hb3 : W0.heap[w1.heap.size]? = some (.cells #[.nilFunc, .nilFunc, .func (.func 100) #[] #[], .func (.func 101) #[] #[], .func (.func 102) #[] #[], .func (.func 103) #[] #[], .func (.func 104) #[] #[], .func (.func 105) #[] #[]] 145 (0, 0)) := by rw [← hW0]; exact Hnew.out _ _ _ rfl
    rw [hW0]
    clear hW0
    have Hx0 := Lib.hid hx0
    have Hb2 := Lib.hid hb2
    have Hb3 := Lib.hid hb3
    clear hx0 hb2 hb3
    refine wp_region_tree (.take [0, 1, 2] (.one 3 (.one 4 (.take [5, 6, 7, 8, 9, 10, 11, 12] (.one 13 (.take [14, 15] .done)))))) (Ext W0) _ (by kernel_rfl) (by kernel_rfl) rfl ((Ext.refl _).drew) ?_
    intro ι _ f hf hs
    have f0 := fun q => ((hf q).box Hb2.out).1
    have f1 := fun q => ((hf q).box Hb3.out).1
    have Hs := Lib.hid hs
    clear hs
    clear hf
    simp only [treeOf, oneOp, twoOp, opsOf, consOp, List.getElem?_toArray, List.getElem?_cons_succ, List.getElem?_cons_zero]
    refine wpOT_take ?_
    repeat (go_big_quiet_step (fail))
    refine wpQuiet_nil ?_
    refine wpOT_one ?_
    go_wp2_with fail
    refine ⟨Hs.out _ ((Ext.refl _).alloc _).drew, ?_⟩
    refine wpOT_one ?_
    have hz : (W0.alloc (.cells #[.int .i64 3] 3)).drew.heap[W0.heap.size]? = some (.cells #[.int .i64 3] 3 (0, 0)) := Hnew.out W0 _ _ rfl
    have hy : Ext W0 (W0.alloc (.cells #[.int .i64 3] 3)).drew := ((Ext.refl W0).alloc _).drew
    have Hz := Lib.hid hz
    have Hy := Lib.hid hy
    clear hz hy
    go_wp2_with (go_at_call 54; refine (Hf1.out _ _ Hz.out).mono ?_; rintro e w2 ⟨rfl, hx2⟩; have hx3 := Hy.out.trans hx2)
    refine ⟨Hs.out _ hx3, ?_⟩
    refine wpOT_take ?_
    repeat (go_big_quiet_step (fail))
    refine wpQuiet_nil ?_
    refine wpOT_one ?_
    go_wp2_with (go_at_call 104; refine (Hv.out _).mono ?_; rintro e w3 ⟨rfl, hx4⟩; have hx5 := hx3.trans hx4)
    refine ⟨Hs.out _ hx5, ?_⟩
    refine wpOT_take ?_
    repeat (go_big_quiet_step (fail))
    refine wpQuiet_nil ?_
    refine wpOT_done ?_
    clear f0 f1
    go_wp2_with fail
    exact Hfin.out _ (Hx0.out.trans hx5)
  | true =>
    have hfin : ∀ v w' w'', Ext w w' → OwnHalves (around x y far) w' (.returned v) w'' → Q (.returned (.tuple #[v, .bool true])) w'' := by
      rw [← hQ]
      intro v w' w'' hx ⟨a, c, e, h1, h2, h3, h4, h5⟩
      cases e
      rw [← hh] at h1 h4 ⊢
      exact .inl ⟨hs.trans hb, a, c, rfl, h1, h2, hx.trans h3, h4, fun x e => Nat.le_trans hx.size (h5 x e)⟩
    have hmk := fun W => round_any ⟨3, x, y, fx, fy, tx, ty, nl, nh, far⟩ W hb
    rw [hb] at hv
    try simp only at hmk
    obtain ⟨L, hL⟩ : ∃ L, around x y far = L := ⟨_, rfl⟩
    rw [hL] at hfin
    rw [show around x y far = L from hL] at hmk
    unfold Sight.val at hv hmk
    try simp only at hv hmk
    have hru := rules_any
    have hnew := fun (W : World) (o : Obj) (b : Nat) (hb : b = W.heap.size) => show (W.alloc o).heap[b]? = some o from by rw [hb]; exact heap_alloc_new W o
    have hb1 := heap_alloc_new w (.cells #[.int .u8 3, .int .i64 x, .int .i64 y, .int .i64 fx, .int .i64 fy, .int .i64 tx, .int .i64 ty, .int .i64 nl, .int .i64 nh, .int .i64 far] 68)
    unfold Sight.val
    try simp only
    clear hQ hs hb hh hL
    have Hf1 := Lib.hid hf1
    have Hru := Lib.hid hru
    have Hnew := Lib.hid hnew
    have Hb1 := Lib.hid hb1
    have Hfin := Lib.hid hfin
    have Hv := Lib.hid hv
    have Hmk := Lib.hid hmk
    clear hf1 hru hnew hb1 hfin hv hmk
    go_enter Tryz.func46, Tryz.ntmps46
    go_upto_region 2 with (go_at_call 73; refine (Hru.out _).mono ?_; rintro e w1 ⟨rfl, hx1⟩)
    obtain ⟨W0, hW0⟩ : ∃ W0, w1.alloc (.cells #[.nilFunc, .nilFunc, .func (.func 100) #[] #[], .func (.func 101) #[] #[], .func (.func 102) #[] #[], .func (.func 103) #[] #[], .func (.func 104) #[] #[], .func (.func 105) #[] #[]] 145) = W0 := ⟨_, rfl⟩
    have hx0 : Ext w W0 := by rw [← hW0]; exact (((Ext.refl w).alloc _).trans hx1).alloc _
    have hb2 : W0.heap[w.heap.size]? = some (.cells #[.int .u8 3, .int .i64 x, .int .i64 y, .int .i64 fx, .int .i64 fy, .int .i64 tx, .int .i64 ty, .int .i64 nl, .int .i64 nh, .int .i64 far] 68 (0, 0)) := by rw [← hW0]; exact ((Ext.refl w1).alloc _).heap (hx1.heap Hb1.out)
    have hb3 : W0.heap[w1.heap.size]? = some (.cells #[.nilFunc, .nilFunc, .func (.func 100) #[] #[], .func (.func 101) #[] #[], .func (.func 102) #[] #[], .func (.func 103) #[] #[], .func (.func 104) #[] #[], .func (.func 105) #[] #[]] 145 (0, 0)) := by rw [← hW0]; exact Hnew.out _ _ _ rfl
    rw [hW0]
    clear hW0
    have Hx0 := Lib.hid hx0
    have Hb2 := Lib.hid hb2
    have Hb3 := Lib.hid hb3
    clear hx0 hb2 hb3
    refine wp_region_tree (.take [0, 1, 2] (.one 3 (.one 4 (.take [5, 6, 7, 8, 9, 10, 11, 12] (.one 13 (.take [14, 15] .done)))))) (Ext W0) _ (by kernel_rfl) (by kernel_rfl) rfl ((Ext.refl _).drew) ?_
    intro ι _ f hf hs
    have f0 := fun q => ((hf q).box Hb2.out).1
    have f1 := fun q => ((hf q).box Hb3.out).1
    have Hs := Lib.hid hs
    clear hs
    clear hf
    simp only [treeOf, oneOp, twoOp, opsOf, consOp, List.getElem?_toArray, List.getElem?_cons_succ, List.getElem?_cons_zero]
    refine wpOT_take ?_
    repeat (go_big_quiet_step (fail))
    refine wpQuiet_nil ?_
    refine wpOT_one ?_
    go_wp2_with fail
    refine ⟨Hs.out _ ((Ext.refl _).alloc _).drew, ?_⟩
    refine wpOT_one ?_
    have hz : (W0.alloc (.cells #[.int .i64 3] 3)).drew.heap[W0.heap.size]? = some (.cells #[.int .i64 3] 3 (0, 0)) := Hnew.out W0 _ _ rfl
    have hy : Ext W0 (W0.alloc (.cells #[.int .i64 3] 3)).drew := ((Ext.refl W0).alloc _).drew
    have Hz := Lib.hid hz
    have Hy := Lib.hid hy
    clear hz hy
    go_wp2_with (go_at_call 54; refine (Hf1.out _ _ Hz.out).mono ?_; rintro e w2 ⟨rfl, hx2⟩; have hx3 := Hy.out.trans hx2)
    refine ⟨Hs.out _ hx3, ?_⟩
    refine wpOT_take ?_
    repeat (go_big_quiet_step (fail))
    refine wpQuiet_nil ?_
    refine wpOT_one ?_
    go_wp2_with (go_at_call 104; refine (Hv.out _).mono ?_; rintro e w3 ⟨rfl, hx4⟩; have hx5 := hx3.trans hx4)
    refine ⟨Hs.out _ hx5, ?_⟩
    refine wpOT_take ?_
    repeat (go_big_quiet_step (fail))
    refine wpQuiet_nil ?_
    refine wpOT_done ?_
    clear f0 f1 Hs
    have hb5 := hx5.heap Hb2.out
    have hb6 := hx5.heap Hb3.out
    have Hb5 := Lib.hid hb5
    have Hb6 := Lib.hid hb6
    clear hb5 hb6
    go_wp2_with fail
    refine wp_region_tree (.take [0, 1, 2, 3, 4, 5] (.one 6 (.take [7, 8] .done))) (Ext w3) _ (by kernel_rfl) (by kernel_rfl) rfl ((Ext.refl _).drew) ?_
    intro ι _ f hf hs
    have f0 := fun q => ((hf q).box Hb5.out).1
    have f1 := fun q => ((hf q).box Hb6.out).1
    have Hs := Lib.hid hs
    clear hs
    clear hf
    simp only [treeOf, oneOp, twoOp, opsOf, consOp, List.getElem?_toArray, List.getElem?_cons_succ, List.getElem?_cons_zero]
    refine wpOT_take ?_
    repeat (go_big_quiet_step (fail))
    refine wpQuiet_nil ?_
    refine wpOT_one ?_
    go_wp2_with (go_at_call 105; refine (Hmk.out _).mono ?_; rintro e w4 ⟨ra, rc, rfl, r1, r2, r3, r4, r5⟩; have hx6 := (Ext.refl w3).drew.trans r3)
    refine ⟨Hs.out _ hx6, ?_⟩
    refine wpOT_take ?_
    repeat (go_big_quiet_step (fail))
    refine wpQuiet_nil ?_
    refine wpOT_done ?_
    clear f0 f1
    go_wp2_with fail
    exact Hfin.out _ _ _ (Hx0.out.trans hx5) ⟨_, _, rfl, r1, r2, hx6, r4, r5⟩
theorem halves_any (s : Sight) (w : World) (h0 : 0 ≤ s.kind) (h1 : s.kind ≤ 255) : Calls Tryz.prog 46 #[s.val] w (HalvesPost s w) := by
  by_cases hk : 1 ≤ s.kind ∧ s.kind ≤ 3
  · obtain ⟨kd, x, y, fx, fy, tx, ty, nl, nh, far⟩ := s
    simp only at hk
    rcases (show kd = 1 ∨ kd = 2 ∨ kd = 3 by omega) with rfl | rfl | rfl
    · exact halves_1 x y fx fy tx ty nl nh far w
    · exact halves_2 x y fx fy tx ty nl nh far w
    · exact halves_3 x y fx fy tx ty nl nh far w
  · exact halves_not s w h0 h1 hk
set_option maxRecDepth 100000 in
set_option maxHeartbeats 4000000 in
theorem seeown_any (a : Option Addr) (len cap : Nat) (l : List Half) (s : Sight) (w : World) (hl : HalvesAt w a len l) (hc : len ≤ cap) (hm : cap ≤ maxLen) (h0 : 0 ≤ s.kind) (h1 : s.kind ≤ 255) :
    Calls Tryz.prog 20 #[.agg #[.slice a len cap], s.val] w (SeeOwn l s w) := by
  have hch := fun W (hW : Ext w W) => gcheck_any a len cap l W (hl.ext hW) (by unfold maxLen at hm; omega)
  have hal := fun W => halves_any s W h0 h1
  have hnone := fun (k : Int) (h : seeOf l s = ([], k)) => seeown_none (w := w) h
  have hsall := fun m (h : seeOf l s = (m, 0)) => seeown_all (w := w) h
  have hhin : sightOk s = true → ∀ k ∈ halvesOf s, HalfIn k := halves_ok
  have hmlen := halves_len s
  have hsee : seeOf l s = if areaOk l = false then ([], 40) else if sightOk s = false then ([], 41) else if 40 < l.length + (halvesOf s).length then ([], 9) else if someB (l ++ halvesOf s) = false then ([], 43) else (l ++ halvesOf s, 0) := rfl
  obtain ⟨Q, hQ⟩ : ∃ Q, SeeOwn l s w = Q := ⟨_, rfl⟩
  unfold HalvesPost at hal
  rw [hQ]
  simp only [hQ] at hnone hsall
  generalize halvesOf s = M at *
  generalize sightOk s = so at *
  generalize seeOf l s = sl at *
  obtain ⟨kd, x, y, fx, fy, tx, ty, nl, nh, far⟩ := s
  unfold Sight.val at hal ⊢
  try simp only at hal ⊢
  clear hQ h0 h1
  unfold checkOf at hch
  have hll := hl.1
  cases hao : areaOk l with
  | false =>
    have hfin := hnone 40 (by rw [hsee, if_pos hao])
    rw [hao] at hch
    simp only [Bool.false_eq_true, if_false] at hch
    have Hch := Lib.hid hch
    have Hfin := Lib.hid hfin
    clear hch hfin
    clear hl hal hnone hsall hsee hhin
    go_enter Tryz.func20, Tryz.ntmps20
    go_wp2_with (go_at_call 45; refine (Hch.out _ ((((Ext.refl _).alloc _).alloc _).alloc _)).mono ?_; rintro e w1 ⟨rfl, hx1⟩; have hw1 := ((((Ext.refl w).alloc _).alloc _).alloc _).trans hx1; have hr1 := hx1.heap (alloc_at ((w.alloc (.cells #[.slice a len cap] 24)).alloc (.cells #[.int .u8 kd, .int .i64 x, .int .i64 y, .int .i64 fx, .int .i64 fy, .int .i64 tx, .int .i64 ty, .int .i64 nl, .int .i64 nh, .int .i64 far] 68)) (.cells #[.slice none 0 0] 24) (w.heap.size + 1 + 1) (by simp)); have hs1 := hx1.heap (((Ext.refl _).alloc _).heap (alloc_at (w.alloc (.cells #[.slice a len cap] 24)) (.cells #[.int .u8 kd, .int .i64 x, .int .i64 y, .int .i64 fx, .int .i64 fy, .int .i64 tx, .int .i64 ty, .int .i64 nl, .int .i64 nh, .int .i64 far] 68) (w.heap.size + 1) (by simp))); have ha1 := hx1.heap ((((Ext.refl _).alloc _).alloc _).heap (alloc_at w (.cells #[.slice a len cap] 24) _ rfl)); obtain ⟨f0, _⟩ := (Ext.refl w1).box ha1; obtain ⟨f1, _⟩ := (Ext.refl w1).box hs1; obtain ⟨f2, _⟩ := (Ext.refl w1).box hr1)
    have hsz := hw1.size
    refine bodyPost_ret (results_cell_tmp (P := Tryz.prog) (fn := Tryz.f20) rfl _ _ (w.heap.size + 1 + 1) 24 #[.slice none 0 0] (0, 0) _ rfl (by simp only [heap_setCell_box, hr1, Option.map_some, setIn_cells, List.setIfInBounds_toArray, List.set_cons_zero, List.set_cons_succ]) Tryz.underlying24 rfl (by kernel_rfl)) rfl ?_
    exact Hfin.out _ (hw1.setCell (p := ⟨w.heap.size + 1 + 1, 0, none⟩) (by simp only; omega) _)
  | true =>
    have hA := areaOk_iff.1 hao
    have hlen4 := hA.len
    rw [hll] at hlen4
    rw [hao] at hch
    simp only [if_true] at hch
    cases so with
    | false =>
      have hfin := hnone 41 (by rw [hsee, hao]; rfl)
      have hal : ∀ W, Calls Tryz.prog 46 _ W fun e w' => e = .returned (.tuple #[.slice none 0 0, .bool false]) ∧ Ext W w' := fun W => (hal W).mono fun e w' h => h.elim (fun h => absurd h.1 (by simp)) (fun h => h.2)
      have Hch := Lib.hid hch
      have Hfin := Lib.hid hfin
      have Hal := Lib.hid hal
      clear hch hfin hal
      clear hl hnone hsall hsee hhin hA
      go_enter Tryz.func20, Tryz.ntmps20
      go_wp2_with (first | (go_at_call 45; refine (Hch.out _ ((((Ext.refl _).alloc _).alloc _).alloc _)).mono ?_; rintro e w1 ⟨rfl, hx1⟩; have hw1 := ((((Ext.refl w).alloc _).alloc _).alloc _).trans hx1; have hr1 := hx1.heap (alloc_at ((w.alloc (.cells #[.slice a len cap] 24)).alloc (.cells #[.int .u8 kd, .int .i64 x, .int .i64 y, .int .i64 fx, .int .i64 fy, .int .i64 tx, .int .i64 ty, .int .i64 nl, .int .i64 nh, .int .i64 far] 68)) (.cells #[.slice none 0 0] 24) (w.heap.size + 1 + 1) (by simp)); have hs1 := hx1.heap (((Ext.refl _).alloc _).heap (alloc_at (w.alloc (.cells #[.slice a len cap] 24)) (.cells #[.int .u8 kd, .int .i64 x, .int .i64 y, .int .i64 fx, .int .i64 fy, .int .i64 tx, .int .i64 ty, .int .i64 nl, .int .i64 nh, .int .i64 far] 68) (w.heap.size + 1) (by simp))); have ha1 := hx1.heap ((((Ext.refl _).alloc _).alloc _).heap (alloc_at w (.cells #[.slice a len cap] 24) _ rfl)); obtain ⟨f0, _⟩ := (Ext.refl w1).box ha1; obtain ⟨f1, _⟩ := (Ext.refl w1).box hs1; obtain ⟨f2, _⟩ := (Ext.refl w1).box hr1) | (go_at_call 46; refine (Hal.out _).mono ?_; rintro e w2 ⟨rfl, hx2⟩; have hw2 := hw1.trans hx2; have hr2 := hx2.heap hr1; obtain ⟨g2, _⟩ := (Ext.refl w2).box hr2))
      have hsz := hw2.size
      refine bodyPost_ret (results_cell_tmp (P := Tryz.prog) (fn := Tryz.f20) rfl _ _ (w.heap.size + 1 + 1) 24 #[.slice none 0 0] (0, 0) _ rfl (by simp only [heap_setCell_box, hr2, Option.map_some, setIn_cells, List.setIfInBounds_toArray, List.set_cons_zero, List.set_cons_succ]) Tryz.underlying24 rfl (by kernel_rfl)) rfl ?_
      exact Hfin.out _ (hw2.setCell (p := ⟨w.heap.size + 1 + 1, 0, none⟩) (by simp only; omega) _)
    | true =>
      have hal : ∀ W, Calls Tryz.prog 46 _ W fun e w' => ∃ a c, e = .returned (.tuple #[.slice a M.length c, .bool true]) ∧ M.length ≤ c ∧ c ≤ maxLen ∧ Ext W w' ∧ HalvesAt w' a M.length M ∧ From W.heap.size a := fun W => (hal W).mono fun e w' h => h.elim (fun h => h.2) (fun h => absurd h.1 (by simp))
      replace hhin := hhin rfl
      obtain ⟨m, hml⟩ : ∃ m, M.length = m := ⟨_, rfl⟩
      rw [hml] at hal hmlen
      by_cases hsum : 40 < len + m
      · have hfin := hnone 9 (by rw [hsee, hao, if_neg (by simp), if_neg (by simp), if_pos (by omega)])
        have hsB : decide ((40 : Int) < (len : Int) + (m : Int)) = true := decide_eq_true (by omega)
        have hsB' : decide (40 < len + m) = true := decide_eq_true hsum
        have Hch := Lib.hid hch
        have Hfin := Lib.hid hfin
        have Hal := Lib.hid hal
        have Hl := Lib.hid hl
        clear hch hfin hal hl
        clear hnone hsall hsee hhin hA
        go_enter Tryz.func20, Tryz.ntmps20
        go_wp2_with (first | (go_at_call 45; refine (Hch.out _ ((((Ext.refl _).alloc _).alloc _).alloc _)).mono ?_; rintro e w1 ⟨rfl, hx1⟩; have hw1 := ((((Ext.refl w).alloc _).alloc _).alloc _).trans hx1; have hr1 := hx1.heap (alloc_at ((w.alloc (.cells #[.slice a len cap] 24)).alloc (.cells #[.int .u8 kd, .int .i64 x, .int .i64 y, .int .i64 fx, .int .i64 fy, .int .i64 tx, .int .i64 ty, .int .i64 nl, .int .i64 nh, .int .i64 far] 68)) (.cells #[.slice none 0 0] 24) (w.heap.size + 1 + 1) (by simp)); have hs1 := hx1.heap (((Ext.refl _).alloc _).heap (alloc_at (w.alloc (.cells #[.slice a len cap] 24)) (.cells #[.int .u8 kd, .int .i64 x, .int .i64 y, .int .i64 fx, .int .i64 fy, .int .i64 tx, .int .i64 ty, .int .i64 nl, .int .i64 nh, .int .i64 far] 68) (w.heap.size + 1) (by simp))); have ha1 := hx1.heap ((((Ext.refl _).alloc _).alloc _).heap (alloc_at w (.cells #[.slice a len cap] 24) _ rfl)); obtain ⟨f0, _⟩ := (Ext.refl w1).box ha1; obtain ⟨f1, _⟩ := (Ext.refl w1).box hs1; obtain ⟨f2, _⟩ := (Ext.refl w1).box hr1) | (go_at_call 46; refine (Hal.out _).mono ?_; rintro e w2 ⟨ma, mc, rfl, m1, m2, hx2, hM, _⟩; have hw2 := hw1.trans hx2; have hr2 := hx2.heap hr1; have ha2 := hx2.heap ha1; obtain ⟨g0, _⟩ := (Ext.refl w2).box ha2; obtain ⟨g2, _⟩ := (Ext.refl w2).box hr2; have hl2 := Hl.out.ext hw2))
        have hsz := hw2.size
        refine bodyPost_ret (results_cell_tmp (P := Tryz.prog) (fn := Tryz.f20) rfl _ _ (w.heap.size + 1 + 1) 24 #[.slice none 0 0] (0, 0) _ rfl (by simp only [heap_setCell_box, hr2, Option.map_some, setIn_cells, List.setIfInBounds_toArray, List.set_cons_zero, List.set_cons_succ]) Tryz.underlying24 rfl (by kernel_rfl)) rfl ?_
        exact Hfin.out _ (hw2.setCell (p := ⟨w.heap.size + 1 + 1, 0, none⟩) (by simp only; omega) _)
      · have hsB : decide ((40 : Int) < (len : Int) + (m : Int)) = false := decide_eq_false (by omega)
        have hsB' : decide (40 < len + m) = false := decide_eq_false hsum
        have hso := fun W b (ma : Option Addr) (mc : Nat) (hW : Ext w W) (hM : HalvesAt W ma m M) (h1 : m ≤ mc) (h2 : mc ≤ maxLen) (hb : W.heap[b]? = some (.cells #[.slice a len cap, .slice ma m mc] 22 (0, 0))) => some_any (some ⟨b, 0, none⟩) 2 2 [l, M] W (lists2 hb (hl.ext hW) hM hc hm h1 h2) (by omega) (by simp; omega) (fun h hh => by
          simp only [List.flatten_cons, List.flatten_nil, List.append_nil] at hh
          rcases List.mem_append.1 hh with h' | h'
          · exact hA.each h h'
          · exact hhin h h')
        simp only [List.flatten_cons, List.flatten_nil, List.append_nil] at hso
        cases hsm : someB (l ++ M) with
        | false =>
          have hfin := hnone 43 (by rw [hsee, hao, if_neg (by simp), if_neg (by simp), if_neg (by omega), if_pos hsm])
          rw [hsm] at hso
          have Hch := Lib.hid hch
          have Hfin := Lib.hid hfin
          have Hal := Lib.hid hal
          have Hl := Lib.hid hl
          have Hso := Lib.hid hso
          clear hch hfin hal hl hso
          clear hnone hsall hsee hhin hA
          go_enter Tryz.func20, Tryz.ntmps20
          go_wp2_with (first | (go_at_call 45; refine (Hch.out _ ((((Ext.refl _).alloc _).alloc _).alloc _)).mono ?_; rintro e w1 ⟨rfl, hx1⟩; have hw1 := ((((Ext.refl w).alloc _).alloc _).alloc _).trans hx1; have hr1 := hx1.heap (alloc_at ((w.alloc (.cells #[.slice a len cap] 24)).alloc (.cells #[.int .u8 kd, .int .i64 x, .int .i64 y, .int .i64 fx, .int .i64 fy, .int .i64 tx, .int .i64 ty, .int .i64 nl, .int .i64 nh, .int .i64 far] 68)) (.cells #[.slice none 0 0] 24) (w.heap.size + 1 + 1) (by simp)); have hs1 := hx1.heap (((Ext.refl _).alloc _).heap (alloc_at (w.alloc (.cells #[.slice a len cap] 24)) (.cells #[.int .u8 kd, .int .i64 x, .int .i64 y, .int .i64 fx, .int .i64 fy, .int .i64 tx, .int .i64 ty, .int .i64 nl, .int .i64 nh, .int .i64 far] 68) (w.heap.size + 1) (by simp))); have ha1 := hx1.heap ((((Ext.refl _).alloc _).alloc _).heap (alloc_at w (.cells #[.slice a len cap] 24) _ rfl)); obtain ⟨f0, _⟩ := (Ext.refl w1).box ha1; obtain ⟨f1, _⟩ := (Ext.refl w1).box hs1; obtain ⟨f2, _⟩ := (Ext.refl w1).box hr1; clear Hch) | (go_at_call 46; refine (Hal.out _).mono ?_; rintro e w2 ⟨ma, mc, rfl, m1, m2, hx2, hM, _⟩; have hw2 := hw1.trans hx2; have hr2 := hx2.heap hr1; have ha2 := hx2.heap ha1; obtain ⟨g0, _⟩ := (Ext.refl w2).box ha2; obtain ⟨g2, _⟩ := (Ext.refl w2).box hr2; have hl2 := Hl.out.ext hw2) | (go_at_call 47; refine (Hso.out _ _ ma mc (hw2.alloc _) (hM.ext ((Ext.refl _).alloc _)) m1 m2 (alloc_at _ _ _ rfl)).mono ?_; rintro e w3 ⟨rfl, hx3⟩; have hw3 := (hw2.alloc _).trans hx3; have hr3 := hx3.heap (((Ext.refl _).alloc _).heap hr2); have ha3 := hx3.heap (((Ext.refl _).alloc _).heap ha2); obtain ⟨k0, _⟩ := (Ext.refl w3).box ha3; obtain ⟨k2, _⟩ := (Ext.refl w3).box hr3; have hlt3 := heap_lt ha3; have hlr3 := heap_lt hr3; have hM3 := hM.ext (((Ext.refl _).alloc _).trans hx3); have hl3 := hl2.ext (((Ext.refl _).alloc _).trans hx3)))
          have hsz := hw3.size
          refine bodyPost_ret (results_cell_tmp (P := Tryz.prog) (fn := Tryz.f20) rfl _ _ (w.heap.size + 1 + 1) 24 #[.slice none 0 0] (0, 0) _ rfl (by simp only [heap_setCell_box, hr3, Option.map_some, setIn_cells, List.setIfInBounds_toArray, List.set_cons_zero, List.set_cons_succ]) Tryz.underlying24 rfl (by kernel_rfl)) rfl ?_
          exact Hfin.out _ (hw3.setCell (p := ⟨w.heap.size + 1 + 1, 0, none⟩) (by simp only; omega) _)
        | true =>
          have hfin := hsall (l ++ M) (by rw [hsee, hao, if_neg (by simp), if_neg (by simp), if_neg (by omega), if_neg (by rw [hsm]; simp)])
          rw [hsm] at hso
          have hrl : (halfRows l).length = len := by rw [halfRows_len]; exact hll
          have hrm : (halfRows M).length = m := by rw [halfRows_len]; exact hml
          have hsl : SlAt w 3 a len (fun k => (halfRows l).getD k []) := hl.src
          have Hch := Lib.hid hch
          have Hfin := Lib.hid hfin
          have Hal := Lib.hid hal
          have Hl := Lib.hid hl
          have Hso := Lib.hid hso
          have Hrl := Lib.hid hrl
          have Hrm := Lib.hid hrm
          have Hsl := Lib.hid hsl
          have Hml := Lib.hid hml
          have Hll := Lib.hid hll
          clear hch hfin hal hl hso hrl hrm hsl hml hll
          clear hnone hsall hsee hhin hA
          go_enter Tryz.func20, Tryz.ntmps20
          go_wp2_with (first | (go_at_call 45; refine (Hch.out _ ((((Ext.refl _).alloc _).alloc _).alloc _)).mono ?_; rintro e w1 ⟨rfl, hx1⟩; have hw1 := ((((Ext.refl w).alloc _).alloc _).alloc _).trans hx1; have hr1 := hx1.heap (alloc_at ((w.alloc (.cells #[.slice a len cap] 24)).alloc (.cells #[.int .u8 kd, .int .i64 x, .int .i64 y, .int .i64 fx, .int .i64 fy, .int .i64 tx, .int .i64 ty, .int .i64 nl, .int .i64 nh, .int .i64 far] 68)) (.cells #[.slice none 0 0] 24) (w.heap.size + 1 + 1) (by simp)); have hs1 := hx1.heap (((Ext.refl _).alloc _).heap (alloc_at (w.alloc (.cells #[.slice a len cap] 24)) (.cells #[.int .u8 kd, .int .i64 x, .int .i64 y, .int .i64 fx, .int .i64 fy, .int .i64 tx, .int .i64 ty, .int .i64 nl, .int .i64 nh, .int .i64 far] 68) (w.heap.size + 1) (by simp))); have ha1 := hx1.heap ((((Ext.refl _).alloc _).alloc _).heap (alloc_at w (.cells #[.slice a len cap] 24) _ rfl)); obtain ⟨f0, _⟩ := (Ext.refl w1).box ha1; obtain ⟨f1, _⟩ := (Ext.refl w1).box hs1; obtain ⟨f2, _⟩ := (Ext.refl w1).box hr1; clear Hch) | (go_at_call 46; refine (Hal.out _).mono ?_; rintro e w2 ⟨ma, mc, rfl, m1, m2, hx2, hM, _⟩; have hw2 := hw1.trans hx2; have hr2 := hx2.heap hr1; have ha2 := hx2.heap ha1; obtain ⟨g0, _⟩ := (Ext.refl w2).box ha2; obtain ⟨g2, _⟩ := (Ext.refl w2).box hr2; have hl2 := Hl.out.ext hw2) | (go_at_call 47; refine (Hso.out _ _ ma mc (hw2.alloc _) (hM.ext ((Ext.refl _).alloc _)) m1 m2 (alloc_at _ _ _ rfl)).mono ?_; rintro e w3 ⟨rfl, hx3⟩; have hw3 := (hw2.alloc _).trans hx3; have hr3 := hx3.heap (((Ext.refl _).alloc _).heap hr2); have ha3 := hx3.heap (((Ext.refl _).alloc _).heap ha2); obtain ⟨k0, _⟩ := (Ext.refl w3).box ha3; obtain ⟨k2, _⟩ := (Ext.refl w3).box hr3; have hlt3 := heap_lt ha3; have hlr3 := heap_lt hr3; have hM3 := hM.ext (((Ext.refl _).alloc _).trans hx3); have hl3 := hl2.ext (((Ext.refl _).alloc _).trans hx3)) | (at_builtin; refine wpList_app elem81 _ rfl (.tmp 41) (.tmp 43) rfl w3.heap.size _ (halfRows []) rfl (Owns.empty' (alloc_at _ _ _ rfl) (Nat.le_refl _) rfl (by decide)) a len cap (halfRows l) rfl Hrl.out (Hsl.out.ext (hw3.alloc _)) (halfRows_row _) ?_ ?_ ?_))
          · show 0 + len ≤ 1000000000
            omega
          · simp
          intro v4 w4 ho4 hg4 _
          rw [show halfRows [] ++ halfRows l = halfRows l from rfl] at ho4
          have hx4 : Ext w3 w4 := ((Ext.refl w3).alloc _).app (Owns.empty' (sz := 3) (cap := 0) (alloc_at _ _ _ rfl) (Nat.le_refl _) rfl (by decide)) hg4
          obtain ⟨va4, vc4, hv4, _, _, _, _⟩ := ho4.slAt
          subst hv4
          have hM4 := (hM3.ext hx4).src
          have Ho4 := Lib.hid ho4
          have Hx4 := Lib.hid hx4
          have HM4 := Lib.hid hM4
          clear ho4 hx4 hM4
          clear hg4 k0 k2
          go_wp2_with (at_builtin; refine wpList_app elem81 _ rfl (.tmp 44) (.tmp 45) rfl w3.heap.size _ (halfRows l) rfl Ho4.out ma m mc (halfRows M) rfl Hrm.out HM4.out (halfRows_row _) ?_ ?_ ?_)
          · rw [Hrl.out]
            omega
          · exact Hx4.out.size
          intro v5 w5 ho5 hg5 _
          rw [← halfRows_append] at ho5
          have hx5 := Hx4.out.app Ho4.out hg5
          obtain ⟨a5, c5, hv5, hf5, hc5, hm5, hM5⟩ := halves_of_owns ho5
          obtain ⟨N, hN⟩ : ∃ N, (l ++ M).length = N := ⟨_, rfl⟩
          rw [hN] at hv5 hc5 hM5
          subst hv5
          have hr5 := hx5.heap hr3
          obtain ⟨q2, _⟩ := (Ext.refl w5).box hr5
          have hw5 := hw3.trans hx5
          have hlw := heap_lt hr3
          have Ho5 := Lib.hid ho5
          have HM5 := Lib.hid hM5
          have Hw5 := Lib.hid hw5
          clear ho5 hM5 hw5
          clear hg5
          go_wp2_with fail
          refine bodyPost_ret (results_cell_tmp (P := Tryz.prog) (fn := Tryz.f20) rfl _ _ (w.heap.size + 1 + 1) 24 #[.slice a5 N c5] (0, 0) _ rfl (by simp only [heap_setCell_box, hr5, Option.map_some, setIn_cells, List.setIfInBounds_toArray, List.set_cons_zero, List.set_cons_succ]) Tryz.underlying24 rfl (by kernel_rfl)) rfl ?_
          have hsz := Hw5.out.size
          exact Hfin.out _ _ (Hw5.out.setCell (p := ⟨w.heap.size + 1 + 1, 0, none⟩) (by simp only; omega) _) ((owns_set Ho5.out hlr3).mono hw3.size)
theorem see_any (a : Option Addr) (len cap : Nat) (l : List Half) (s : Sight) (w : World) (hl : HalvesAt w a len l) (hc : len ≤ cap) (hm : cap ≤ maxLen) (h0 : 0 ≤ s.kind) (h1 : s.kind ≤ 255) :
    Calls Tryz.prog 20 #[.agg #[.slice a len cap], s.val] w (SeePost l s w) := (seeown_any a len cap l s w hl hc hm h0 h1).mono fun _ _ h => h.post
end Go.Proofs.YtcoelhpmkhimpaaGreat
