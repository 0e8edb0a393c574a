/- Contracts of the specification's tests of layer 1: within, spanned, Breed, Camel, CheckCamel, CheckBreed, March. -/
import Derived.Test.YtcoelhpmkhimpaaGreatDoorFromTo
namespace Go.Proofs.YtcoelhpmkhimpaaGreatDoor
open Go.RowKit
set_option linter.unusedVariables false
set_option linter.unusedSimpArgs false

theorem within_any (n lo hi : Int) (r : Bool) (hr : inB n lo hi = r) (w : World) : Calls Tryz.prog 82 #[.int .i64 n, .int .i64 lo, .int .i64 hi] w fun e w' => e = .returned (.bool r) ∧ w' = w := by
  subst hr
  unfold inB
  obtain ⟨A, hA⟩ : ∃ A, decide (lo ≤ n) = A := ⟨_, rfl⟩
  obtain ⟨B, hB⟩ : ∃ B, decide (n ≤ hi) = B := ⟨_, rfl⟩
  rw [hA, hB]
  cases A <;> cases B
  all_goals
    go_enter Tryz.func82, Tryz.ntmps82
    go_wp2_with fail
    go_ret
    exact ⟨rfl, rfl⟩
theorem spanned_any (a b lo hi : Int) (r : Bool) (hr : spanOk ⟨a, b⟩ lo hi = r) (w : World) : Calls Tryz.prog 83 #[.agg #[.int .i64 a, .int .i64 b], .int .i64 lo, .int .i64 hi] w fun e w' => e = .returned (.bool r) ∧ Ext w w' := by
  have hs : spanOk ⟨a, b⟩ lo hi = (inB a lo b && decide (b ≤ hi)) := by unfold spanOk inB; simp only
  rw [hs] at hr
  subst hr
  clear hs
  obtain ⟨P, hP⟩ : ∃ P, inB a lo b = P := ⟨_, rfl⟩
  rw [hP]
  have HP := Lib.hid hP
  clear hP
  cases P
  · go_enter Tryz.func83, Tryz.ntmps83
    go_wp2_with (go_at_call 82; refine (within_any _ _ _ _ HP.out _).mono ?_; rintro e w1 ⟨rfl, rfl⟩)
    go_ret
    exact ⟨rfl, (Ext.refl _).alloc _⟩
  · by_cases h2 : b ≤ hi
    · have b2 : decide (b ≤ hi) = true := decide_eq_true h2
      go_enter Tryz.func83, Tryz.ntmps83
      go_wp2_with (go_at_call 82; refine (within_any _ _ _ _ HP.out _).mono ?_; rintro e w1 ⟨rfl, rfl⟩)
      go_ret
      exact ⟨ret_bool (by rw [b2]; rfl), (Ext.refl _).alloc _⟩
    · have b2 : decide (b ≤ hi) = false := decide_eq_false h2
      go_enter Tryz.func83, Tryz.ntmps83
      go_wp2_with (go_at_call 82; refine (within_any _ _ _ _ HP.out _).mono ?_; rintro e w1 ⟨rfl, rfl⟩)
      go_ret
      exact ⟨ret_bool (by rw [b2]; rfl), (Ext.refl _).alloc _⟩
set_option maxHeartbeats 8000000 in
set_option maxRecDepth 100000 in
theorem rbreed_any (s : Breed) (w : World) : Calls Tryz.prog 49 #[s.val] w fun e w' => e = .returned (.bool (breedOk s)) ∧ Ext w w' := by
  obtain ⟨fu, fe, ⟨r0, r1⟩, ⟨h0, h1⟩, ⟨t0, t1⟩, ⟨b0, b1⟩, ⟨u0, u1⟩, ⟨m0, m1⟩, hl, ⟨s0, s1⟩⟩ := s
  obtain ⟨P1, e1⟩ : ∃ P, inB fu 1 1000000 = P := ⟨_, rfl⟩
  obtain ⟨P2, e2⟩ : ∃ P, inB fe 1 1000000 = P := ⟨_, rfl⟩
  obtain ⟨P3, e3⟩ : ∃ P, inB hl 0 1000 = P := ⟨_, rfl⟩
  obtain ⟨P4, e4⟩ : ∃ P, spanOk ⟨s0, s1⟩ 0 1000000 = P := ⟨_, rfl⟩
  obtain ⟨R1, k1⟩ : ∃ P, spanOk ⟨r0, r1⟩ 0 100000 = P := ⟨_, rfl⟩
  obtain ⟨R2, k2⟩ : ∃ P, spanOk ⟨h0, h1⟩ 0 100000 = P := ⟨_, rfl⟩
  obtain ⟨R3, k3⟩ : ∃ P, spanOk ⟨t0, t1⟩ 0 100000 = P := ⟨_, rfl⟩
  obtain ⟨R4, k4⟩ : ∃ P, spanOk ⟨b0, b1⟩ 0 100000 = P := ⟨_, rfl⟩
  obtain ⟨R5, k5⟩ : ∃ P, spanOk ⟨u0, u1⟩ 0 100000 = P := ⟨_, rfl⟩
  obtain ⟨R6, k6⟩ : ∃ P, spanOk ⟨m0, m1⟩ 0 100000 = P := ⟨_, rfl⟩
  have hv : breedOk ⟨fu, fe, ⟨r0, r1⟩, ⟨h0, h1⟩, ⟨t0, t1⟩, ⟨b0, b1⟩, ⟨u0, u1⟩, ⟨m0, m1⟩, hl, ⟨s0, s1⟩⟩ = (P1 && P2 && P3 && P4 && (R1 && R2 && R3 && R4 && R5 && R6)) := by
    unfold breedOk rateOk
    simp only
    rw [e1, e2, e3, e4, k1, k2, k3, k4, k5, k6]
  rw [hv]
  clear hv
  unfold Breed.val
  simp only
  have hbx := heap_alloc_new w (.cells #[.int .i64 fu, .int .i64 fe, .int .i64 r0, .int .i64 r1, .int .i64 h0, .int .i64 h1, .int .i64 t0, .int .i64 t1, .int .i64 b0, .int .i64 b1, .int .i64 u0, .int .i64 u1, .int .i64 m0, .int .i64 m1, .int .i64 hl, .int .i64 s0, .int .i64 s1] 25)
  have hxa : Ext w (w.alloc (.cells #[.int .i64 fu, .int .i64 fe, .int .i64 r0, .int .i64 r1, .int .i64 h0, .int .i64 h1, .int .i64 t0, .int .i64 t1, .int .i64 b0, .int .i64 b1, .int .i64 u0, .int .i64 u1, .int .i64 m0, .int .i64 m1, .int .i64 hl, .int .i64 s0, .int .i64 s1] 25)) := (Ext.refl _).alloc _
  obtain ⟨f0, _⟩ := (Ext.refl _).box hbx
  have E1 := Lib.hid e1
  have E2 := Lib.hid e2
  have E3 := Lib.hid e3
  have E4 := Lib.hid e4
  have K1 := Lib.hid k1
  have K2 := Lib.hid k2
  have K3 := Lib.hid k3
  have K4 := Lib.hid k4
  have K5 := Lib.hid k5
  have K6 := Lib.hid k6
  clear e1 e2 e3 e4 k1 k2 k3 k4 k5 k6
  cases P1
  rotate_left
  cases P2
  rotate_left
  cases P3
  rotate_left
  cases P4
  rotate_left
  cases R1
  rotate_left
  cases R2
  rotate_left
  cases R3
  rotate_left
  cases R4
  rotate_left
  cases R5
  rotate_left
  cases R6
  all_goals
    go_enter Tryz.func49, Tryz.ntmps49
    go_wp2_with (first | (go_at_call 82; refine (within_any _ _ _ _ (by first | exact E1.out | exact E2.out | exact E3.out) _).mono ?_; rintro e w1 ⟨rfl, rfl⟩) | (go_at_call 83; refine (spanned_any _ _ _ _ _ (by first | exact E4.out | exact K1.out | exact K2.out | exact K3.out | exact K4.out | exact K5.out | exact K6.out) _).mono ?_; rintro e w1 ⟨rfl, hx1⟩; replace hbx := hx1.heap hbx; replace hxa := hxa.trans hx1; clear hx1 f0; obtain ⟨f0, _⟩ := (Ext.refl _).box hbx))
    go_ret
    exact ⟨rfl, hxa⟩
end Go.Proofs.YtcoelhpmkhimpaaGreatDoor
