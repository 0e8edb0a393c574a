/- Contract of camel.greatest and of camel.Heaviest, of one day. -/
import Derived.Test.YtcoelhpmkhimpaaGreatDoorDoneLeaksC
import Derived.Test.YtcoelhpmkhimpaaGreatDoorDoneLeaksA
import Derived.Test.YtcoelhpmkhimpaaGreatDoorDoneLeaksB
import Derived.Test.YtcoelhpmkhimpaaGreatDoorCamD
namespace Go.Proofs.YtcoelhpmkhimpaaGreatDoor
open Go.RowKit
set_option linter.unusedVariables false
set_option linter.unusedSimpArgs false
theorem within5_any (n lo hi : Int) (r : Bool) (hr : inB n lo hi = r) (w : World) : Calls Tryz.prog 96 #[.int .i64 n, .int .i64 lo, .int .i64 hi] w fun e w' => e = .returned (.bool r) ∧ w' = w := by
  subst hr
  unfold inB
  obtain ⟨A, hA⟩ : ∃ A, decide (lo ≤ n) = A := ⟨_, rfl⟩
  obtain ⟨B, hB⟩ : ∃ B, decide (n ≤ hi) = B := ⟨_, rfl⟩
  rw [hA, hB]
  cases A <;> cases B
  all_goals
    go_enter Tryz.func96, Tryz.ntmps96
    go_wp2_with fail
    go_ret
    exact ⟨rfl, rfl⟩
theorem ordered5_any (a b lo hi : Int) (r : Bool) (hr : spanOk ⟨a, b⟩ lo hi = r) (w : World) : Calls Tryz.prog 95 #[.agg #[.int .i64 a, .int .i64 b], .int .i64 lo, .int .i64 hi] w fun e w' => e = .returned (.bool r) ∧ Ext w w' := by
  subst hr
  unfold spanOk
  simp only
  obtain ⟨A, hA⟩ : ∃ A, decide (lo ≤ a) = A := ⟨_, rfl⟩
  obtain ⟨B, hB⟩ : ∃ B, decide (a ≤ b) = B := ⟨_, rfl⟩
  obtain ⟨C, hC⟩ : ∃ C, decide (b ≤ hi) = C := ⟨_, rfl⟩
  rw [hA, hB, hC]
  cases A <;> cases B <;> cases C
  all_goals
    go_enter Tryz.func95, Tryz.ntmps95
    go_wp2_with fail
    go_ret
    exact ⟨rfl, (Ext.refl _).alloc _⟩
set_option maxHeartbeats 8000000 in
set_option maxRecDepth 100000 in
theorem rpack_any (p : Pack) (w : World) : Calls Tryz.prog 61 #[p.val] w fun e w' => e = .returned (.bool (packOk p)) ∧ Ext w w' := by
  obtain ⟨k, ⟨m0, m1⟩, ⟨a0, a1⟩, ⟨b0, b1⟩, ⟨l0, l1⟩, u, d⟩ := p
  obtain ⟨P1, e1⟩ : ∃ P, spanOk ⟨m0, m1⟩ 0 1000000 = P := ⟨_, rfl⟩
  obtain ⟨P2, e2⟩ : ∃ P, inB u 0 6000000 = P := ⟨_, rfl⟩
  obtain ⟨P3, e3⟩ : ∃ P, inB d 0 100000 = P := ⟨_, rfl⟩
  obtain ⟨Q1, e4⟩ : ∃ P, spanOk ⟨a0, a1⟩ 1 100000 = P := ⟨_, rfl⟩
  obtain ⟨Q2, e5⟩ : ∃ P, spanOk ⟨b0, b1⟩ 0 1000 = P := ⟨_, rfl⟩
  obtain ⟨Q3, e6⟩ : ∃ P, spanOk ⟨l0, l1⟩ 0 1000000 = P := ⟨_, rfl⟩
  have hv : packOk ⟨k, ⟨m0, m1⟩, ⟨a0, a1⟩, ⟨b0, b1⟩, ⟨l0, l1⟩, u, d⟩ = (P1 && P2 && P3 && (if k = 1 then Q1 && Q2 && decide ((⟨l0, l1⟩ : Span) = zspan) else if k = 2 then decide ((⟨a0, a1⟩ : Span) = zspan) && decide ((⟨b0, b1⟩ : Span) = zspan) && decide ((⟨l0, l1⟩ : Span) = zspan) else decide (k = 3) && decide ((⟨a0, a1⟩ : Span) = zspan) && decide ((⟨b0, b1⟩ : Span) = zspan) && Q3)) := by
    unfold packOk packKindOk
    simp only
    rw [e1, e2, e3, e4, e5, e6]
  rw [hv]
  clear hv
  have E1 := Lib.hid e1
  have E2 := Lib.hid e2
  have E3 := Lib.hid e3
  have E4 := Lib.hid e4
  have E5 := Lib.hid e5
  have E6 := Lib.hid e6
  clear e1 e2 e3 e4 e5 e6
  cases P1
  · unfold Pack.val
    simp only
    have hb0 := heap_alloc_new w (.cells #[.int .u8 k, .int .i64 m0, .int .i64 m1, .int .i64 a0, .int .i64 a1, .int .i64 b0, .int .i64 b1, .int .i64 l0, .int .i64 l1, .int .i64 u, .int .i64 d] 50)
    have hx0 := (Ext.refl w).alloc (.cells #[.int .u8 k, .int .i64 m0, .int .i64 m1, .int .i64 a0, .int .i64 a1, .int .i64 b0, .int .i64 b1, .int .i64 l0, .int .i64 l1, .int .i64 u, .int .i64 d] 50)
    obtain ⟨f0, _⟩ := (Ext.refl _).box hb0
    go_enter Tryz.func61, Tryz.ntmps61
    go_wp2_with (first
      | (go_at_call 95; refine (ordered5_any _ _ _ _ _ (by first | exact E1.out | exact E4.out | exact E5.out | exact E6.out) _).mono ?_; rintro e w1 ⟨rfl, hx1⟩; replace hb0 := hx1.heap hb0; replace hx0 := hx0.trans hx1; clear hx1 f0; obtain ⟨f0, _⟩ := (Ext.refl _).box hb0; have hb0l := heap_lt hb0)
      | (go_at_call 96; refine (within5_any _ _ _ _ (by first | exact E2.out | exact E3.out) _).mono ?_; rintro e w1 ⟨rfl, rfl⟩))
    all_goals go_ret
    all_goals exact ⟨rfl, hx0⟩
  cases P2
  · unfold Pack.val
    simp only
    have hb0 := heap_alloc_new w (.cells #[.int .u8 k, .int .i64 m0, .int .i64 m1, .int .i64 a0, .int .i64 a1, .int .i64 b0, .int .i64 b1, .int .i64 l0, .int .i64 l1, .int .i64 u, .int .i64 d] 50)
    have hx0 := (Ext.refl w).alloc (.cells #[.int .u8 k, .int .i64 m0, .int .i64 m1, .int .i64 a0, .int .i64 a1, .int .i64 b0, .int .i64 b1, .int .i64 l0, .int .i64 l1, .int .i64 u, .int .i64 d] 50)
    obtain ⟨f0, _⟩ := (Ext.refl _).box hb0
    go_enter Tryz.func61, Tryz.ntmps61
    go_wp2_with (first
      | (go_at_call 95; refine (ordered5_any _ _ _ _ _ (by first | exact E1.out | exact E4.out | exact E5.out | exact E6.out) _).mono ?_; rintro e w1 ⟨rfl, hx1⟩; replace hb0 := hx1.heap hb0; replace hx0 := hx0.trans hx1; clear hx1 f0; obtain ⟨f0, _⟩ := (Ext.refl _).box hb0; have hb0l := heap_lt hb0)
      | (go_at_call 96; refine (within5_any _ _ _ _ (by first | exact E2.out | exact E3.out) _).mono ?_; rintro e w1 ⟨rfl, rfl⟩))
    all_goals go_ret
    all_goals exact ⟨rfl, hx0⟩
  cases P3
  · unfold Pack.val
    simp only
    have hb0 := heap_alloc_new w (.cells #[.int .u8 k, .int .i64 m0, .int .i64 m1, .int .i64 a0, .int .i64 a1, .int .i64 b0, .int .i64 b1, .int .i64 l0, .int .i64 l1, .int .i64 u, .int .i64 d] 50)
    have hx0 := (Ext.refl w).alloc (.cells #[.int .u8 k, .int .i64 m0, .int .i64 m1, .int .i64 a0, .int .i64 a1, .int .i64 b0, .int .i64 b1, .int .i64 l0, .int .i64 l1, .int .i64 u, .int .i64 d] 50)
    obtain ⟨f0, _⟩ := (Ext.refl _).box hb0
    go_enter Tryz.func61, Tryz.ntmps61
    go_wp2_with (first
      | (go_at_call 95; refine (ordered5_any _ _ _ _ _ (by first | exact E1.out | exact E4.out | exact E5.out | exact E6.out) _).mono ?_; rintro e w1 ⟨rfl, hx1⟩; replace hb0 := hx1.heap hb0; replace hx0 := hx0.trans hx1; clear hx1 f0; obtain ⟨f0, _⟩ := (Ext.refl _).box hb0; have hb0l := heap_lt hb0)
      | (go_at_call 96; refine (within5_any _ _ _ _ (by first | exact E2.out | exact E3.out) _).mono ?_; rintro e w1 ⟨rfl, rfl⟩))
    all_goals go_ret
    all_goals exact ⟨rfl, hx0⟩
  simp only [Bool.true_and]
  by_cases h1 : k = 1
  · have k1 : (k == 1) = true := by simp [h1]
    rw [if_pos h1]
    clear h1
    unfold Pack.val
    simp only
    have hb0 := heap_alloc_new w (.cells #[.int .u8 k, .int .i64 m0, .int .i64 m1, .int .i64 a0, .int .i64 a1, .int .i64 b0, .int .i64 b1, .int .i64 l0, .int .i64 l1, .int .i64 u, .int .i64 d] 50)
    have hx0 := (Ext.refl w).alloc (.cells #[.int .u8 k, .int .i64 m0, .int .i64 m1, .int .i64 a0, .int .i64 a1, .int .i64 b0, .int .i64 b1, .int .i64 l0, .int .i64 l1, .int .i64 u, .int .i64 d] 50)
    obtain ⟨f0, _⟩ := (Ext.refl _).box hb0
    go_enter Tryz.func61, Tryz.ntmps61
    go_upto_region 4 with (first
      | (go_at_call 95; refine (ordered5_any _ _ _ _ _ (by first | exact E1.out | exact E4.out | exact E5.out | exact E6.out) _).mono ?_; rintro e w1 ⟨rfl, hx1⟩; replace hb0 := hx1.heap hb0; replace hx0 := hx0.trans hx1; clear hx1 f0; obtain ⟨f0, _⟩ := (Ext.refl _).box hb0; have hb0l := heap_lt hb0)
      | (go_at_call 96; refine (within5_any _ _ _ _ (by first | exact E2.out | exact E3.out) _).mono ?_; rintro e w1 ⟨rfl, rfl⟩))
    clear f0
    have hz := heap_alloc_new w1 (.cells #[.int .i64 0, .int .i64 0] 23)
    replace hb0 := alloc_heap hb0 (.cells #[.int .i64 0, .int .i64 0] 23)
    replace hx0 := hx0.alloc (.cells #[.int .i64 0, .int .i64 0] 23)
    generalize w1.alloc (.cells #[.int .i64 0, .int .i64 0] 23) = W2 at *
    generalize w1.heap.size = z at *
    generalize w.heap.size = p0 at *
    obtain ⟨f0, _⟩ := (Ext.refl W2).box hb0
    obtain ⟨y0, _⟩ := (Ext.refl W2).box hz
    go_wp2_with (go_at_call 95; refine (ordered5_any _ _ _ _ _ (by first | exact E1.out | exact E4.out | exact E5.out | exact E6.out) _).mono ?_; rintro e w1 ⟨rfl, hx1⟩; replace hb0 := hx1.heap hb0; replace hz := hx1.heap hz; replace hx0 := hx0.trans hx1; clear hx1 f0 y0; obtain ⟨f0, _⟩ := (Ext.refl _).box hb0; obtain ⟨y0, _⟩ := (Ext.refl _).box hz; have hb0l := heap_lt hb0; have hzl := heap_lt hz)
    all_goals go_ret
    all_goals refine ⟨ret_bool (by clear hb0 hz hx0 f0 y0; simp_all [zspan]), hx0⟩
  · rw [if_neg h1]
    by_cases h2 : k = 2
    · have k1 : (k == 1) = false := by simp [h1]
      have k2 : (k == 2) = true := by simp [h2]
      rw [if_pos h2]
      clear h1 h2
      unfold Pack.val
      simp only
      have hb0 := heap_alloc_new w (.cells #[.int .u8 k, .int .i64 m0, .int .i64 m1, .int .i64 a0, .int .i64 a1, .int .i64 b0, .int .i64 b1, .int .i64 l0, .int .i64 l1, .int .i64 u, .int .i64 d] 50)
      have hx0 := (Ext.refl w).alloc (.cells #[.int .u8 k, .int .i64 m0, .int .i64 m1, .int .i64 a0, .int .i64 a1, .int .i64 b0, .int .i64 b1, .int .i64 l0, .int .i64 l1, .int .i64 u, .int .i64 d] 50)
      obtain ⟨f0, _⟩ := (Ext.refl _).box hb0
      go_enter Tryz.func61, Tryz.ntmps61
      go_upto_region 4 with (first
        | (go_at_call 95; refine (ordered5_any _ _ _ _ _ (by first | exact E1.out | exact E4.out | exact E5.out | exact E6.out) _).mono ?_; rintro e w1 ⟨rfl, hx1⟩; replace hb0 := hx1.heap hb0; replace hx0 := hx0.trans hx1; clear hx1 f0; obtain ⟨f0, _⟩ := (Ext.refl _).box hb0; have hb0l := heap_lt hb0)
        | (go_at_call 96; refine (within5_any _ _ _ _ (by first | exact E2.out | exact E3.out) _).mono ?_; rintro e w1 ⟨rfl, rfl⟩))
      clear f0
      have hz := heap_alloc_new w1 (.cells #[.int .i64 0, .int .i64 0] 23)
      replace hb0 := alloc_heap hb0 (.cells #[.int .i64 0, .int .i64 0] 23)
      replace hx0 := hx0.alloc (.cells #[.int .i64 0, .int .i64 0] 23)
      generalize w1.alloc (.cells #[.int .i64 0, .int .i64 0] 23) = W2 at *
      generalize w1.heap.size = z at *
      generalize w.heap.size = p0 at *
      obtain ⟨f0, _⟩ := (Ext.refl W2).box hb0
      obtain ⟨y0, _⟩ := (Ext.refl W2).box hz
      go_wp2_with (go_at_call 95; refine (ordered5_any _ _ _ _ _ (by first | exact E1.out | exact E4.out | exact E5.out | exact E6.out) _).mono ?_; rintro e w1 ⟨rfl, hx1⟩; replace hb0 := hx1.heap hb0; replace hz := hx1.heap hz; replace hx0 := hx0.trans hx1; clear hx1 f0 y0; obtain ⟨f0, _⟩ := (Ext.refl _).box hb0; obtain ⟨y0, _⟩ := (Ext.refl _).box hz; have hb0l := heap_lt hb0; have hzl := heap_lt hz)
      all_goals go_ret
      all_goals refine ⟨ret_bool (by clear hb0 hz hx0 f0 y0; simp_all [zspan]), hx0⟩
    · rw [if_neg h2]
      by_cases h3 : k = 3
      · have k1 : (k == 1) = false := by simp [h1]
        have k2 : (k == 2) = false := by simp [h2]
        have k3 : (k == 3) = true := by simp [h3]
        rw [show decide (k = 3) = true from decide_eq_true h3, Bool.true_and]
        clear h1 h2 h3
        unfold Pack.val
        simp only
        have hb0 := heap_alloc_new w (.cells #[.int .u8 k, .int .i64 m0, .int .i64 m1, .int .i64 a0, .int .i64 a1, .int .i64 b0, .int .i64 b1, .int .i64 l0, .int .i64 l1, .int .i64 u, .int .i64 d] 50)
        have hx0 := (Ext.refl w).alloc (.cells #[.int .u8 k, .int .i64 m0, .int .i64 m1, .int .i64 a0, .int .i64 a1, .int .i64 b0, .int .i64 b1, .int .i64 l0, .int .i64 l1, .int .i64 u, .int .i64 d] 50)
        obtain ⟨f0, _⟩ := (Ext.refl _).box hb0
        go_enter Tryz.func61, Tryz.ntmps61
        go_upto_region 4 with (first
          | (go_at_call 95; refine (ordered5_any _ _ _ _ _ (by first | exact E1.out | exact E4.out | exact E5.out | exact E6.out) _).mono ?_; rintro e w1 ⟨rfl, hx1⟩; replace hb0 := hx1.heap hb0; replace hx0 := hx0.trans hx1; clear hx1 f0; obtain ⟨f0, _⟩ := (Ext.refl _).box hb0; have hb0l := heap_lt hb0)
          | (go_at_call 96; refine (within5_any _ _ _ _ (by first | exact E2.out | exact E3.out) _).mono ?_; rintro e w1 ⟨rfl, rfl⟩))
        clear f0
        have hz := heap_alloc_new w1 (.cells #[.int .i64 0, .int .i64 0] 23)
        replace hb0 := alloc_heap hb0 (.cells #[.int .i64 0, .int .i64 0] 23)
        replace hx0 := hx0.alloc (.cells #[.int .i64 0, .int .i64 0] 23)
        generalize w1.alloc (.cells #[.int .i64 0, .int .i64 0] 23) = W2 at *
        generalize w1.heap.size = z at *
        generalize w.heap.size = p0 at *
        obtain ⟨f0, _⟩ := (Ext.refl W2).box hb0
        obtain ⟨y0, _⟩ := (Ext.refl W2).box hz
        go_wp2_with (go_at_call 95; refine (ordered5_any _ _ _ _ _ (by first | exact E1.out | exact E4.out | exact E5.out | exact E6.out) _).mono ?_; rintro e w1 ⟨rfl, hx1⟩; replace hb0 := hx1.heap hb0; replace hz := hx1.heap hz; replace hx0 := hx0.trans hx1; clear hx1 f0 y0; obtain ⟨f0, _⟩ := (Ext.refl _).box hb0; obtain ⟨y0, _⟩ := (Ext.refl _).box hz; have hb0l := heap_lt hb0; have hzl := heap_lt hz)
        all_goals go_ret
        all_goals refine ⟨ret_bool (by clear hb0 hz hx0 f0 y0; simp_all [zspan]), hx0⟩
      · have k1 : (k == 1) = false := by simp [h1]
        have k2 : (k == 2) = false := by simp [h2]
        have k3 : (k == 3) = false := by simp [h3]
        rw [show decide (k = 3) = false from decide_eq_false h3, Bool.false_and]
        clear h1 h2 h3
        unfold Pack.val
        simp only
        have hb0 := heap_alloc_new w (.cells #[.int .u8 k, .int .i64 m0, .int .i64 m1, .int .i64 a0, .int .i64 a1, .int .i64 b0, .int .i64 b1, .int .i64 l0, .int .i64 l1, .int .i64 u, .int .i64 d] 50)
        have hx0 := (Ext.refl w).alloc (.cells #[.int .u8 k, .int .i64 m0, .int .i64 m1, .int .i64 a0, .int .i64 a1, .int .i64 b0, .int .i64 b1, .int .i64 l0, .int .i64 l1, .int .i64 u, .int .i64 d] 50)
        obtain ⟨f0, _⟩ := (Ext.refl _).box hb0
        go_enter Tryz.func61, Tryz.ntmps61
        go_upto_region 4 with (first
          | (go_at_call 95; refine (ordered5_any _ _ _ _ _ (by first | exact E1.out | exact E4.out | exact E5.out | exact E6.out) _).mono ?_; rintro e w1 ⟨rfl, hx1⟩; replace hb0 := hx1.heap hb0; replace hx0 := hx0.trans hx1; clear hx1 f0; obtain ⟨f0, _⟩ := (Ext.refl _).box hb0; have hb0l := heap_lt hb0)
          | (go_at_call 96; refine (within5_any _ _ _ _ (by first | exact E2.out | exact E3.out) _).mono ?_; rintro e w1 ⟨rfl, rfl⟩))
        clear f0
        have hz := heap_alloc_new w1 (.cells #[.int .i64 0, .int .i64 0] 23)
        replace hb0 := alloc_heap hb0 (.cells #[.int .i64 0, .int .i64 0] 23)
        replace hx0 := hx0.alloc (.cells #[.int .i64 0, .int .i64 0] 23)
        generalize w1.alloc (.cells #[.int .i64 0, .int .i64 0] 23) = W2 at *
        generalize w1.heap.size = z at *
        generalize w.heap.size = p0 at *
        obtain ⟨f0, _⟩ := (Ext.refl W2).box hb0
        obtain ⟨y0, _⟩ := (Ext.refl W2).box hz
        go_wp2_with (go_at_call 95; refine (ordered5_any _ _ _ _ _ (by first | exact E1.out | exact E4.out | exact E5.out | exact E6.out) _).mono ?_; rintro e w1 ⟨rfl, hx1⟩; replace hb0 := hx1.heap hb0; replace hz := hx1.heap hz; replace hx0 := hx0.trans hx1; clear hx1 f0 y0; obtain ⟨f0, _⟩ := (Ext.refl _).box hb0; obtain ⟨y0, _⟩ := (Ext.refl _).box hz; have hb0l := heap_lt hb0; have hzl := heap_lt hz)
        all_goals go_ret
        all_goals refine ⟨ret_bool (by clear hb0 hz hx0 f0 y0; simp_all [zspan]), hx0⟩
end Go.Proofs.YtcoelhpmkhimpaaGreatDoor

namespace Go.Proofs.YtcoelhpmkhimpaaGreatDoor
open Go.RowKit
set_option linter.unusedVariables false
set_option linter.unusedSimpArgs false
theorem within5_e {n lo hi : Int} {r : Bool} (hr : inB n lo hi = r) (w : World) : Calls Tryz.prog 96 #[.int .i64 n, .int .i64 lo, .int .i64 hi] w fun e w' => e = .returned (.bool r) ∧ Ext w w' :=
  (within5_any n lo hi r hr w).mono fun e w' ⟨h1, h2⟩ => ⟨h1, h2 ▸ Ext.refl _⟩
theorem rise_no {n x : Int} {l : List Int} {k : Nat} (h : l[k]? = some x) (hk : riseB n (-1) (l.take k) = true) (hx : inB x 0 (n - 1) = false) : riseB n (-1) l = false := by
  refine riseB_fail h hk ?_
  have := lastOf_range hk
  unfold inB at hx ⊢
  simp only [Bool.and_eq_false_iff, decide_eq_false_iff_not] at hx ⊢
  omega
theorem rise_first {n x : Int} {l : List Int} (h : l[0]? = some x) (hx : inB x 0 (n - 1) = true) : riseB n (-1) (l.take 1) = true := by
  rw [take_succ_of h, riseB_append]
  simp [riseB, lastOf, hx]
theorem rise_down {n x y : Int} {l : List Int} {k : Nat} (h : l[k + 1]? = some x) (hy : l[k]? = some y) (hk : riseB n (-1) (l.take (k + 1)) = true) (hxy : x ≤ y) : riseB n (-1) l = false := by
  refine riseB_fail h hk ?_
  rw [lastOf_take hy]
  unfold inB
  simp only [Bool.and_eq_false_iff, decide_eq_false_iff_not]
  omega
theorem rise_up {n x y : Int} {l : List Int} {k : Nat} (h : l[k + 1]? = some x) (hy : l[k]? = some y) (hk : riseB n (-1) (l.take (k + 1)) = true) (hx : inB x 0 (n - 1) = true) (hxy : ¬x ≤ y) : riseB n (-1) (l.take (k + 1 + 1)) = true := by
  rw [take_succ_of h, riseB_append, hk, lastOf_take hy, Bool.true_and]
  have := inB_is hx
  unfold inB
  simp only [Bool.and_eq_true, decide_eq_true_eq]
  omega
set_option maxRecDepth 100000 in
set_option maxHeartbeats 4000000 in
theorem rrising_any (a : Option Addr) (m cap : Nat) (l : List Int) (n : Int) (w : World) (hl : IntsAt .i64 w a m l) (hm : m ≤ 1000) (hn : 0 ≤ n ∧ n ≤ 1000000) :
    Calls Tryz.prog 62 #[.slice a m cap, .int .i64 n] w fun e w' => e = .returned (.bool (riseB n (-1) l)) ∧ Ext w w' := by
  have hll := hl.1
  have Hl := Lib.hid hl
  have Hll := Lib.hid hll
  clear hl hll
  go_enter Tryz.func62, Tryz.ntmps62
  go_upto_region 2 with fail
  go_loopw [5] (fun i wr => ∃ k : Nat, k ≤ m ∧ i = .int .i64 k ∧ Ext w wr ∧ riseB n (-1) (l.take k) = true) (fun i _ => m - (intOf i).toNat)
  case atStart => exact ⟨0, Nat.zero_le _, rfl, Ext.refl _, rfl⟩
  case round =>
    obtain ⟨k, hk, rfl, hx, hri⟩ := hrel
    by_cases hlt : k < m
    · obtain ⟨b, off, x, rfl, hxk, hb, c0⟩ := (Hl.out.ext hx).get k hlt
      have hltB : decide ((k : Int) < (m : Int)) = true := by simp; omega
      obtain ⟨P, hP⟩ : ∃ P, inB x 0 (n - 1) = P := ⟨_, rfl⟩
      obtain ⟨n1, n2⟩ := hn
      have Hx := Lib.hid hx
      have Hxk := Lib.hid hxk
      have Hri := Lib.hid hri
      have HP := Lib.hid hP
      clear hx hxk hri hP
      have C0 := Lib.hid c0
      clear c0
      cases P with
      | false =>
        go_upto_region 4 with fail
        refine wp_region_ext (by kernel_rfl) (by kernel_rfl) (fun f hf hs => ?_)
        have f0 := fun q => (hf q).cell C0.out
        have Hf := Lib.hid hf
        have HS := Lib.hid hs
        clear hf hs
        repeat (go_big_quiet_step ((go_at_call 96; exact Calls.ext_of (Hf.out _) HS.out (within5_e HP.out _))))
        refine wpQuiet_nil ?_
        intro W1 hW1
        clear f0
        have HW1 := Lib.hid hW1
        clear hW1
        go_wp2_with fail
        go_ret
        exact ⟨ret_bool (rise_no Hxk.out Hri.out HP.out).symm, Hx.out.trans HW1.out⟩
      | true =>
        rcases Nat.eq_zero_or_pos k with h0 | h0
        · have hpB : decide ((0 : Int) < (k : Int)) = false := by simp; omega
          have hpN : decide (0 < k) = false := by simp; omega
          have hnx : riseB n (-1) (l.take (k + 1)) = true := by
            subst h0
            exact rise_first Hxk.out HP.out
          clear h0
          have Hnx := Lib.hid hnx
          clear hnx
          go_upto_region 4 with fail
          refine wp_region_ext (by kernel_rfl) (by kernel_rfl) (fun f hf hs => ?_)
          have f0 := fun q => (hf q).cell C0.out
          have Hf := Lib.hid hf
          have HS := Lib.hid hs
          clear hf hs
          repeat (go_big_quiet_step ((go_at_call 96; exact Calls.ext_of (Hf.out _) HS.out (within5_e HP.out _))))
          refine wpQuiet_nil ?_
          intro W1 hW1
          clear f0
          have HW1 := Lib.hid hW1
          clear hW1
          go_wp2_with fail
          go_roundw
          case rel => exact ⟨k + 1, by omega, by go_num, Hx.out.trans HW1.out, Hnx.out⟩
          case measure => simp [intOf]; omega
        · obtain ⟨j, rfl⟩ : ∃ j : Nat, k = j + 1 := ⟨k - 1, by omega⟩
          obtain ⟨b2, off2, y, hb2, hyk, _, d0⟩ := (Hl.out.ext Hx.out).get j (by omega)
          cases hb2
          have D0 := Lib.hid d0
          have hpB : decide ((0 : Int) < ((j + 1 : Nat) : Int)) = true := decide_eq_true (by omega)
          have Hyk := Lib.hid hyk
          clear hyk
          clear d0
          by_cases hxy : x ≤ y
          · have hxyB : decide (x ≤ y) = true := decide_eq_true hxy
            go_upto_region 4 with fail
            refine wp_region_ext (by kernel_rfl) (by kernel_rfl) (fun f hf hs => ?_)
            have f0 := fun q => (hf q).cell C0.out
            have f1 := fun q => (hf q).cell D0.out
            have Hf := Lib.hid hf
            have HS := Lib.hid hs
            clear hf hs
            repeat (go_big_quiet_step ((go_at_call 96; exact Calls.ext_of (Hf.out _) HS.out (within5_e HP.out _))))
            refine wpQuiet_nil ?_
            intro W1 hW1
            clear f0 f1
            have HW1 := Lib.hid hW1
            clear hW1
            go_wp2_with fail
            go_ret
            exact ⟨ret_bool (rise_down Hxk.out Hyk.out Hri.out hxy).symm, Hx.out.trans HW1.out⟩
          · have hxyB : decide (x ≤ y) = false := decide_eq_false hxy
            go_upto_region 4 with fail
            refine wp_region_ext (by kernel_rfl) (by kernel_rfl) (fun f hf hs => ?_)
            have f0 := fun q => (hf q).cell C0.out
            have f1 := fun q => (hf q).cell D0.out
            have Hf := Lib.hid hf
            have HS := Lib.hid hs
            clear hf hs
            repeat (go_big_quiet_step ((go_at_call 96; exact Calls.ext_of (Hf.out _) HS.out (within5_e HP.out _))))
            refine wpQuiet_nil ?_
            intro W1 hW1
            clear f0 f1
            have HW1 := Lib.hid hW1
            clear hW1
            go_wp2_with fail
            go_roundw
            case rel => exact ⟨j + 1 + 1, by omega, by go_num, Hx.out.trans HW1.out, rise_up Hxk.out Hyk.out Hri.out HP.out hxy⟩
            case measure => simp [intOf]; omega
    · have hltB : decide ((k : Int) < (m : Int)) = false := by simp; omega
      obtain rfl : m = k := by omega
      rw [List.take_of_length_le (Nat.le_of_eq Hll.out)] at hri
      have Hx := Lib.hid hx
      have Hri := Lib.hid hri
      clear hx hri
      go_wp2_with fail
      go_ret
      exact ⟨ret_bool Hri.out.symm, Hx.out⟩
set_option maxRecDepth 100000 in
/-- the packs of a load -/
theorem rlist_any (a1 a2 a3 : Option Addr) (n1 n2 n3 c1 c2 c3 : Nat) (t : Tied) (w : World) (h : TiedAt w a1 a2 a3 n1 n2 n3 c1 c2 c3 t) (hn : (allOf t).length ≤ 1000) : Calls Tryz.prog 63 #[.agg #[.slice a1 n1 c1, .slice a2 n2 c2, .slice a3 n3 c3]] w (ConcatPost (allOf t) w) := by
  have hlen := h.len
  have hs1 := h.left.src
  have hs2 := h.right.src
  have hs3 := h.top.src
  have hr1 : (intRows .i64 t.left).length = n1 := by rw [intRows_len]; exact h.left.1
  have hr2 : (intRows .i64 t.right).length = n2 := by rw [intRows_len]; exact h.right.1
  have hr3 : (intRows .i64 t.top).length = n3 := by rw [intRows_len]; exact h.top.1
  have hl1 := h.left.1
  have hl2 := h.right.1
  have hl3 := h.top.1
  have hx0 : Ext w (w.alloc (.cells #[.slice a1 n1 c1, .slice a2 n2 c2, .slice a3 n3 c3] 31)) := (Ext.refl w).alloc _
  have hp0 := heap_alloc_new w (.cells #[.slice a1 n1 c1, .slice a2 n2 c2, .slice a3 n3 c3] 31)
  have Hlen := Lib.hid hlen
  have Hs1 := Lib.hid hs1
  have Hs2 := Lib.hid hs2
  have Hs3 := Lib.hid hs3
  have Hr1 := Lib.hid hr1
  have Hr2 := Lib.hid hr2
  have Hr3 := Lib.hid hr3
  have Hl1 := Lib.hid hl1
  have Hl2 := Lib.hid hl2
  have Hl3 := Lib.hid hl3
  have Hx0 := Lib.hid hx0
  have Hn := Lib.hid hn
  clear hlen hs1 hs2 hs3 hr1 hr2 hr3 hl1 hl2 hl3 hx0 hn
  clear h
  go_enter Tryz.func63, Tryz.ntmps63
  go_upto_region 1 with fail
  generalize w.alloc (.cells #[.slice a1 n1 c1, .slice a2 n2 c2, .slice a3 n3 c3] 31) = W1 at *
  obtain ⟨y0, _⟩ := (Ext.refl W1).box hp0
  have hp0l := heap_lt hp0
  have Hp0 := Lib.hid hp0
  clear hp0
  go_wp2_with (at_builtin; refine wpList_app elem34 _ rfl (.tmp 4) (.tmp 6) rfl W1.heap.size _ (intRows .i64 []) rfl (Owns.emptyM (alloc_at _ _ _ rfl) (Nat.le_refl _) rfl (by decide)) a1 n1 c1 (intRows .i64 t.left) rfl Hr1.out ((Hs1.out.ext Hx0.out).ext ((Ext.refl _).alloc _)) (intRows_row _ _) ?_ ?_ ?_)
  · show 0 + n1 ≤ 1000000000
    have := Hn.out
    have := Hlen.out
    omega
  · simp
  intro v4 w4 ho4 hg4 _
  rw [show intRows .i64 [] ++ intRows .i64 t.left = intRows .i64 t.left from rfl] at ho4
  have hx4 : Ext W1 w4 := ((Ext.refl W1).alloc _).app (Owns.emptyM (sz := 1) (cap := 0) (alloc_at _ _ _ rfl) (Nat.le_refl _) rfl (by decide)) hg4
  obtain ⟨a4, c4, e4, _, _, _, _⟩ := ho4.slAt
  rw [Hr1.out] at e4
  subst e4
  clear y0
  have hp4 := hx4.heap Hp0.out
  obtain ⟨y0, _⟩ := (Ext.refl w4).box hp4
  have hp4l := heap_lt hp4
  have hs4 := hx4.size
  have Ho4 := Lib.hid ho4
  have Hx4 := Lib.hid hx4
  have Hp4 := Lib.hid hp4
  clear ho4 hx4 hp4
  clear hg4
  go_wp2_with (at_builtin; refine wpList_app elem34 _ rfl (.tmp 8) (.tmp 10) rfl W1.heap.size (.slice a4 n1 c4) (intRows .i64 t.left) rfl Ho4.out a2 n2 c2 (intRows .i64 t.right) rfl Hr2.out ((Hs2.out.ext Hx0.out).ext Hx4.out) (intRows_row _ _) ?_ hs4 ?_)
  · rw [Hr1.out]
    have := Hn.out
    have := Hlen.out
    omega
  intro v5 w5 ho5 hg5 _
  have hx5 := Hx4.out.app Ho4.out hg5
  rw [← intRows_append] at ho5
  have hr5 : (intRows .i64 (t.left ++ t.right)).length = n1 + n2 := by rw [intRows_len, List.length_append, Hl1.out, Hl2.out]
  obtain ⟨a5, c5, e5, _, _, _, _⟩ := ho5.slAt
  rw [hr5] at e5
  subst e5
  clear y0
  have hp5 := hx5.heap Hp0.out
  obtain ⟨y0, _⟩ := (Ext.refl w5).box hp5
  have hp5l := heap_lt hp5
  have hs5 := hx5.size
  have Ho5 := Lib.hid ho5
  have Hx5 := Lib.hid hx5
  have Hp5 := Lib.hid hp5
  have Hr5 := Lib.hid hr5
  clear ho5 hx5 hp5 hr5
  clear hg5
  go_wp2_with (at_builtin; refine wpList_app elem34 _ rfl (.tmp 12) (.tmp 14) rfl W1.heap.size (.slice a5 (n1 + n2) c5) (intRows .i64 (t.left ++ t.right)) rfl Ho5.out a3 n3 c3 (intRows .i64 t.top) rfl Hr3.out ((Hs3.out.ext Hx0.out).ext Hx5.out) (intRows_row _ _) ?_ hs5 ?_)
  · rw [Hr5.out]
    have := Hn.out
    have := Hlen.out
    omega
  intro v6 w6 ho6 hg6 _
  have hx6 := Hx5.out.app Ho5.out hg6
  rw [← intRows_append] at ho6
  obtain ⟨a6, c6, e6, hf, hc1, hc2, hi⟩ := ints_of_owns ho6
  subst e6
  clear hg6 ho6
  have Hx6 := Lib.hid hx6
  have Hi := Lib.hid hi
  have Hf := Lib.hid hf
  have Hc1 := Lib.hid hc1
  have Hc2 := Lib.hid hc2
  clear hx6 hi hf hc1 hc2
  go_wp2_with fail
  go_ret
  exact ⟨a6, c6, rfl, Hx0.out.trans Hx6.out, Hi.out, Hc1.out, Hc2.out, fun x hx => Nat.le_trans Hx0.out.size (Hf.out x hx)⟩
theorem all_bad {l : List Pack} {k : Nat} {x : Pack} (h : l[k]? = some x) (hx : packOk x = false) : l.all packOk = false := by
  cases e : l.all packOk with
  | false => rfl
  | true => rw [List.all_eq_true.1 e x (List.mem_of_getElem? h)] at hx; cases hx
theorem all_good {l : List Pack} {n : Nat} (hl : l.length = n) (h : ∀ (j : Nat) (y : Pack), j < n → l[j]? = some y → packOk y = true) : l.all packOk = true := by
  rw [List.all_eq_true]
  intro y hy
  obtain ⟨j, hj⟩ := List.getElem?_of_mem hy
  exact h j y (by have := (List.getElem?_eq_some_iff.1 hj).1; omega) hj
set_option maxRecDepth 100000 in
set_option maxHeartbeats 4000000 in
theorem rpacks_any (a : Option Addr) (n cap : Nat) (l : List Pack) (w : World) (hl : PacksAt w a n l) (hn : n ≤ 1000000000) :
    Calls Tryz.prog 28 #[.slice a n cap] w fun e w' => e = .returned (.bool (decide (n ≤ 30) && l.all packOk)) ∧ Ext w w' := by
  have hll := hl.1
  have Hl := Lib.hid hl
  have Hll := Lib.hid hll
  clear hl hll
  by_cases h30 : 30 < n
  · have h30B : decide ((30 : Int) < (n : Int)) = true := by simp; omega
    go_enter Tryz.func28, Tryz.ntmps28
    go_wp2_with fail
    go_ret
    exact ⟨ret_bool (by simp; omega), Ext.refl _⟩
  · have h30B : decide ((30 : Int) < (n : Int)) = false := by simp; omega
    have h30' : n ≤ 30 := by omega
    rw [show decide (n ≤ 30) = true from decide_eq_true h30', Bool.true_and]
    go_enter Tryz.func28, Tryz.ntmps28
    go_upto_region 4 with fail
    go_loopw [3] (fun i wr => ∃ k : Nat, k ≤ n ∧ i = .int .i64 k ∧ Ext w wr ∧ ∀ (j : Nat) (y : Pack), j < k → l[j]? = some y → packOk y = true) (fun i _ => n - (intOf i).toNat)
    case atStart => exact ⟨0, Nat.zero_le _, rfl, Ext.refl _, fun j y h => by omega⟩
    case round =>
      obtain ⟨k, hk, rfl, hx, hall⟩ := hrel
      have Hall := Lib.hid hall
      clear hall
      by_cases hlt : k < n
      · have hltB : decide ((k : Int) < (n : Int)) = true := by simp; omega
        obtain ⟨b, off, x, rfl, hxk, hb, c0, c1, c2, c3, c4, c5, c6, c7, c8, c9, c10⟩ := (Hl.out.ext hx).get k hlt
        have hc := rpack_any x wr
        obtain ⟨P, hP⟩ : ∃ P, packOk x = P := ⟨_, rfl⟩
        rw [hP] at hc
        unfold Pack.val at hc
        have Hx := Lib.hid hx
        have Hc := Lib.hid hc
        have HP := Lib.hid hP
        have Hxk := Lib.hid hxk
        clear hx hc hP hxk
        cases P with
        | false =>
          go_wp2_with (go_at_call 61; refine Hc.out.mono ?_; rintro e w' ⟨rfl, hb⟩)
          go_ret
          exact ⟨ret_bool (all_bad Hxk.out HP.out).symm, Hx.out.trans (by assumption)⟩
        | true =>
          go_wp2_with (go_at_call 61; refine Hc.out.mono ?_; rintro e w' ⟨rfl, hb⟩)
          go_roundw
          case rel => exact ⟨k + 1, by omega, by go_num, Hx.out.trans (by assumption), fun j y hj hy => by
              rcases Nat.lt_or_ge j k with h | h
              · exact Hall.out j y h hy
              · have e : j = k := by omega
                subst e
                have := Hxk.out
                rw [hy] at this
                cases this
                exact HP.out⟩
          case measure => simp [intOf]; omega
      · have hltB : decide ((k : Int) < (n : Int)) = false := by simp; omega
        obtain rfl : n = k := by omega
        have hag := all_good Hll.out Hall.out
        have Hag := Lib.hid hag
        have Hx := Lib.hid hx
        clear hag hx
        go_wp2_with fail
        go_ret
        exact ⟨ret_bool Hag.out.symm, Hx.out⟩
end Go.Proofs.YtcoelhpmkhimpaaGreatDoor

namespace Go.Proofs.YtcoelhpmkhimpaaGreatDoor
open Go.RowKit
set_option linter.unusedVariables false
set_option linter.unusedSimpArgs false
/-- a block of truth values -/
def BoolBox (W : World) (b n : Nat) (f : Nat → Bool) : Prop := ∃ cur : Array Value, W.heap[b]? = some (.cells cur 4 (0, 0)) ∧ cur.size = n ∧ ∀ j, j < n → cur[j]? = some (.bool (f j))
theorem BoolBox.ext {W W' : World} {b n : Nat} {f : Nat → Bool} (h : BoolBox W b n f) (hx : Ext W W') : BoolBox W' b n f := let ⟨cur, h1, h2, h3⟩ := h; ⟨cur, hx.heap h1, h2, h3⟩
theorem BoolBox.keep {W W' : World} {b n : Nat} {f : Nat → Bool} (h : BoolBox W b n f) (hx : W'.heap[b]? = W.heap[b]?) : BoolBox W' b n f := let ⟨cur, h1, h2, h3⟩ := h; ⟨cur, hx.trans h1, h2, h3⟩
theorem BoolBox.get {W : World} {b n : Nat} {f : Nat → Bool} (h : BoolBox W b n f) (k : Nat) (hk : k < n) : W.cell? ⟨b, k, none⟩ = some (.bool (f k)) ∧ W.frozen? ⟨b, k, none⟩ = false := by
  obtain ⟨cur, h1, h2, h3⟩ := h
  exact ⟨(cell_of_row W b k _ 4 (0, 0) h1).trans (h3 k hk), ((Ext.refl W).box h1).2 k⟩
theorem BoolBox.set {W : World} {b n k : Nat} {f g : Nat → Bool} {v : Bool} (h : BoolBox W b n f) (h1 : k < n → g k = v) (h2 : ∀ j, j < n → j ≠ k → g j = f j) : BoolBox (W.setCell ⟨b, k, none⟩ (.bool v)) b n g := by
  obtain ⟨cur, hb, hc, hr⟩ := h
  refine ⟨cur.setIfInBounds k (.bool v), ?_, by simp [hc], fun i hi => ?_⟩
  · rw [heap_setCell_box, hb, Option.map_some, setIn_cells]
  · by_cases e : i = k
    · subst e
      simp [hc, hi, h1 hi]
    · rw [Array.getElem?_setIfInBounds_ne (fun h => e h.symm), hr i hi, h2 i hi e]
theorem BoolBox.congr {W : World} {b n : Nat} {f g : Nat → Bool} (h : BoolBox W b n f) (hg : ∀ j, j < n → g j = f j) : BoolBox W b n g := let ⟨cur, h1, h2, h3⟩ := h; ⟨cur, h1, h2, fun j hj => by rw [h3 j hj, hg j hj]⟩
theorem infoB4 : (Tryz.prog.info? 4).map (fun i => (i.zero, i.size, i.bytes)) = some (some (.bool false), 1, 1) := by kernel_rfl
theorem made_bools (m : Nat) : madeCells (Value.bool false).cells m = Array.replicate m (.bool false) := by
  apply Array.ext
  · simp [size_madeCells]
  · intro i h1 h2
    have h2' : i < m := by simpa using h2
    simp [madeCells, Value.cells, Nat.mod_one]
theorem mk117 (m : Nat) (hm : m ≤ 1000000) (w : World) : (Instr.makeSlice 117 (.int .i64 m) (.int .i64 m)).run Tryz.prog w = .ok (.slice (some ⟨w.heap.size, 0, none⟩) m m) (w.alloc (.cells (Array.replicate m (.bool false)) 4)) := by
  obtain ⟨i, h1, h2, h3, h4⟩ := info_parts infoB4
  have := run_makeSlice (P := Tryz.prog) w 117 4 i (.bool false) Tryz.underlying117 h1 h2 .i64 .i64 m m (by omega) (Int.le_refl _) (by rw [h3]; simp; omega) (by rw [h4]; omega) (by omega)
  rw [h3, Int.toNat_natCast, Nat.mul_one, made_bools] at this
  exact this

/-- in the midst of the packs of a load -/
structure TieSt (w V : World) (ub pn N : Nat) (va : Option Addr) (L : List Int) (k : Nat) (W : World) : Prop where
  ext : Ext w W
  ints : IntsAt .i64 W va N L
  used : BoolBox W ub pn (fun j => decide ((j : Int) ∈ L.take k))
  once : (L.take k).Nodup
theorem mem_take_succ {L : List Int} {k : Nat} {x y : Int} (h : L[k]? = some x) : (y ∈ L.take (k + 1)) ↔ (y ∈ L.take k ∨ y = x) := by
  rw [take_succ_of h]
  simp
theorem nodup_no {L : List Int} {k : Nat} {x : Int} (h : L[k]? = some x) (hx : x ∈ L.take k) : ¬L.Nodup := by
  intro hn
  have hp : L.take k ++ [x] <+: L := by
    rw [← take_succ_of h]
    exact List.take_prefix _ _
  exact not_of_prefix hn hp hx
theorem nodup_succ {L : List Int} {k : Nat} {x : Int} (h : L[k]? = some x) (hx : x ∉ L.take k) (hn : (L.take k).Nodup) : (L.take (k + 1)).Nodup := by
  rw [take_succ_of h, List.nodup_append]
  refine ⟨hn, by simp, ?_⟩
  intro a ha b hb
  simp only [List.mem_singleton] at hb
  subst hb
  intro e
  subst e
  exact hx ha
theorem TieSt.step {w V : World} {ub pn N : Nat} {va : Option Addr} {L : List Int} {k i : Nat} {W : World} (h : TieSt w V ub pn N va L k W) (hub : w.heap.size ≤ ub) (hva : ∀ x, va = some x → x.block ≠ ub) (hL : L[k]? = some (i : Int)) (hi : (i : Int) ∉ L.take k) :
    TieSt w V ub pn N va L (k + 1) (W.setCell ⟨ub, i, none⟩ (.bool true)) := by
  refine ⟨set1_ext h.ext hub _ _, ⟨h.ints.1, h.ints.2.same (fun y hy => Below.heap_setCell _ _ _ _ (by simpa using hva y hy))⟩, h.used.set (fun _ => ?_) (fun j _ hj => ?_), nodup_succ hL hi h.once⟩
  · exact decide_eq_true ((mem_take_succ hL).2 (.inr rfl))
  · have : ((j : Int) ∈ L.take (k + 1)) ↔ (j : Int) ∈ L.take k := by
      rw [mem_take_succ hL]
      constructor
      · rintro (h | h)
        · exact h
        · omega
      · exact .inl
    simp only [this]
set_option maxRecDepth 100000 in
set_option maxHeartbeats 8000000 in
theorem rties_any (a1 a2 a3 : Option Addr) (n1 n2 n3 c1 c2 c3 : Nat) (t : Tied) (tb pn : Nat) (w : World) (ht : TiedAt w a1 a2 a3 n1 n2 n3 c1 c2 c3 t) (hb : w.heap[tb]? = some (.cells #[.slice a1 n1 c1, .slice a2 n2 c2, .slice a3 n3 c3] 31 (0, 0))) (hpn : pn ≤ 30) (h1 : n1 ≤ 16) (h2 : n2 ≤ 16) (h3 : n3 ≤ 16) :
    Calls Tryz.prog 29 #[.int .i64 (pn : Int), .slice (some ⟨tb, 0, none⟩) 1 1] w fun e w' => e = .returned (.bool (tiesOk pn t)) ∧ Ext w w' := by
  have hmk := mk117 pn (by omega)
  have hr1 := fun W (hW : Ext w W) => rrising_any a1 n1 c1 t.left (pn : Int) W (ht.left.ext hW) (by omega) ⟨by omega, by omega⟩
  have hr2 := fun W (hW : Ext w W) => rrising_any a2 n2 c2 t.right (pn : Int) W (ht.right.ext hW) (by omega) ⟨by omega, by omega⟩
  have hr3 := fun W (hW : Ext w W) => rrising_any a3 n3 c3 t.top (pn : Int) W (ht.top.ext hW) (by omega) ⟨by omega, by omega⟩
  obtain ⟨P1, e1⟩ : ∃ P, riseB pn (-1) t.left = P := ⟨_, rfl⟩
  obtain ⟨P2, e2⟩ : ∃ P, riseB pn (-1) t.right = P := ⟨_, rfl⟩
  obtain ⟨P3, e3⟩ : ∃ P, riseB pn (-1) t.top = P := ⟨_, rfl⟩
  rw [e1] at hr1
  rw [e2] at hr2
  rw [e3] at hr3
  have hv : tiesOk pn t = (P1 && P2 && P3 && decide ((allOf t).length ≤ 10) && decide (allOf t).Nodup) := by
    unfold tiesOk
    rw [e1, e2, e3]
  have hlen := ht.len
  have htx := ht
  have hx0 := (Ext.refl w).alloc (.cells (Array.replicate pn (.bool false)) 4)
  have hu0 := heap_alloc_new w (.cells (Array.replicate pn (.bool false)) 4)
  have hb0 := hx0.heap hb
  have Hr1 := Lib.hid hr1
  have Hr2 := Lib.hid hr2
  have Hr3 := Lib.hid hr3
  have E1 := Lib.hid e1
  have E2 := Lib.hid e2
  have E3 := Lib.hid e3
  have Hv := Lib.hid hv
  have Hlen := Lib.hid hlen
  have Htx := Lib.hid htx
  have Hx0 := Lib.hid hx0
  have Hu0 := Lib.hid hu0
  have Hb0 := Lib.hid hb0
  clear hr1 hr2 hr3 e1 e2 e3 hv hlen htx hx0 hu0 hb0
  clear ht hb
  go_enter Tryz.func29, Tryz.ntmps29
  go_upto_region 5 with fail
  generalize w.alloc (.cells (Array.replicate pn (.bool false)) 4) = W0 at *
  obtain ⟨ub, hub⟩ : ∃ ub, w.heap.size = ub := ⟨_, rfl⟩
  rw [hub] at Hu0 ⊢
  have Hub := Lib.hid hub
  clear hub
  clear hmk
  go_loopw [6] (fun i wr => (i = .int .i64 0 ∧ wr = W0) ∨ (i = .int .i64 1 ∧ Ext w wr ∧ tiesOk pn t = true)) (fun i _ => 1 - (intOf i).toNat)
  case atStart => exact .inl ⟨rfl, rfl⟩
  case round =>
    rcases hrel with ⟨rfl, rfl⟩ | ⟨rfl, hxe, hok⟩
    · have hbw := Hb0.out
      obtain ⟨f0, _⟩ := (Ext.refl wr).box hbw
      have lb := heap_lt hbw
      have hx7 := Hx0.out.alloc (.cells #[.slice a1 n1 c1, .slice a2 n2 c2, .slice a3 n3 c3] 31)
      have hq7 := heap_alloc_new wr (.cells #[.slice a1 n1 c1, .slice a2 n2 c2, .slice a3 n3 c3] 31)
      have hu7 := alloc_heap Hu0.out (.cells #[.slice a1 n1 c1, .slice a2 n2 c2, .slice a3 n3 c3] 31)
      have Hbw := Lib.hid hbw
      clear hbw
      go_upto_region 8 with fail
      generalize wr.alloc (.cells #[.slice a1 n1 c1, .slice a2 n2 c2, .slice a3 n3 c3] 31) = W7 at *
      generalize wr.heap.size = q at *
      clear f0 lb
      obtain ⟨y0, _⟩ := (Ext.refl W7).box hq7
      have lq := heap_lt hq7
      cases P1 with
      | false =>
        go_wp2_with (go_at_call 62; refine (Hr1.out _ hx7).mono ?_; rintro e v1 ⟨rfl, hz1⟩)
        go_ret
        exact ⟨ret_bool (by rw [Hv.out]; simp), hx7.trans hz1⟩
      | true =>
        have Hq7 := Lib.hid hq7
        clear hq7
        cases P2 with
        | false =>
          go_wp2_with
            (go_at_call 62; first
              | (have qq := hz2; clear qq; refine (Hr3.out _ hy2).mono ?_; rintro e v3 ⟨rfl, hz3⟩; have hy3 := hy2.trans hz3)
              | (have qq := hz1; clear qq; refine (Hr2.out _ hy1).mono ?_; rintro e v2 ⟨rfl, hz2⟩; have hy2 := hy1.trans hz2; clear y0 lq; obtain ⟨y0, _⟩ := (Ext.refl v2).box (hz2.heap (hz1.heap Hq7.out)); have lq := heap_lt (hz2.heap (hz1.heap Hq7.out)))
              | (refine (Hr1.out _ hx7).mono ?_; rintro e v1 ⟨rfl, hz1⟩; have hy1 := hx7.trans hz1; clear y0 lq; obtain ⟨y0, _⟩ := (Ext.refl v1).box (hz1.heap Hq7.out); have lq := heap_lt (hz1.heap Hq7.out)))
          go_ret
          exact ⟨ret_bool (by rw [Hv.out]; simp), hy2⟩
        | true =>
          cases P3 with
          | false =>
            go_wp2_with
              (go_at_call 62; first
                | (have qq := hz2; clear qq; refine (Hr3.out _ hy2).mono ?_; rintro e v3 ⟨rfl, hz3⟩; have hy3 := hy2.trans hz3)
                | (have qq := hz1; clear qq; refine (Hr2.out _ hy1).mono ?_; rintro e v2 ⟨rfl, hz2⟩; have hy2 := hy1.trans hz2; clear y0 lq; obtain ⟨y0, _⟩ := (Ext.refl v2).box (hz2.heap (hz1.heap Hq7.out)); have lq := heap_lt (hz2.heap (hz1.heap Hq7.out)))
                | (refine (Hr1.out _ hx7).mono ?_; rintro e v1 ⟨rfl, hz1⟩; have hy1 := hx7.trans hz1; clear y0 lq; obtain ⟨y0, _⟩ := (Ext.refl v1).box (hz1.heap Hq7.out); have lq := heap_lt (hz1.heap Hq7.out)))
            go_ret
            exact ⟨ret_bool (by rw [Hv.out]; simp), hy3⟩
          | true =>
            have hrg : ∀ i ∈ allOf t, 0 ≤ i ∧ i < (pn : Int) := fun i hi => by
              unfold allOf at hi
              rcases List.mem_append.1 hi with hi | hi
              · rcases List.mem_append.1 hi with hi | hi
                · have := riseB_range E1.out i hi; omega
                · have := riseB_range E2.out i hi; omega
              · have := riseB_range E3.out i hi; omega
            obtain ⟨N, hN⟩ : ∃ N, (allOf t).length = N := ⟨_, rfl⟩
            have hN100 : N ≤ 100 := by have := Hlen.out; omega
            go_upto_region 10 with
              (go_at_call 62; first
                | (have qq := hz2; clear qq; refine (Hr3.out _ hy2).mono ?_; rintro e v3 ⟨rfl, hz3⟩; have hy3 := hy2.trans hz3)
                | (have qq := hz1; clear qq; refine (Hr2.out _ hy1).mono ?_; rintro e v2 ⟨rfl, hz2⟩; have hy2 := hy1.trans hz2; clear y0 lq; obtain ⟨y0, _⟩ := (Ext.refl v2).box (hz2.heap (hz1.heap Hq7.out)); have lq := heap_lt (hz2.heap (hz1.heap Hq7.out)))
                | (refine (Hr1.out _ hx7).mono ?_; rintro e v1 ⟨rfl, hz1⟩; have hy1 := hx7.trans hz1; clear y0 lq; obtain ⟨y0, _⟩ := (Ext.refl v1).box (hz1.heap Hq7.out); have lq := heap_lt (hz1.heap Hq7.out)))
            have hq8 := hz3.heap (hz2.heap (hz1.heap Hq7.out))
            have hu8 := hz3.heap (hz2.heap (hz1.heap hu7))
            clear y0 lq hz1 hz2 hz3 hy1 hy2 hx7 hu7
            obtain ⟨y0, _⟩ := (Ext.refl v3).box hq8
            have lq := heap_lt hq8
            have lu := heap_lt hu8
            have hli : Calls Tryz.prog 63 #[.agg #[.slice a1 n1 c1, .slice a2 n2 c2, .slice a3 n3 c3]] v3 fun e w' => ∃ a c, e = .returned (.slice a N c) ∧ Ext v3 w' ∧ IntsAt .i64 w' a N (allOf t) ∧ From v3.heap.size a := by
              have := rlist_any a1 a2 a3 n1 n2 n3 c1 c2 c3 t v3 (Htx.out.ext hy3) (by omega)
              unfold ConcatPost at this
              rw [hN] at this
              exact this.mono fun e w' ⟨a, c, h1, h2, h3, _, _, h4⟩ => ⟨a, c, h1, h2, h3, h4⟩
            have Hli := Lib.hid hli
            have Hrg := Lib.hid hrg
            have Hy3 := Lib.hid hy3
            have Hu8 := Lib.hid hu8
            have HN := Lib.hid hN
            clear hli hrg hy3 hu8 hN
            clear hq8
            have Hlu := Lib.hid lu
            clear lu
            go_upto_region 11 with (go_at_call 63; refine Hli.out.mono ?_; rintro e V4 ⟨va, vc, rfl, hz4, hi4, hf4⟩)
            by_cases h10 : 10 < N
            · have h10I : decide ((10 : Int) < (N : Int)) = true := decide_eq_true (by omega)
              have h10N : decide (10 < N) = true := decide_eq_true h10
              have hno : decide ((allOf t).length ≤ 10) = false := decide_eq_false (by have := HN.out; omega)
              have Hno := Lib.hid hno
              clear hno
              clear hi4 hf4
              go_wp2_with fail
              go_ret
              exact ⟨ret_bool (by rw [Hv.out, Hno.out]; simp), Hy3.out.trans hz4⟩
            · have h10I : decide ((10 : Int) < (N : Int)) = false := decide_eq_false (by omega)
              have h10N : decide (10 < N) = false := decide_eq_false h10
              have hyes : decide ((allOf t).length ≤ 10) = true := decide_eq_true (by have := HN.out; omega)
              have hva : ∀ x, va = some x → x.block ≠ ub := fun x hx => by have := hf4 x hx; have := Hlu.out; omega
              have hS0 : TieSt w V4 ub pn N va (allOf t) 0 V4 := by
                refine ⟨Hy3.out.trans hz4, hi4, ⟨_, hz4.heap Hu8.out, by simp, fun j hj => by simp [hj]⟩, by simp⟩
              have Hyes := Lib.hid hyes
              have Hva := Lib.hid hva
              have HS0 := Lib.hid hS0
              clear hyes hva hS0
              clear hi4 hf4 hz4 h10
              go_upto_region 14 with fail
              go_loopw [9] (fun i v => ∃ k : Nat, k ≤ N ∧ i = .int .i64 k ∧ TieSt w V4 ub pn N va (allOf t) k v) (fun i _ => N - (intOf i).toNat)
              case atStart => exact ⟨0, Nat.zero_le _, rfl, HS0.out⟩
              case round =>
                clear HS0 y0 lq
                obtain ⟨k, hk, rfl, hS⟩ := hrel
                by_cases hlt : k < N
                · have hltB : decide ((k : Int) < (N : Int)) = true := by simp; omega
                  obtain ⟨lb, lo, x, rfl, hxk, hlb, d0⟩ := hS.ints.get k hlt
                  obtain ⟨hx1, hx2⟩ := Hrg.out x (List.mem_of_getElem? hxk)
                  obtain ⟨i, rfl⟩ : ∃ i : Nat, x = (i : Int) := ⟨x.toNat, by omega⟩
                  have hip : i < pn := by omega
                  obtain ⟨d1, d2⟩ := hS.used.get i hip
                  have hul : ub < wr.heap.size := by obtain ⟨_, h, _⟩ := hS.used; exact heap_lt h
                  by_cases hin : (i : Int) ∈ (allOf t).take k
                  · rw [decide_eq_true hin] at d1
                    have hnd : decide (allOf t).Nodup = false := decide_eq_false (nodup_no hxk hin)
                    have hex := hS.ext
                    have Hnd := Lib.hid hnd
                    have Hex := Lib.hid hex
                    clear hnd hex
                    clear hS hxk hin
                    go_wp2_with fail
                    go_ret
                    exact ⟨ret_bool (by rw [Hv.out, Hnd.out]; simp), Hex.out⟩
                  · rw [decide_eq_false hin] at d1
                    have hS' := hS.step (by have := Hub.out; omega) Hva.out hxk hin
                    have HS' := Lib.hid hS'
                    clear hS'
                    clear hS hxk hin
                    go_wp2_with fail
                    go_roundw
                    case rel => exact ⟨k + 1, by omega, by go_num, HS'.out⟩
                    case measure => simp [intOf]; omega
                · have hltB : decide ((k : Int) < (N : Int)) = false := by simp; omega
                  have hkN : k = N := by omega
                  have hon := hS.once
                  rw [List.take_of_length_le (by rw [HN.out]; omega)] at hon
                  have hex := hS.ext
                  have hnd : decide (allOf t).Nodup = true := decide_eq_true hon
                  have Hnd := Lib.hid hnd
                  have Hex := Lib.hid hex
                  clear hnd hex
                  clear hS hon hkN
                  go_wp2_with fail
                  go_roundw
                  case rel => exact .inr ⟨by go_num, Hex.out, by rw [Hv.out, Hyes.out, Hnd.out]; rfl⟩
                  case measure => simp [intOf]
    · have Hxe := Lib.hid hxe
      have Hok := Lib.hid hok
      clear hxe hok
      go_wp2_with fail
      go_ret
      exact ⟨ret_bool Hok.out.symm, Hxe.out⟩
end Go.Proofs.YtcoelhpmkhimpaaGreatDoor

namespace Go.Proofs.YtcoelhpmkhimpaaGreatDoor
open Go.RowKit
set_option linter.unusedVariables false
set_option linter.unusedSimpArgs false
def packsB (pn : Nat) (l : List Pack) : Bool := decide (pn ≤ 30) && l.all packOk
def check5 (pn : Nat) (l : List Pack) (t : Tied) : Int := if packsB pn l = true then (if tiesOk pn t = true then 0 else 51) else 50
theorem rcheck5_any (pa : Option Addr) (pn pc : Nat) (l : List Pack) (a1 a2 a3 : Option Addr) (n1 n2 n3 c1 c2 c3 : Nat) (t : Tied) (tb : Nat) (w : World) (hp : PacksAt w pa pn l) (hpn : pn ≤ 1000000000) (ht : TiedAt w a1 a2 a3 n1 n2 n3 c1 c2 c3 t) (hb : w.heap[tb]? = some (.cells #[.slice a1 n1 c1, .slice a2 n2 c2, .slice a3 n3 c3] 31 (0, 0))) (h1 : n1 ≤ 16) (h2 : n2 ≤ 16) (h3 : n3 ≤ 16) :
    Calls Tryz.prog 7 #[.slice pa pn pc, .slice (some ⟨tb, 0, none⟩) 1 1] w fun e w' => e = .returned (.int .i64 (check5 pn l t)) ∧ Ext w w' := by
  have hpk := rpacks_any pa pn pc l w hp hpn
  have hv : check5 pn l t = if packsB pn l = true then (if tiesOk pn t = true then 0 else 51) else 50 := rfl
  rw [hv]
  rw [show (decide (pn ≤ 30) && l.all packOk) = packsB pn l from rfl] at hpk
  cases hP : packsB pn l with
  | false =>
    rw [hP] at hpk
    have Hpk := Lib.hid hpk
    clear hpk
    clear hv hP hp ht hb
    go_enter Tryz.func7, Tryz.ntmps7
    go_wp2_with (go_at_call 28; refine Hpk.out.mono ?_; rintro e v1 ⟨rfl, hx1⟩)
    go_ret
    exact ⟨rfl, hx1⟩
  | true =>
    have h30 : pn ≤ 30 := by
      unfold packsB at hP
      simp only [Bool.and_eq_true, decide_eq_true_eq] at hP
      exact hP.1
    rw [hP] at hpk
    have hti := fun W (hW : Ext w W) => rties_any a1 a2 a3 n1 n2 n3 c1 c2 c3 t tb pn W (ht.ext hW) (hW.heap hb) h30 h1 h2 h3
    cases hT : tiesOk pn t with
    | false =>
      rw [hT] at hti
      have Hpk := Lib.hid hpk
      have Hti := Lib.hid hti
      clear hpk hti
      clear hv hP hp ht hb hT
      go_enter Tryz.func7, Tryz.ntmps7
      go_wp2_with (first
        | (go_at_call 28; refine Hpk.out.mono ?_; rintro e v1 ⟨rfl, hx1⟩)
        | (go_at_call 29; refine (Hti.out _ hx1).mono ?_; rintro e v2 ⟨rfl, hx2⟩))
      go_ret
      exact ⟨rfl, hx1.trans hx2⟩
    | true =>
      rw [hT] at hti
      have Hpk := Lib.hid hpk
      have Hti := Lib.hid hti
      clear hpk hti
      clear hv hP hp ht hb hT
      go_enter Tryz.func7, Tryz.ntmps7
      go_wp2_with (first
        | (go_at_call 28; refine Hpk.out.mono ?_; rintro e v1 ⟨rfl, hx1⟩)
        | (go_at_call 29; refine (Hti.out _ hx1).mono ?_; rintro e v2 ⟨rfl, hx2⟩))
      go_ret
      exact ⟨rfl, hx1.trans hx2⟩
set_option maxHeartbeats 4000000 in
theorem rgreat5_any (pa : Option Addr) (pn pc : Nat) (a1 a2 a3 : Option Addr) (n1 n2 n3 c1 c2 c3 : Nat) (tb : Nat) (w : World) (hb : w.heap[tb]? = some (.cells #[.slice a1 n1 c1, .slice a2 n2 c2, .slice a3 n3 c3] 31 (0, 0))) :
    Calls Tryz.prog 15 #[.slice pa pn pc, .slice (some ⟨tb, 0, none⟩) 1 1] w fun e w' => e = .returned (.bool (decide (40 < pn) || decide (16 < n1) || decide (16 < n2) || decide (16 < n3))) ∧ Ext w w' := by
  by_cases q0 : 40 < pn
  · have i0 : decide ((40 : Int) < (pn : Int)) = true := decide_eq_true (by omega)
    have j0 : decide (40 < pn) = true := decide_eq_true q0
    rw [j0, Bool.true_or, Bool.true_or, Bool.true_or]
    clear q0
    go_enter Tryz.func15, Tryz.ntmps15
    go_wp2_with fail
    go_ret
    exact ⟨rfl, Ext.refl _⟩
  · have i0 : decide ((40 : Int) < (pn : Int)) = false := decide_eq_false (by omega)
    have j0 : decide (40 < pn) = false := decide_eq_false q0
    rw [j0, Bool.false_or]
    clear q0
    obtain ⟨B1, e1⟩ : ∃ B, decide (16 < n1) = B := ⟨_, rfl⟩
    obtain ⟨B2, e2⟩ : ∃ B, decide (16 < n2) = B := ⟨_, rfl⟩
    obtain ⟨B3, e3⟩ : ∃ B, decide (16 < n3) = B := ⟨_, rfl⟩
    have k1 : decide ((16 : Int) < (n1 : Int)) = B1 := by rw [← e1]; exact decide_eq_decide.2 (by omega)
    have k2 : decide ((16 : Int) < (n2 : Int)) = B2 := by rw [← e2]; exact decide_eq_decide.2 (by omega)
    have k3 : decide ((16 : Int) < (n3 : Int)) = B3 := by rw [← e3]; exact decide_eq_decide.2 (by omega)
    rw [e1, e2, e3]
    obtain ⟨G, hG⟩ : ∃ G, (B1 || B2 || B3) = G := ⟨_, rfl⟩
    rw [hG]
    cases B1 with
    | true =>
      obtain rfl : G = true := by rw [← hG]; rfl
      clear hG
      obtain ⟨f0, _⟩ := (Ext.refl w).box hb
      have lb := heap_lt hb
      go_enter Tryz.func15, Tryz.ntmps15
      go_upto_region 4 with fail
      go_loopw [5] (fun i wr => (i = .int .i64 0 ∨ i = .int .i64 1 ∧ true = false) ∧ wr = w) (fun i _ => 1 - (intOf i).toNat)
      case atStart => exact ⟨.inl rfl, rfl⟩
      case round =>
        obtain ⟨hi, rfl⟩ := hrel
        rcases hi with rfl | ⟨rfl, hg⟩
        · go_wp2_with fail
          go_ret
          exact ⟨rfl, Ext.refl _⟩
        · go_wp2_with fail
          go_ret
          first | (cases hg; done) | exact ⟨rfl, Ext.refl _⟩
    | false =>
      cases B2 with
      | true =>
        obtain rfl : G = true := by rw [← hG]; rfl
        clear hG
        obtain ⟨f0, _⟩ := (Ext.refl w).box hb
        have lb := heap_lt hb
        go_enter Tryz.func15, Tryz.ntmps15
        go_upto_region 4 with fail
        go_loopw [5] (fun i wr => (i = .int .i64 0 ∨ i = .int .i64 1 ∧ true = false) ∧ wr = w) (fun i _ => 1 - (intOf i).toNat)
        case atStart => exact ⟨.inl rfl, rfl⟩
        case round =>
          obtain ⟨hi, rfl⟩ := hrel
          rcases hi with rfl | ⟨rfl, hg⟩
          · go_wp2_with fail
            go_ret
            exact ⟨rfl, Ext.refl _⟩
          · go_wp2_with fail
            go_ret
            first | (cases hg; done) | exact ⟨rfl, Ext.refl _⟩
      | false =>
        cases B3 with
        | true =>
          obtain rfl : G = true := by rw [← hG]; rfl
          clear hG
          obtain ⟨f0, _⟩ := (Ext.refl w).box hb
          have lb := heap_lt hb
          go_enter Tryz.func15, Tryz.ntmps15
          go_upto_region 4 with fail
          go_loopw [5] (fun i wr => (i = .int .i64 0 ∨ i = .int .i64 1 ∧ true = false) ∧ wr = w) (fun i _ => 1 - (intOf i).toNat)
          case atStart => exact ⟨.inl rfl, rfl⟩
          case round =>
            obtain ⟨hi, rfl⟩ := hrel
            rcases hi with rfl | ⟨rfl, hg⟩
            · go_wp2_with fail
              go_ret
              exact ⟨rfl, Ext.refl _⟩
            · go_wp2_with fail
              go_ret
              first | (cases hg; done) | exact ⟨rfl, Ext.refl _⟩
        | false =>
          obtain rfl : G = false := by rw [← hG]; rfl
          clear hG
          obtain ⟨f0, _⟩ := (Ext.refl w).box hb
          have lb := heap_lt hb
          go_enter Tryz.func15, Tryz.ntmps15
          go_upto_region 4 with fail
          go_loopw [5] (fun i wr => (i = .int .i64 0 ∨ i = .int .i64 1 ∧ false = false) ∧ wr = w) (fun i _ => 1 - (intOf i).toNat)
          case atStart => exact ⟨.inl rfl, rfl⟩
          case round =>
            obtain ⟨hi, rfl⟩ := hrel
            rcases hi with rfl | ⟨rfl, hg⟩
            · go_wp2_with fail
              go_roundw
              case rel => exact ⟨.inr ⟨by go_num, by simp⟩, by simp⟩
              case measure => simp [intOf]
            · go_wp2_with fail
              go_ret
              first | (cases hg; done) | exact ⟨rfl, Ext.refl _⟩
theorem wpList_unguard {P : Program} {ops : Array Oper} {Q : Exit → Act → World → Prop} {o : Oper} {rest : List Oper} {a : Act} {w : World} (hw : Region.wanted o (yielded ops a.tmps) = true) (h : wpList P ops Q ({ o with guard := none } :: rest) a w) : wpList P ops Q (o :: rest) a w := by
  unfold wpList at h ⊢
  rw [if_pos hw]
  rw [if_pos (show Region.wanted { o with guard := none } (yielded ops a.tmps) = true from rfl)] at h
  exact h
/-- what a valid load is -/
def Carried (s : Breed) (c : Camel) (pn : Nat) (l : List Pack) (t : Tied) (bound : Int) : Prop := pn ≤ 30 ∧ l.all packOk = true ∧ TiesIs pn t ∧ camelErr s c = 0 ∧ 0 ≤ bound ∧ bound ≤ 1000000000
def CarriedPost (C : Prop) (w : World) (e : Ending) (w' : World) : Prop := ∃ R : Bool, e = .returned (.bool R) ∧ Ext w w' ∧ (R = true → C)
theorem check5_ok {pn : Nat} {l : List Pack} {t : Tied} (h : check5 pn l t = 0) : pn ≤ 30 ∧ l.all packOk = true ∧ TiesIs pn t := by
  unfold check5 at h
  split at h
  · rename_i h1
    split at h
    · rename_i h2
      unfold packsB at h1
      simp only [Bool.and_eq_true, decide_eq_true_eq] at h1
      exact ⟨h1.1, h1.2, tiesIs h2⟩
    · cases h
  · cases h
set_option maxRecDepth 100000 in
set_option maxHeartbeats 8000000 in
theorem carriedd_any (s : Breed) (c : Camel) (pa : Option Addr) (pn pc : Nat) (l : List Pack) (a1 a2 a3 : Option Addr) (n1 n2 n3 c1 c2 c3 : Nat) (t : Tied) (bound : Int) (w : World) (hp : PacksAt w pa pn l) (ht : TiedAt w a1 a2 a3 n1 n2 n3 c1 c2 c3 t) :
    Calls Tryz.prog 5 #[s.val, c.val, .slice pa pn pc, .agg #[.slice a1 n1 c1, .slice a2 n2 c2, .slice a3 n3 c3], .int .i64 bound] w (CarriedPost (Carried s c pn l t bound) w) := by
  have hca := fun W => rcheckCamel_any s c W
  unfold Carried
  have hck5 : check5 pn l t = 0 → pn ≤ 30 ∧ l.all packOk = true ∧ TiesIs pn t := check5_ok
  have hck := fun (W : World) (tb : Nat) (hW : Ext w W) (hb : W.heap[tb]? = some (.cells #[.slice a1 n1 c1, .slice a2 n2 c2, .slice a3 n3 c3] 31 (0, 0))) (hpn : pn ≤ 1000000000) (h1 : n1 ≤ 16) (h2 : n2 ≤ 16) (h3 : n3 ≤ 16) => rcheck5_any pa pn pc l a1 a2 a3 n1 n2 n3 c1 c2 c3 t tb W (hp.ext hW) hpn (ht.ext hW) hb h1 h2 h3
  generalize check5 pn l t = E at *
  generalize camelErr s c = K at *
  clear hp ht
  obtain ⟨fu, fe, ⟨r0, r1⟩, ⟨h0, h1⟩, ⟨t0, t1⟩, ⟨b0, b1⟩, ⟨u0, u1⟩, ⟨m0, m1⟩, hl, ⟨s0, s1⟩⟩ := s
  obtain ⟨⟨w0, w1⟩, ⟨e0, e1⟩, ⟨o0, o1⟩, mk⟩ := c
  unfold Breed.val Camel.val at hca
  unfold Breed.val Camel.val
  simp only at *
  obtain ⟨W0, hW0⟩ : ∃ W0, ((w.alloc (.cells #[.int .i64 fu, .int .i64 fe, .int .i64 r0, .int .i64 r1, .int .i64 h0, .int .i64 h1, .int .i64 t0, .int .i64 t1, .int .i64 b0, .int .i64 b1, .int .i64 u0, .int .i64 u1, .int .i64 m0, .int .i64 m1, .int .i64 hl, .int .i64 s0, .int .i64 s1] 25)).alloc (.cells #[.int .i64 w0, .int .i64 w1, .int .i64 e0, .int .i64 e1, .int .i64 o0, .int .i64 o1, .bool mk] 27)).alloc (.cells #[.slice a1 n1 c1, .slice a2 n2 c2, .slice a3 n3 c3] 31) = W0 := ⟨_, rfl⟩
  have hx0 : Ext w W0 := by rw [← hW0]; exact (((Ext.refl w).alloc _).alloc _).alloc _
  have hb0 : W0.heap[w.heap.size]? = some (.cells #[.int .i64 fu, .int .i64 fe, .int .i64 r0, .int .i64 r1, .int .i64 h0, .int .i64 h1, .int .i64 t0, .int .i64 t1, .int .i64 b0, .int .i64 b1, .int .i64 u0, .int .i64 u1, .int .i64 m0, .int .i64 m1, .int .i64 hl, .int .i64 s0, .int .i64 s1] 25 (0, 0)) := by rw [← hW0]; exact alloc_heap (alloc_heap (heap_alloc_new w _) _) _
  have hc0 : W0.heap[w.heap.size + 1]? = some (.cells #[.int .i64 w0, .int .i64 w1, .int .i64 e0, .int .i64 e1, .int .i64 o0, .int .i64 o1, .bool mk] 27 (0, 0)) := by rw [← hW0]; exact alloc_heap (alloc_at _ _ _ (by simp)) _
  have ht0 : W0.heap[w.heap.size + 1 + 1]? = some (.cells #[.slice a1 n1 c1, .slice a2 n2 c2, .slice a3 n3 c3] 31 (0, 0)) := by rw [← hW0]; exact alloc_at _ _ _ (by simp)
  obtain ⟨y0, _⟩ := (Ext.refl W0).box ht0
  have lt := heap_lt ht0
  obtain ⟨G, hG⟩ : ∃ G, (decide (40 < pn) || decide (16 < n1) || decide (16 < n2) || decide (16 < n3)) = G := ⟨_, rfl⟩
  cases G with
  | true =>
    have HG := Lib.hid hG
    have Hx0 := Lib.hid hx0
    have Hb0 := Lib.hid hb0
    have Hc0 := Lib.hid hc0
    have Ht0 := Lib.hid ht0
    have Hca := Lib.hid hca
    clear hG hx0 hb0 hc0 ht0 hca
    clear hck hck5
    go_enter Tryz.func5, Tryz.ntmps5
    go_upto_region 1 with fail
    clear hW0
    go_wp2_with (go_at_call 15; refine (rgreat5_any pa pn pc a1 a2 a3 n1 n2 n3 c1 c2 c3 _ _ (alloc_at _ _ _ rfl)).mono ?_; rw [HG.out]; rintro e v1 ⟨rfl, hx1⟩)
    go_ret
    exact ⟨false, rfl, Hx0.out.trans (((Ext.refl W0).alloc _).trans hx1), fun h => by cases h⟩
  | false =>
    have hg := hG
    simp only [Bool.or_eq_false_iff, decide_eq_false_iff_not] at hg
    obtain ⟨⟨⟨hg0, hg1⟩, hg2⟩, hg3⟩ := hg
    have hck := fun W tb hW hb => hck W tb (hx0.trans hW) hb (by omega) (by omega) (by omega) (by omega)
    clear hg0 hg1 hg2 hg3
    have HG := Lib.hid hG
    have Hx0 := Lib.hid hx0
    have Hb0 := Lib.hid hb0
    have Hc0 := Lib.hid hc0
    have Ht0 := Lib.hid ht0
    have Hca := Lib.hid hca
    have Hck := Lib.hid hck
    have Hck5 := Lib.hid hck5
    clear hG hx0 hb0 hc0 ht0 hca hck hck5
    by_cases hE : E = 0
    · subst hE
      by_cases hK : K = 0
      · subst hK
        by_cases q1 : 0 ≤ bound
        · have q1B : decide (0 ≤ bound) = true := decide_eq_true q1
          by_cases q2 : bound ≤ 1000000000
          · have q2B : decide (bound ≤ 1000000000) = true := decide_eq_true q2
            go_enter Tryz.func5, Tryz.ntmps5
            go_upto_region 1 with fail
            clear hW0
            go_wp2_with
              (first
                | (refine wpList_unguard (by rfl) ?_; refine wpList_load_row rfl 25 (.tmp 5) rfl w.heap.size rfl 25 _ (0, 0) _ (hy2.heap Hb0.out) Tryz.underlying25 rfl (by kernel_rfl) ?_)
                | (refine wpList_unguard (by rfl) ?_; refine wpList_load_row rfl 27 (.tmp 6) rfl (w.heap.size + 1) rfl 27 _ (0, 0) _ (hy2.heap Hc0.out) Tryz.underlying27 rfl (by kernel_rfl) ?_)
                | (go_at_call 15; refine (rgreat5_any pa pn pc a1 a2 a3 n1 n2 n3 c1 c2 c3 _ _ (alloc_at _ _ _ rfl)).mono ?_; rw [HG.out]; rintro e v1 ⟨rfl, hx1⟩; have hy1 := ((Ext.refl W0).alloc _).trans hx1; clear y0 lt; obtain ⟨y0, _⟩ := (Ext.refl v1).box (hy1.heap Ht0.out); have lt := heap_lt (hy1.heap Ht0.out))
                | (go_at_call 7; refine (Hck.out _ _ (hy1.alloc _) (alloc_at _ _ _ rfl)).mono ?_; rintro e v2 ⟨rfl, hx2⟩; have hy2 := (hy1.alloc _).trans hx2)
                | (go_at_call 16; refine (Hca.out _).mono ?_; rintro e v3 ⟨rfl, hx3⟩; have hy3 := hy2.trans hx3))
            go_ret
            obtain ⟨x1, x2, x3⟩ := Hck5.out (by first | rfl | trivial)
            exact ⟨true, rfl, Hx0.out.trans hy3, fun _ => ⟨x1, x2, x3, by first | rfl | trivial, q1, q2⟩⟩
          · have q2B : decide (bound ≤ 1000000000) = false := decide_eq_false q2
            go_enter Tryz.func5, Tryz.ntmps5
            go_upto_region 1 with fail
            clear hW0
            go_wp2_with
              (first
                | (refine wpList_unguard (by rfl) ?_; refine wpList_load_row rfl 25 (.tmp 5) rfl w.heap.size rfl 25 _ (0, 0) _ (hy2.heap Hb0.out) Tryz.underlying25 rfl (by kernel_rfl) ?_)
                | (refine wpList_unguard (by rfl) ?_; refine wpList_load_row rfl 27 (.tmp 6) rfl (w.heap.size + 1) rfl 27 _ (0, 0) _ (hy2.heap Hc0.out) Tryz.underlying27 rfl (by kernel_rfl) ?_)
                | (go_at_call 15; refine (rgreat5_any pa pn pc a1 a2 a3 n1 n2 n3 c1 c2 c3 _ _ (alloc_at _ _ _ rfl)).mono ?_; rw [HG.out]; rintro e v1 ⟨rfl, hx1⟩; have hy1 := ((Ext.refl W0).alloc _).trans hx1; clear y0 lt; obtain ⟨y0, _⟩ := (Ext.refl v1).box (hy1.heap Ht0.out); have lt := heap_lt (hy1.heap Ht0.out))
                | (go_at_call 7; refine (Hck.out _ _ (hy1.alloc _) (alloc_at _ _ _ rfl)).mono ?_; rintro e v2 ⟨rfl, hx2⟩; have hy2 := (hy1.alloc _).trans hx2)
                | (go_at_call 16; refine (Hca.out _).mono ?_; rintro e v3 ⟨rfl, hx3⟩; have hy3 := hy2.trans hx3))
            go_ret
            exact ⟨false, rfl, Hx0.out.trans hy3, fun h => by cases h⟩
        · have q1B : decide (0 ≤ bound) = false := decide_eq_false q1
          go_enter Tryz.func5, Tryz.ntmps5
          go_upto_region 1 with fail
          clear hW0
          go_wp2_with
            (first
              | (refine wpList_unguard (by rfl) ?_; refine wpList_load_row rfl 25 (.tmp 5) rfl w.heap.size rfl 25 _ (0, 0) _ (hy2.heap Hb0.out) Tryz.underlying25 rfl (by kernel_rfl) ?_)
              | (refine wpList_unguard (by rfl) ?_; refine wpList_load_row rfl 27 (.tmp 6) rfl (w.heap.size + 1) rfl 27 _ (0, 0) _ (hy2.heap Hc0.out) Tryz.underlying27 rfl (by kernel_rfl) ?_)
              | (go_at_call 15; refine (rgreat5_any pa pn pc a1 a2 a3 n1 n2 n3 c1 c2 c3 _ _ (alloc_at _ _ _ rfl)).mono ?_; rw [HG.out]; rintro e v1 ⟨rfl, hx1⟩; have hy1 := ((Ext.refl W0).alloc _).trans hx1; clear y0 lt; obtain ⟨y0, _⟩ := (Ext.refl v1).box (hy1.heap Ht0.out); have lt := heap_lt (hy1.heap Ht0.out))
              | (go_at_call 7; refine (Hck.out _ _ (hy1.alloc _) (alloc_at _ _ _ rfl)).mono ?_; rintro e v2 ⟨rfl, hx2⟩; have hy2 := (hy1.alloc _).trans hx2)
              | (go_at_call 16; refine (Hca.out _).mono ?_; rintro e v3 ⟨rfl, hx3⟩; have hy3 := hy2.trans hx3))
          go_ret
          exact ⟨false, rfl, Hx0.out.trans hy3, fun h => by cases h⟩
      · have hKB : (K == 0) = false := by simp [hK]
        go_enter Tryz.func5, Tryz.ntmps5
        go_upto_region 1 with fail
        clear hW0
        go_wp2_with
          (first
            | (refine wpList_unguard (by rfl) ?_; refine wpList_load_row rfl 25 (.tmp 5) rfl w.heap.size rfl 25 _ (0, 0) _ (hy2.heap Hb0.out) Tryz.underlying25 rfl (by kernel_rfl) ?_)
            | (refine wpList_unguard (by rfl) ?_; refine wpList_load_row rfl 27 (.tmp 6) rfl (w.heap.size + 1) rfl 27 _ (0, 0) _ (hy2.heap Hc0.out) Tryz.underlying27 rfl (by kernel_rfl) ?_)
            | (go_at_call 15; refine (rgreat5_any pa pn pc a1 a2 a3 n1 n2 n3 c1 c2 c3 _ _ (alloc_at _ _ _ rfl)).mono ?_; rw [HG.out]; rintro e v1 ⟨rfl, hx1⟩; have hy1 := ((Ext.refl W0).alloc _).trans hx1; clear y0 lt; obtain ⟨y0, _⟩ := (Ext.refl v1).box (hy1.heap Ht0.out); have lt := heap_lt (hy1.heap Ht0.out))
            | (go_at_call 7; refine (Hck.out _ _ (hy1.alloc _) (alloc_at _ _ _ rfl)).mono ?_; rintro e v2 ⟨rfl, hx2⟩; have hy2 := (hy1.alloc _).trans hx2)
            | (go_at_call 16; refine (Hca.out _).mono ?_; rintro e v3 ⟨rfl, hx3⟩; have hy3 := hy2.trans hx3))
        go_ret
        exact ⟨false, rfl, Hx0.out.trans hy3, fun h => by cases h⟩
    · have hEB : (E == 0) = false := by simp [hE]
      go_enter Tryz.func5, Tryz.ntmps5
      go_upto_region 1 with fail
      clear hW0
      go_wp2_with
        (first
          | (refine wpList_unguard (by rfl) ?_; refine wpList_load_row rfl 25 (.tmp 5) rfl w.heap.size rfl 25 _ (0, 0) _ (hy2.heap Hb0.out) Tryz.underlying25 rfl (by kernel_rfl) ?_)
          | (refine wpList_unguard (by rfl) ?_; refine wpList_load_row rfl 27 (.tmp 6) rfl (w.heap.size + 1) rfl 27 _ (0, 0) _ (hy2.heap Hc0.out) Tryz.underlying27 rfl (by kernel_rfl) ?_)
          | (go_at_call 15; refine (rgreat5_any pa pn pc a1 a2 a3 n1 n2 n3 c1 c2 c3 _ _ (alloc_at _ _ _ rfl)).mono ?_; rw [HG.out]; rintro e v1 ⟨rfl, hx1⟩; have hy1 := ((Ext.refl W0).alloc _).trans hx1; clear y0 lt; obtain ⟨y0, _⟩ := (Ext.refl v1).box (hy1.heap Ht0.out); have lt := heap_lt (hy1.heap Ht0.out))
          | (go_at_call 7; refine (Hck.out _ _ (hy1.alloc _) (alloc_at _ _ _ rfl)).mono ?_; rintro e v2 ⟨rfl, hx2⟩; have hy2 := (hy1.alloc _).trans hx2)
          | (go_at_call 16; refine (Hca.out _).mono ?_; rintro e v3 ⟨rfl, hx3⟩; have hy3 := hy2.trans hx3))
      go_ret
      exact ⟨false, rfl, Hx0.out.trans hy2, fun h => by cases h⟩
end Go.Proofs.YtcoelhpmkhimpaaGreatDoor

namespace Go.Proofs.YtcoelhpmkhimpaaGreatDoor
open Go.RowKit
set_option linter.unusedVariables false
set_option linter.unusedSimpArgs false
theorem tiesOk_of {n : Nat} {t : Tied} (h : TiesIs n t) : tiesOk n t = true := by
  unfold tiesOk
  rw [h.left, h.right, h.top, decide_eq_true h.few, decide_eq_true h.once]
  rfl
theorem check5_of {n : Nat} {l : List Pack} {t : Tied} (h1 : n ≤ 30) (h2 : l.all packOk = true) (h3 : TiesIs n t) : check5 n l t = 0 := by
  simp [check5, packsB, h1, h2, tiesOk_of h3]
def CarriedPost2 (C : Prop) (w : World) (e : Ending) (w' : World) : Prop := ∃ R : Bool, e = .returned (.bool R) ∧ Ext w w' ∧ (R = true ↔ C)
set_option maxRecDepth 100000 in
set_option maxHeartbeats 8000000 in
theorem carriedd2_any (s : Breed) (c : Camel) (pa : Option Addr) (pn pc : Nat) (l : List Pack) (a1 a2 a3 : Option Addr) (n1 n2 n3 c1 c2 c3 : Nat) (t : Tied) (bound : Int) (w : World) (hp : PacksAt w pa pn l) (ht : TiedAt w a1 a2 a3 n1 n2 n3 c1 c2 c3 t) :
    Calls Tryz.prog 5 #[s.val, c.val, .slice pa pn pc, .agg #[.slice a1 n1 c1, .slice a2 n2 c2, .slice a3 n3 c3], .int .i64 bound] w (CarriedPost2 (Carried s c pn l t bound) w) := by
  have hca := fun W => rcheckCamel_any s c W
  unfold Carried
  have hck6 : pn ≤ 30 → l.all packOk = true → TiesIs pn t → check5 pn l t = 0 := check5_of
  have hgt : pn ≤ 30 → TiesIs pn t → (decide (40 < pn) || decide (16 < n1) || decide (16 < n2) || decide (16 < n3)) = false := fun h1 h2 => by
    have := ht.len
    have := h2.few
    simp
    omega
  have hck5 : check5 pn l t = 0 → pn ≤ 30 ∧ l.all packOk = true ∧ TiesIs pn t := check5_ok
  have hck := fun (W : World) (tb : Nat) (hW : Ext w W) (hb : W.heap[tb]? = some (.cells #[.slice a1 n1 c1, .slice a2 n2 c2, .slice a3 n3 c3] 31 (0, 0))) (hpn : pn ≤ 1000000000) (h1 : n1 ≤ 16) (h2 : n2 ≤ 16) (h3 : n3 ≤ 16) => rcheck5_any pa pn pc l a1 a2 a3 n1 n2 n3 c1 c2 c3 t tb W (hp.ext hW) hpn (ht.ext hW) hb h1 h2 h3
  generalize check5 pn l t = E at *
  generalize camelErr s c = K at *
  clear hp ht
  obtain ⟨fu, fe, ⟨r0, r1⟩, ⟨h0, h1⟩, ⟨t0, t1⟩, ⟨b0, b1⟩, ⟨u0, u1⟩, ⟨m0, m1⟩, hl, ⟨s0, s1⟩⟩ := s
  obtain ⟨⟨w0, w1⟩, ⟨e0, e1⟩, ⟨o0, o1⟩, mk⟩ := c
  unfold Breed.val Camel.val at hca
  unfold Breed.val Camel.val
  simp only at *
  obtain ⟨W0, hW0⟩ : ∃ W0, ((w.alloc (.cells #[.int .i64 fu, .int .i64 fe, .int .i64 r0, .int .i64 r1, .int .i64 h0, .int .i64 h1, .int .i64 t0, .int .i64 t1, .int .i64 b0, .int .i64 b1, .int .i64 u0, .int .i64 u1, .int .i64 m0, .int .i64 m1, .int .i64 hl, .int .i64 s0, .int .i64 s1] 25)).alloc (.cells #[.int .i64 w0, .int .i64 w1, .int .i64 e0, .int .i64 e1, .int .i64 o0, .int .i64 o1, .bool mk] 27)).alloc (.cells #[.slice a1 n1 c1, .slice a2 n2 c2, .slice a3 n3 c3] 31) = W0 := ⟨_, rfl⟩
  have hx0 : Ext w W0 := by rw [← hW0]; exact (((Ext.refl w).alloc _).alloc _).alloc _
  have hb0 : W0.heap[w.heap.size]? = some (.cells #[.int .i64 fu, .int .i64 fe, .int .i64 r0, .int .i64 r1, .int .i64 h0, .int .i64 h1, .int .i64 t0, .int .i64 t1, .int .i64 b0, .int .i64 b1, .int .i64 u0, .int .i64 u1, .int .i64 m0, .int .i64 m1, .int .i64 hl, .int .i64 s0, .int .i64 s1] 25 (0, 0)) := by rw [← hW0]; exact alloc_heap (alloc_heap (heap_alloc_new w _) _) _
  have hc0 : W0.heap[w.heap.size + 1]? = some (.cells #[.int .i64 w0, .int .i64 w1, .int .i64 e0, .int .i64 e1, .int .i64 o0, .int .i64 o1, .bool mk] 27 (0, 0)) := by rw [← hW0]; exact alloc_heap (alloc_at _ _ _ (by simp)) _
  have ht0 : W0.heap[w.heap.size + 1 + 1]? = some (.cells #[.slice a1 n1 c1, .slice a2 n2 c2, .slice a3 n3 c3] 31 (0, 0)) := by rw [← hW0]; exact alloc_at _ _ _ (by simp)
  obtain ⟨y0, _⟩ := (Ext.refl W0).box ht0
  have lt := heap_lt ht0
  obtain ⟨G, hG⟩ : ∃ G, (decide (40 < pn) || decide (16 < n1) || decide (16 < n2) || decide (16 < n3)) = G := ⟨_, rfl⟩
  cases G with
  | true =>
    have HG := Lib.hid hG
    have Hx0 := Lib.hid hx0
    have Hb0 := Lib.hid hb0
    have Hc0 := Lib.hid hc0
    have Ht0 := Lib.hid ht0
    have Hca := Lib.hid hca
    have Hgt := Lib.hid hgt
    clear hG hx0 hb0 hc0 ht0 hca hgt
    clear hck hck5 hck6
    go_enter Tryz.func5, Tryz.ntmps5
    go_upto_region 1 with fail
    clear hW0
    go_wp2_with (go_at_call 15; refine (rgreat5_any pa pn pc a1 a2 a3 n1 n2 n3 c1 c2 c3 _ _ (alloc_at _ _ _ rfl)).mono ?_; rw [HG.out]; rintro e v1 ⟨rfl, hx1⟩)
    go_ret
    exact ⟨false, rfl, Hx0.out.trans (((Ext.refl W0).alloc _).trans hx1), fun h => (by cases h), fun h => by have := Hgt.out h.1 h.2.2.1; rw [HG.out] at this; cases this⟩
  | false =>
    have hg := hG
    simp only [Bool.or_eq_false_iff, decide_eq_false_iff_not] at hg
    obtain ⟨⟨⟨hg0, hg1⟩, hg2⟩, hg3⟩ := hg
    have hck := fun W tb hW hb => hck W tb (hx0.trans hW) hb (by omega) (by omega) (by omega) (by omega)
    clear hg0 hg1 hg2 hg3
    have HG := Lib.hid hG
    have Hx0 := Lib.hid hx0
    have Hb0 := Lib.hid hb0
    have Hc0 := Lib.hid hc0
    have Ht0 := Lib.hid ht0
    have Hca := Lib.hid hca
    have Hck := Lib.hid hck
    have Hck5 := Lib.hid hck5
    have Hck6 := Lib.hid hck6
    clear hG hx0 hb0 hc0 ht0 hca hck hck5 hck6
    clear hgt
    by_cases hE : E = 0
    · subst hE
      by_cases hK : K = 0
      · subst hK
        by_cases q1 : 0 ≤ bound
        · have q1B : decide (0 ≤ bound) = true := decide_eq_true q1
          by_cases q2 : bound ≤ 1000000000
          · have q2B : decide (bound ≤ 1000000000) = true := decide_eq_true q2
            go_enter Tryz.func5, Tryz.ntmps5
            go_upto_region 1 with fail
            clear hW0
            go_wp2_with
              (first
                | (refine wpList_unguard (by rfl) ?_; refine wpList_load_row rfl 25 (.tmp 5) rfl w.heap.size rfl 25 _ (0, 0) _ (hy2.heap Hb0.out) Tryz.underlying25 rfl (by kernel_rfl) ?_)
                | (refine wpList_unguard (by rfl) ?_; refine wpList_load_row rfl 27 (.tmp 6) rfl (w.heap.size + 1) rfl 27 _ (0, 0) _ (hy2.heap Hc0.out) Tryz.underlying27 rfl (by kernel_rfl) ?_)
                | (go_at_call 15; refine (rgreat5_any pa pn pc a1 a2 a3 n1 n2 n3 c1 c2 c3 _ _ (alloc_at _ _ _ rfl)).mono ?_; rw [HG.out]; rintro e v1 ⟨rfl, hx1⟩; have hy1 := ((Ext.refl W0).alloc _).trans hx1; clear y0 lt; obtain ⟨y0, _⟩ := (Ext.refl v1).box (hy1.heap Ht0.out); have lt := heap_lt (hy1.heap Ht0.out))
                | (go_at_call 7; refine (Hck.out _ _ (hy1.alloc _) (alloc_at _ _ _ rfl)).mono ?_; rintro e v2 ⟨rfl, hx2⟩; have hy2 := (hy1.alloc _).trans hx2)
                | (go_at_call 16; refine (Hca.out _).mono ?_; rintro e v3 ⟨rfl, hx3⟩; have hy3 := hy2.trans hx3))
            go_ret
            obtain ⟨x1, x2, x3⟩ := Hck5.out (by first | rfl | trivial)
            exact ⟨true, rfl, Hx0.out.trans hy3, fun _ => ⟨x1, x2, x3, by first | rfl | trivial, q1, q2⟩, fun _ => rfl⟩
          · have q2B : decide (bound ≤ 1000000000) = false := decide_eq_false q2
            go_enter Tryz.func5, Tryz.ntmps5
            go_upto_region 1 with fail
            clear hW0
            go_wp2_with
              (first
                | (refine wpList_unguard (by rfl) ?_; refine wpList_load_row rfl 25 (.tmp 5) rfl w.heap.size rfl 25 _ (0, 0) _ (hy2.heap Hb0.out) Tryz.underlying25 rfl (by kernel_rfl) ?_)
                | (refine wpList_unguard (by rfl) ?_; refine wpList_load_row rfl 27 (.tmp 6) rfl (w.heap.size + 1) rfl 27 _ (0, 0) _ (hy2.heap Hc0.out) Tryz.underlying27 rfl (by kernel_rfl) ?_)
                | (go_at_call 15; refine (rgreat5_any pa pn pc a1 a2 a3 n1 n2 n3 c1 c2 c3 _ _ (alloc_at _ _ _ rfl)).mono ?_; rw [HG.out]; rintro e v1 ⟨rfl, hx1⟩; have hy1 := ((Ext.refl W0).alloc _).trans hx1; clear y0 lt; obtain ⟨y0, _⟩ := (Ext.refl v1).box (hy1.heap Ht0.out); have lt := heap_lt (hy1.heap Ht0.out))
                | (go_at_call 7; refine (Hck.out _ _ (hy1.alloc _) (alloc_at _ _ _ rfl)).mono ?_; rintro e v2 ⟨rfl, hx2⟩; have hy2 := (hy1.alloc _).trans hx2)
                | (go_at_call 16; refine (Hca.out _).mono ?_; rintro e v3 ⟨rfl, hx3⟩; have hy3 := hy2.trans hx3))
            go_ret
            exact ⟨false, rfl, Hx0.out.trans hy3, fun h => (by cases h), fun h => absurd h.2.2.2.2.2 (by omega)⟩
        · have q1B : decide (0 ≤ bound) = false := decide_eq_false q1
          go_enter Tryz.func5, Tryz.ntmps5
          go_upto_region 1 with fail
          clear hW0
          go_wp2_with
            (first
              | (refine wpList_unguard (by rfl) ?_; refine wpList_load_row rfl 25 (.tmp 5) rfl w.heap.size rfl 25 _ (0, 0) _ (hy2.heap Hb0.out) Tryz.underlying25 rfl (by kernel_rfl) ?_)
              | (refine wpList_unguard (by rfl) ?_; refine wpList_load_row rfl 27 (.tmp 6) rfl (w.heap.size + 1) rfl 27 _ (0, 0) _ (hy2.heap Hc0.out) Tryz.underlying27 rfl (by kernel_rfl) ?_)
              | (go_at_call 15; refine (rgreat5_any pa pn pc a1 a2 a3 n1 n2 n3 c1 c2 c3 _ _ (alloc_at _ _ _ rfl)).mono ?_; rw [HG.out]; rintro e v1 ⟨rfl, hx1⟩; have hy1 := ((Ext.refl W0).alloc _).trans hx1; clear y0 lt; obtain ⟨y0, _⟩ := (Ext.refl v1).box (hy1.heap Ht0.out); have lt := heap_lt (hy1.heap Ht0.out))
              | (go_at_call 7; refine (Hck.out _ _ (hy1.alloc _) (alloc_at _ _ _ rfl)).mono ?_; rintro e v2 ⟨rfl, hx2⟩; have hy2 := (hy1.alloc _).trans hx2)
              | (go_at_call 16; refine (Hca.out _).mono ?_; rintro e v3 ⟨rfl, hx3⟩; have hy3 := hy2.trans hx3))
          go_ret
          exact ⟨false, rfl, Hx0.out.trans hy3, fun h => (by cases h), fun h => absurd h.2.2.2.2.1 (by omega)⟩
      · have hKB : (K == 0) = false := by simp [hK]
        go_enter Tryz.func5, Tryz.ntmps5
        go_upto_region 1 with fail
        clear hW0
        go_wp2_with
          (first
            | (refine wpList_unguard (by rfl) ?_; refine wpList_load_row rfl 25 (.tmp 5) rfl w.heap.size rfl 25 _ (0, 0) _ (hy2.heap Hb0.out) Tryz.underlying25 rfl (by kernel_rfl) ?_)
            | (refine wpList_unguard (by rfl) ?_; refine wpList_load_row rfl 27 (.tmp 6) rfl (w.heap.size + 1) rfl 27 _ (0, 0) _ (hy2.heap Hc0.out) Tryz.underlying27 rfl (by kernel_rfl) ?_)
            | (go_at_call 15; refine (rgreat5_any pa pn pc a1 a2 a3 n1 n2 n3 c1 c2 c3 _ _ (alloc_at _ _ _ rfl)).mono ?_; rw [HG.out]; rintro e v1 ⟨rfl, hx1⟩; have hy1 := ((Ext.refl W0).alloc _).trans hx1; clear y0 lt; obtain ⟨y0, _⟩ := (Ext.refl v1).box (hy1.heap Ht0.out); have lt := heap_lt (hy1.heap Ht0.out))
            | (go_at_call 7; refine (Hck.out _ _ (hy1.alloc _) (alloc_at _ _ _ rfl)).mono ?_; rintro e v2 ⟨rfl, hx2⟩; have hy2 := (hy1.alloc _).trans hx2)
            | (go_at_call 16; refine (Hca.out _).mono ?_; rintro e v3 ⟨rfl, hx3⟩; have hy3 := hy2.trans hx3))
        go_ret
        exact ⟨false, rfl, Hx0.out.trans hy3, fun h => (by cases h), fun h => absurd h.2.2.2.1 hK⟩
    · have hEB : (E == 0) = false := by simp [hE]
      go_enter Tryz.func5, Tryz.ntmps5
      go_upto_region 1 with fail
      clear hW0
      go_wp2_with
        (first
          | (refine wpList_unguard (by rfl) ?_; refine wpList_load_row rfl 25 (.tmp 5) rfl w.heap.size rfl 25 _ (0, 0) _ (hy2.heap Hb0.out) Tryz.underlying25 rfl (by kernel_rfl) ?_)
          | (refine wpList_unguard (by rfl) ?_; refine wpList_load_row rfl 27 (.tmp 6) rfl (w.heap.size + 1) rfl 27 _ (0, 0) _ (hy2.heap Hc0.out) Tryz.underlying27 rfl (by kernel_rfl) ?_)
          | (go_at_call 15; refine (rgreat5_any pa pn pc a1 a2 a3 n1 n2 n3 c1 c2 c3 _ _ (alloc_at _ _ _ rfl)).mono ?_; rw [HG.out]; rintro e v1 ⟨rfl, hx1⟩; have hy1 := ((Ext.refl W0).alloc _).trans hx1; clear y0 lt; obtain ⟨y0, _⟩ := (Ext.refl v1).box (hy1.heap Ht0.out); have lt := heap_lt (hy1.heap Ht0.out))
          | (go_at_call 7; refine (Hck.out _ _ (hy1.alloc _) (alloc_at _ _ _ rfl)).mono ?_; rintro e v2 ⟨rfl, hx2⟩; have hy2 := (hy1.alloc _).trans hx2)
          | (go_at_call 16; refine (Hca.out _).mono ?_; rintro e v3 ⟨rfl, hx3⟩; have hy3 := hy2.trans hx3))
      go_ret
      exact ⟨false, rfl, Hx0.out.trans hy2, fun h => (by cases h), fun h => absurd (Hck6.out h.1 h.2.1 h.2.2.1) hE⟩
theorem carriedd_yes (s : Breed) (c : Camel) (pa : Option Addr) (pn pc : Nat) (l : List Pack) (a1 a2 a3 : Option Addr) (n1 n2 n3 c1 c2 c3 : Nat) (t : Tied) (bound : Int) (w : World) (hp : PacksAt w pa pn l) (ht : TiedAt w a1 a2 a3 n1 n2 n3 c1 c2 c3 t) (hC : Carried s c pn l t bound) :
    Calls Tryz.prog 5 #[s.val, c.val, .slice pa pn pc, .agg #[.slice a1 n1 c1, .slice a2 n2 c2, .slice a3 n3 c3], .int .i64 bound] w fun e w' => e = .returned (.bool true) ∧ Ext w w' := by
  refine (carriedd2_any s c pa pn pc l a1 a2 a3 n1 n2 n3 c1 c2 c3 t bound w hp ht).mono ?_
  rintro e w' ⟨R, rfl, hx, hR⟩
  obtain rfl : R = true := hR.2 hC
  exact ⟨rfl, hx⟩
theorem carriedd_no (s : Breed) (c : Camel) (pa : Option Addr) (pn pc : Nat) (l : List Pack) (a1 a2 a3 : Option Addr) (n1 n2 n3 c1 c2 c3 : Nat) (t : Tied) (bound : Int) (w : World) (hp : PacksAt w pa pn l) (ht : TiedAt w a1 a2 a3 n1 n2 n3 c1 c2 c3 t) (hC : ¬Carried s c pn l t bound) :
    Calls Tryz.prog 5 #[s.val, c.val, .slice pa pn pc, .agg #[.slice a1 n1 c1, .slice a2 n2 c2, .slice a3 n3 c3], .int .i64 bound] w fun e w' => e = .returned (.bool false) ∧ Ext w w' := by
  refine (carriedd2_any s c pa pn pc l a1 a2 a3 n1 n2 n3 c1 c2 c3 t bound w hp ht).mono ?_
  rintro e w' ⟨R, rfl, hx, hR⟩
  cases R with
  | false => exact ⟨rfl, hx⟩
  | true => exact absurd (hR.1 rfl) hC
end Go.Proofs.YtcoelhpmkhimpaaGreatDoor

namespace Go.Proofs.YtcoelhpmkhimpaaGreatDoor
open Go.RowKit
set_option linter.unusedVariables false
set_option linter.unusedSimpArgs false
/-- the day, with another load -/
def laden (m : March) (x : Int) : March := { m with load := x }
theorem field23 (a b : Int) (W : World) : (Instr.field 23 (.agg #[.int .i64 a, .int .i64 b]) 0).run Tryz.prog W = .ok (.int .i64 a) W := by kernel_rfl
theorem day_lives {s : Breed} {c : Camel} {m : March} (h : dayFate s c m = 0) : dayVal s c m = beastVal s (nextOf s c m) := by
  unfold dayFate at h
  unfold dayVal
  split at h
  · omega
  · rename_i h1
    rw [if_neg h1]
set_option maxRecDepth 100000 in
set_option maxHeartbeats 8000000 in
theorem bears_any (s : Breed) (c : Camel) (m : March) (x K : Int) (k0 k1 k2 : Nat) (db dc : Nat) (w : World) (hb : BreedOk s) (hc : CamelOk s c) (hm : DayOk (laden m x)) (hh : 0 < m.hours) (hK : (carryOf s c).lo = K) (hf : dayFate s c (laden m x) = 0)
    (g0 : w.heap[k0]? = some (.cells s.cells.toArray 25 (0, 0))) (g1 : w.heap[k1]? = some (.cells c.cells.toArray 27 (0, 0))) (g2 : w.heap[k2]? = some (.cells #[.slice (some ⟨db, 0, none⟩) 1 dc] 55 (0, 0))) (gd : w.heap[db]? = some (.cells m.cells.toArray 54 (0, 0))) :
    Calls Tryz.prog 41 #[.int .i64 x, .pointer (some ⟨k0, 0, none⟩), .pointer (some ⟨k1, 0, none⟩), .pointer (some ⟨k2, 0, none⟩)] w fun e w' => e = .returned (.bool (!decide (K < x))) ∧ Ext w w' := by
  have hca := fun W => carries_any s c W hb hc
  have hda := fun W => day_any s c (laden m x) W hb hc hm
  rw [day_lives hf, hf] at hda
  generalize nextOf s c (laden m x) = C at *
  obtain ⟨KH, hKH⟩ : ∃ KH, (carryOf s c).hi = KH := ⟨_, rfl⟩
  have hcv : (carryOf s c).val = .agg #[.int .i64 K, .int .i64 KH] := by unfold Span.val; rw [hK, hKH]
  rw [hcv] at hca
  clear hcv hK hKH hf hb hc hm
  obtain ⟨fu, fe, ⟨r0, r1⟩, ⟨h0, h1⟩, ⟨t0, t1⟩, ⟨b0, b1⟩, ⟨u0, u1⟩, ⟨m0, m1⟩, hl, ⟨s0, s1⟩⟩ := s
  obtain ⟨⟨w0, w1⟩, ⟨e0, e1⟩, ⟨o0, o1⟩, mk⟩ := c
  obtain ⟨⟨x0, x1⟩, ⟨x2, x3⟩, ⟨x4, x5⟩, xm⟩ := C
  obtain ⟨hhr, hld, ⟨a0, a1⟩, ⟨a2, a3⟩, ⟨a4, a5⟩⟩ := m
  unfold laden March.val beastVal at hda
  unfold beastVal at hca
  simp only at hda hca hh
  have g0 : w.heap[k0]? = some (.cells #[.int .i64 fu, .int .i64 fe, .int .i64 r0, .int .i64 r1, .int .i64 h0, .int .i64 h1, .int .i64 t0, .int .i64 t1, .int .i64 b0, .int .i64 b1, .int .i64 u0, .int .i64 u1, .int .i64 m0, .int .i64 m1, .int .i64 hl, .int .i64 s0, .int .i64 s1] 25 (0, 0)) := g0
  have g1 : w.heap[k1]? = some (.cells #[.int .i64 w0, .int .i64 w1, .int .i64 e0, .int .i64 e1, .int .i64 o0, .int .i64 o1, .bool mk] 27 (0, 0)) := g1
  have gd : w.heap[db]? = some (.cells #[.int .i64 hhr, .int .i64 hld, .int .i64 a0, .int .i64 a1, .int .i64 a2, .int .i64 a3, .int .i64 a4, .int .i64 a5] 54 (0, 0)) := gd
  have hx6 : Ext w ((w.alloc (.cells #[.int .i64 0, .int .i64 0, .int .i64 0, .int .i64 0, .int .i64 0, .int .i64 0, .int .i64 0, .int .i64 0, .int .i64 0, .int .i64 0, .int .i64 0, .int .i64 0, .int .i64 0, .int .i64 0, .int .i64 0, .int .i64 0, .int .i64 0, .int .i64 0, .int .i64 0, .int .i64 0, .int .i64 0, .int .i64 0, .int .i64 0, .bool false] 83)).setRow w.heap.size #[.int .i64 fu, .int .i64 fe, .int .i64 r0, .int .i64 r1, .int .i64 h0, .int .i64 h1, .int .i64 t0, .int .i64 t1, .int .i64 b0, .int .i64 b1, .int .i64 u0, .int .i64 u1, .int .i64 m0, .int .i64 m1, .int .i64 hl, .int .i64 s0, .int .i64 s1, .int .i64 w0, .int .i64 w1, .int .i64 e0, .int .i64 e1, .int .i64 o0, .int .i64 o1, .bool mk]) := below_setRow ((Ext.refl w).alloc (.cells #[.int .i64 0, .int .i64 0, .int .i64 0, .int .i64 0, .int .i64 0, .int .i64 0, .int .i64 0, .int .i64 0, .int .i64 0, .int .i64 0, .int .i64 0, .int .i64 0, .int .i64 0, .int .i64 0, .int .i64 0, .int .i64 0, .int .i64 0, .int .i64 0, .int .i64 0, .int .i64 0, .int .i64 0, .int .i64 0, .int .i64 0, .bool false] 83)) (Nat.le_refl _) #[.int .i64 fu, .int .i64 fe, .int .i64 r0, .int .i64 r1, .int .i64 h0, .int .i64 h1, .int .i64 t0, .int .i64 t1, .int .i64 b0, .int .i64 b1, .int .i64 u0, .int .i64 u1, .int .i64 m0, .int .i64 m1, .int .i64 hl, .int .i64 s0, .int .i64 s1, .int .i64 w0, .int .i64 w1, .int .i64 e0, .int .i64 e1, .int .i64 o0, .int .i64 o1, .bool mk]
  have b6 := setRow_heap _ _ _ #[.int .i64 fu, .int .i64 fe, .int .i64 r0, .int .i64 r1, .int .i64 h0, .int .i64 h1, .int .i64 t0, .int .i64 t1, .int .i64 b0, .int .i64 b1, .int .i64 u0, .int .i64 u1, .int .i64 m0, .int .i64 m1, .int .i64 hl, .int .i64 s0, .int .i64 s1, .int .i64 w0, .int .i64 w1, .int .i64 e0, .int .i64 e1, .int .i64 o0, .int .i64 o1, .bool mk] _ _ (heap_alloc_new w (.cells #[.int .i64 0, .int .i64 0, .int .i64 0, .int .i64 0, .int .i64 0, .int .i64 0, .int .i64 0, .int .i64 0, .int .i64 0, .int .i64 0, .int .i64 0, .int .i64 0, .int .i64 0, .int .i64 0, .int .i64 0, .int .i64 0, .int .i64 0, .int .i64 0, .int .i64 0, .int .i64 0, .int .i64 0, .int .i64 0, .int .i64 0, .bool false] 83))
  have hfd := field23
  have Hca := Lib.hid hca
  have Hda := Lib.hid hda
  have G0 := Lib.hid g0
  have G1 := Lib.hid g1
  have G2 := Lib.hid g2
  have Gd := Lib.hid gd
  have Hx6 := Lib.hid hx6
  have B6 := Lib.hid b6
  clear hca hda g0 g1 g2 gd hx6 b6
  go_enter Tryz.func41, Tryz.ntmps41
  go_upto_region 2 with (first
    | (refine wpList_load_row rfl 25 (.tmp 1) rfl k0 rfl 25 _ (0, 0) _ G0.out Tryz.underlying25 rfl (by kernel_rfl) ?_)
    | (refine wpList_load_row rfl 27 (.tmp 2) rfl k1 rfl 27 _ (0, 0) _ G1.out Tryz.underlying27 rfl (by kernel_rfl) ?_)
    | (refine wpList_store_row rfl 83 (.tmp 6) (.tmp 13) rfl w.heap.size #[.int .i64 fu, .int .i64 fe, .int .i64 r0, .int .i64 r1, .int .i64 h0, .int .i64 h1, .int .i64 t0, .int .i64 t1, .int .i64 b0, .int .i64 b1, .int .i64 u0, .int .i64 u1, .int .i64 m0, .int .i64 m1, .int .i64 hl, .int .i64 s0, .int .i64 s1, .int .i64 w0, .int .i64 w1, .int .i64 e0, .int .i64 e1, .int .i64 o0, .int .i64 o1, .bool mk] rfl rfl 83 _ (heap_alloc_new w (.cells #[.int .i64 0, .int .i64 0, .int .i64 0, .int .i64 0, .int .i64 0, .int .i64 0, .int .i64 0, .int .i64 0, .int .i64 0, .int .i64 0, .int .i64 0, .int .i64 0, .int .i64 0, .int .i64 0, .int .i64 0, .int .i64 0, .int .i64 0, .int .i64 0, .int .i64 0, .int .i64 0, .int .i64 0, .int .i64 0, .int .i64 0, .bool false] 83)) (by kernel_rfl) (by kernel_rfl) (by kernel_rfl) ?_))
  generalize (w.alloc (.cells #[.int .i64 0, .int .i64 0, .int .i64 0, .int .i64 0, .int .i64 0, .int .i64 0, .int .i64 0, .int .i64 0, .int .i64 0, .int .i64 0, .int .i64 0, .int .i64 0, .int .i64 0, .int .i64 0, .int .i64 0, .int .i64 0, .int .i64 0, .int .i64 0, .int .i64 0, .int .i64 0, .int .i64 0, .int .i64 0, .int .i64 0, .bool false] 83)).setRow w.heap.size #[.int .i64 fu, .int .i64 fe, .int .i64 r0, .int .i64 r1, .int .i64 h0, .int .i64 h1, .int .i64 t0, .int .i64 t1, .int .i64 b0, .int .i64 b1, .int .i64 u0, .int .i64 u1, .int .i64 m0, .int .i64 m1, .int .i64 hl, .int .i64 s0, .int .i64 s1, .int .i64 w0, .int .i64 w1, .int .i64 e0, .int .i64 e1, .int .i64 o0, .int .i64 o1, .bool mk] = W6 at *
  obtain ⟨f2, _⟩ := (Ext.refl W6).box (Hx6.out.heap G2.out)
  have l2 := heap_lt (Hx6.out.heap G2.out)
  go_upto_region 3 with fail
  clear f2 l2
  go_loopw [16] (fun i wr => (i = .int .i64 0 ∧ wr = W6) ∨ (i = .int .i64 1 ∧ Ext w wr ∧ decide (K < x) = false)) (fun i _ => 1 - (intOf i).toNat)
  case atStart => exact .inl ⟨rfl, rfl⟩
  case round =>
    rcases hrel with ⟨rfl, rfl⟩ | ⟨rfl, hxe, hno⟩
    · have gdw := Hx6.out.heap Gd.out
      obtain ⟨y0, _⟩ := (Ext.refl wr).box gdw
      have ld := heap_lt gdw
      have Gdw := Lib.hid gdw
      clear gdw
      go_upto_region 5 with fail
      have hx8 := (Ext.refl wr).alloc (.cells #[.int .i64 hhr, .int .i64 hld, .int .i64 a0, .int .i64 a1, .int .i64 a2, .int .i64 a3, .int .i64 a4, .int .i64 a5] 54)
      have b8 := heap_alloc_new wr (.cells #[.int .i64 hhr, .int .i64 hld, .int .i64 a0, .int .i64 a1, .int .i64 a2, .int .i64 a3, .int .i64 a4, .int .i64 a5] 54)
      have b68 := hx8.heap B6.out
      have hp6 := heap_lt B6.out
      clear y0 ld
      generalize wr.alloc (.cells #[.int .i64 hhr, .int .i64 hld, .int .i64 a0, .int .i64 a1, .int .i64 a2, .int .i64 a3, .int .i64 a4, .int .i64 a5] 54) = W8 at *
      obtain ⟨q8, hq8⟩ : ∃ q8, wr.heap.size = q8 := ⟨_, rfl⟩
      rw [hq8] at b8 hp6 ⊢
      obtain ⟨y0, y1⟩ := (Ext.refl W8).box b8
      have l8 := heap_lt b8
      have hx8w := Hx6.out.trans hx8
      have Hx8w := Lib.hid hx8w
      have B8 := Lib.hid b8
      have B68 := Lib.hid b68
      have Hq8 := Lib.hid hq8
      clear hx8w b8 b68 hq8
      go_upto_region 6 with fail
      have hx9 : Ext w (W8.setCell ⟨q8, 1, none⟩ (.int .i64 x)) := set1_ext Hx8w.out (by have := Hq8.out; have := Hx6.out.size; omega) _ _
      have b89 : (W8.setCell ⟨q8, 1, none⟩ (.int .i64 x)).heap[q8]? = some (.cells #[.int .i64 hhr, .int .i64 x, .int .i64 a0, .int .i64 a1, .int .i64 a2, .int .i64 a3, .int .i64 a4, .int .i64 a5] 54 (0, 0)) := by
        rw [heap_setCell_box, B8.out]
        rfl
      have b69 := set1_other (j := 1) B68.out (b := q8) (by omega) (.int .i64 x)
      clear y0 y1 l8 hx8 Hx8w B8 B68
      generalize W8.setCell ⟨q8, 1, none⟩ (.int .i64 x) = W9 at *
      obtain ⟨y0, _⟩ := (Ext.refl W9).box b89
      have l8 := heap_lt b89
      have Hx9 := Lib.hid hx9
      have B89 := Lib.hid b89
      have B69 := Lib.hid b69
      clear hx9 b89 b69
      have hhB : decide (0 < hhr) = true := decide_eq_true hh
      by_cases hkx : K < x
      · have hkB : decide (K < x) = true := decide_eq_true hkx
        go_wp2_with (first
          | (refine wpList_unguard (by rfl) ?_; refine wpList_load_row rfl 83 (.tmp 6) rfl w.heap.size rfl 83 _ (0, 0) _ B69.out Tryz.underlying83 rfl (by kernel_rfl) ?_)
          | (go_at_call 38; refine (Hca.out _).mono ?_; rintro e v1 ⟨rfl, hz1⟩))
        go_ret
        exact ⟨ret_bool (by rw [hkB]; rfl), Hx9.out.trans hz1⟩
      · have hkB : decide (K < x) = false := decide_eq_false hkx
        go_upto_region 11 with (first
          | (refine wpList_unguard (by rfl) ?_; refine wpList_load_row rfl 83 (.tmp 6) rfl w.heap.size rfl 83 _ (0, 0) _ B69.out Tryz.underlying83 rfl (by kernel_rfl) ?_)
          | (have qq := hz1; clear qq; refine wpList_load_row rfl 83 (.tmp 6) rfl w.heap.size rfl 83 _ (0, 0) _ (hz1.heap B69.out) Tryz.underlying83 rfl (by kernel_rfl) ?_)
          | (have qq := hz1; clear qq; refine wpList_load_row rfl 54 (.tmp 8) rfl q8 rfl 54 _ (0, 0) _ (hz1.heap B89.out) Tryz.underlying54 rfl (by kernel_rfl) ?_)
          | (refine wpList_store_row rfl 83 (.tmp 9) (.tmp 36) rfl v2.heap.size #[.int .i64 fu, .int .i64 fe, .int .i64 r0, .int .i64 r1, .int .i64 h0, .int .i64 h1, .int .i64 t0, .int .i64 t1, .int .i64 b0, .int .i64 b1, .int .i64 u0, .int .i64 u1, .int .i64 m0, .int .i64 m1, .int .i64 hl, .int .i64 s0, .int .i64 s1, .int .i64 x0, .int .i64 x1, .int .i64 x2, .int .i64 x3, .int .i64 x4, .int .i64 x5, .bool xm] rfl rfl 83 _ (heap_alloc_new v2 (.cells #[.int .i64 0, .int .i64 0, .int .i64 0, .int .i64 0, .int .i64 0, .int .i64 0, .int .i64 0, .int .i64 0, .int .i64 0, .int .i64 0, .int .i64 0, .int .i64 0, .int .i64 0, .int .i64 0, .int .i64 0, .int .i64 0, .int .i64 0, .int .i64 0, .int .i64 0, .int .i64 0, .int .i64 0, .int .i64 0, .int .i64 0, .bool false] 83)) (by kernel_rfl) (by kernel_rfl) (by kernel_rfl) ?_)
          | (go_at_call 38; refine (Hca.out _).mono ?_; rintro e v1 ⟨rfl, hz1⟩)
          | (go_at_call 42; refine (Hda.out _).mono ?_; rintro e v2 ⟨rfl, hz2⟩))
        have hz12 := hz1.trans hz2
        have hxX : Ext w ((v2.alloc (.cells #[.int .i64 0, .int .i64 0, .int .i64 0, .int .i64 0, .int .i64 0, .int .i64 0, .int .i64 0, .int .i64 0, .int .i64 0, .int .i64 0, .int .i64 0, .int .i64 0, .int .i64 0, .int .i64 0, .int .i64 0, .int .i64 0, .int .i64 0, .int .i64 0, .int .i64 0, .int .i64 0, .int .i64 0, .int .i64 0, .int .i64 0, .bool false] 83)).setRow v2.heap.size #[.int .i64 fu, .int .i64 fe, .int .i64 r0, .int .i64 r1, .int .i64 h0, .int .i64 h1, .int .i64 t0, .int .i64 t1, .int .i64 b0, .int .i64 b1, .int .i64 u0, .int .i64 u1, .int .i64 m0, .int .i64 m1, .int .i64 hl, .int .i64 s0, .int .i64 s1, .int .i64 x0, .int .i64 x1, .int .i64 x2, .int .i64 x3, .int .i64 x4, .int .i64 x5, .bool xm]) := below_setRow ((Hx9.out.trans hz12).alloc (.cells #[.int .i64 0, .int .i64 0, .int .i64 0, .int .i64 0, .int .i64 0, .int .i64 0, .int .i64 0, .int .i64 0, .int .i64 0, .int .i64 0, .int .i64 0, .int .i64 0, .int .i64 0, .int .i64 0, .int .i64 0, .int .i64 0, .int .i64 0, .int .i64 0, .int .i64 0, .int .i64 0, .int .i64 0, .int .i64 0, .int .i64 0, .bool false] 83)) (by have := (Hx9.out.trans hz12).size; omega) #[.int .i64 fu, .int .i64 fe, .int .i64 r0, .int .i64 r1, .int .i64 h0, .int .i64 h1, .int .i64 t0, .int .i64 t1, .int .i64 b0, .int .i64 b1, .int .i64 u0, .int .i64 u1, .int .i64 m0, .int .i64 m1, .int .i64 hl, .int .i64 s0, .int .i64 s1, .int .i64 x0, .int .i64 x1, .int .i64 x2, .int .i64 x3, .int .i64 x4, .int .i64 x5, .bool xm]
        have b9 := setRow_heap _ _ _ #[.int .i64 fu, .int .i64 fe, .int .i64 r0, .int .i64 r1, .int .i64 h0, .int .i64 h1, .int .i64 t0, .int .i64 t1, .int .i64 b0, .int .i64 b1, .int .i64 u0, .int .i64 u1, .int .i64 m0, .int .i64 m1, .int .i64 hl, .int .i64 s0, .int .i64 s1, .int .i64 x0, .int .i64 x1, .int .i64 x2, .int .i64 x3, .int .i64 x4, .int .i64 x5, .bool xm] _ _ (heap_alloc_new v2 (.cells #[.int .i64 0, .int .i64 0, .int .i64 0, .int .i64 0, .int .i64 0, .int .i64 0, .int .i64 0, .int .i64 0, .int .i64 0, .int .i64 0, .int .i64 0, .int .i64 0, .int .i64 0, .int .i64 0, .int .i64 0, .int .i64 0, .int .i64 0, .int .i64 0, .int .i64 0, .int .i64 0, .int .i64 0, .int .i64 0, .int .i64 0, .bool false] 83))
        have b6X : ((v2.alloc (.cells #[.int .i64 0, .int .i64 0, .int .i64 0, .int .i64 0, .int .i64 0, .int .i64 0, .int .i64 0, .int .i64 0, .int .i64 0, .int .i64 0, .int .i64 0, .int .i64 0, .int .i64 0, .int .i64 0, .int .i64 0, .int .i64 0, .int .i64 0, .int .i64 0, .int .i64 0, .int .i64 0, .int .i64 0, .int .i64 0, .int .i64 0, .bool false] 83)).setRow v2.heap.size #[.int .i64 fu, .int .i64 fe, .int .i64 r0, .int .i64 r1, .int .i64 h0, .int .i64 h1, .int .i64 t0, .int .i64 t1, .int .i64 b0, .int .i64 b1, .int .i64 u0, .int .i64 u1, .int .i64 m0, .int .i64 m1, .int .i64 hl, .int .i64 s0, .int .i64 s1, .int .i64 x0, .int .i64 x1, .int .i64 x2, .int .i64 x3, .int .i64 x4, .int .i64 x5, .bool xm]).heap[w.heap.size]? = _ := (setRow_other _ _ _ #[.int .i64 fu, .int .i64 fe, .int .i64 r0, .int .i64 r1, .int .i64 h0, .int .i64 h1, .int .i64 t0, .int .i64 t1, .int .i64 b0, .int .i64 b1, .int .i64 u0, .int .i64 u1, .int .i64 m0, .int .i64 m1, .int .i64 hl, .int .i64 s0, .int .i64 s1, .int .i64 x0, .int .i64 x1, .int .i64 x2, .int .i64 x3, .int .i64 x4, .int .i64 x5, .bool xm] (by have := heap_lt (hz12.heap B69.out); omega)).trans (alloc_heap (hz12.heap B69.out) (.cells #[.int .i64 0, .int .i64 0, .int .i64 0, .int .i64 0, .int .i64 0, .int .i64 0, .int .i64 0, .int .i64 0, .int .i64 0, .int .i64 0, .int .i64 0, .int .i64 0, .int .i64 0, .int .i64 0, .int .i64 0, .int .i64 0, .int .i64 0, .int .i64 0, .int .i64 0, .int .i64 0, .int .i64 0, .int .i64 0, .int .i64 0, .bool false] 83))
        generalize (v2.alloc (.cells #[.int .i64 0, .int .i64 0, .int .i64 0, .int .i64 0, .int .i64 0, .int .i64 0, .int .i64 0, .int .i64 0, .int .i64 0, .int .i64 0, .int .i64 0, .int .i64 0, .int .i64 0, .int .i64 0, .int .i64 0, .int .i64 0, .int .i64 0, .int .i64 0, .int .i64 0, .int .i64 0, .int .i64 0, .int .i64 0, .int .i64 0, .bool false] 83)).setRow v2.heap.size #[.int .i64 fu, .int .i64 fe, .int .i64 r0, .int .i64 r1, .int .i64 h0, .int .i64 h1, .int .i64 t0, .int .i64 t1, .int .i64 b0, .int .i64 b1, .int .i64 u0, .int .i64 u1, .int .i64 m0, .int .i64 m1, .int .i64 hl, .int .i64 s0, .int .i64 s1, .int .i64 x0, .int .i64 x1, .int .i64 x2, .int .i64 x3, .int .i64 x4, .int .i64 x5, .bool xm] = WX at *
        generalize v2.heap.size = q9 at *
        have HxX := Lib.hid hxX
        have B9 := Lib.hid b9
        have B6X := Lib.hid b6X
        clear hxX b9 b6X
        clear hz1 hz2 hz12
        go_wp2_with (first
          | (refine wpList_load_row rfl 83 (.tmp 9) rfl q9 rfl 83 _ (0, 0) _ B9.out Tryz.underlying83 rfl (by kernel_rfl) ?_)
          | (refine wpList_store_row rfl 83 (.tmp 6) (.tmp 40) rfl w.heap.size #[.int .i64 fu, .int .i64 fe, .int .i64 r0, .int .i64 r1, .int .i64 h0, .int .i64 h1, .int .i64 t0, .int .i64 t1, .int .i64 b0, .int .i64 b1, .int .i64 u0, .int .i64 u1, .int .i64 m0, .int .i64 m1, .int .i64 hl, .int .i64 s0, .int .i64 s1, .int .i64 x0, .int .i64 x1, .int .i64 x2, .int .i64 x3, .int .i64 x4, .int .i64 x5, .bool xm] rfl rfl 83 _ B6X.out (by kernel_rfl) (by kernel_rfl) (by kernel_rfl) ?_))
        go_roundw
        case rel => exact .inr ⟨by go_num, below_setRow HxX.out (Nat.le_refl _) _, hkB⟩
        case measure => simp [intOf]
    · have Hxe := Lib.hid hxe
      have Hno := Lib.hid hno
      clear hxe hno
      go_wp2_with fail
      go_ret
      exact ⟨ret_bool (by rw [Hno.out]; rfl), Hxe.out⟩
end Go.Proofs.YtcoelhpmkhimpaaGreatDoor

namespace Go.Proofs.YtcoelhpmkhimpaaGreatDoor
open Go.RowKit
set_option linter.unusedVariables false
set_option linter.unusedSimpArgs false
theorem greatest_any (K : Int) (p0 p1 p2 : Nat) (w : World) (hK : 0 ≤ K ∧ K ≤ 1000000)
    (hso : ∀ x W, 0 ≤ x → x ≤ 1000000 → Ext w W → Calls Tryz.prog 41 #[.int .i64 x, .pointer (some ⟨p0, 0, none⟩), .pointer (some ⟨p1, 0, none⟩), .pointer (some ⟨p2, 0, none⟩)] W fun e w' => e = .returned (.bool (!decide (K < x))) ∧ Ext W w') :
    Calls Tryz.prog 43 #[.int .i64 0, .int .i64 1000000, .func (.func 41) #[] #[.pointer (some ⟨p0, 0, none⟩), .pointer (some ⟨p1, 0, none⟩), .pointer (some ⟨p2, 0, none⟩)]] w fun e w' => e = .returned (.int .i64 K) ∧ Ext w w' := by
  have Hso := Lib.hid hso
  clear hso
  go_enter Tryz.func43, Tryz.ntmps43
  go_upto_region 1 with fail
  go_loopw [0, 1] (fun i j wr => ∃ lo hi : Int, i = .int .i64 lo ∧ j = .int .i64 hi ∧ 0 ≤ lo ∧ lo ≤ K ∧ K ≤ hi ∧ hi ≤ 1000000 ∧ Ext w wr) (fun i j _ => (intOf j - intOf i).toNat)
  case atStart => exact ⟨0, 1000000, rfl, rfl, by omega, hK.1, hK.2, by omega, Ext.refl _⟩
  case round =>
    obtain ⟨lo, hi, rfl, rfl, h1, h2, h3, h4, hx⟩ := hrel
    by_cases hlt : lo < hi
    · have hltB : decide (lo < hi) = true := decide_eq_true hlt
      obtain ⟨M, hM⟩ : ∃ M, hi - (hi - lo) / 2 = M := ⟨_, rfl⟩
      have hm1 : lo < M := by omega
      have hm2 : M ≤ hi := by omega
      have hc := Hso.out M wr (by omega) (by omega) hx
      by_cases hk : K < M
      · rw [decide_eq_true hk] at hc
        simp only [Bool.not_true] at hc
        have Hc := Lib.hid hc
        have Hx := Lib.hid hx
        have H2 := Lib.hid h2
        have H3 := Lib.hid h3
        have Hk := Lib.hid hk
        clear hc hx h2 h3 hk
        go_wp2_with (go_at_call 41; refine Hc.out.mono ?_; rintro e v1 ⟨rfl, hx1⟩)
        go_roundw
        case rel => exact ⟨lo, M - 1, rfl, by go_num, h1, H2.out, by have := Hk.out; omega, by omega, Hx.out.trans hx1⟩
        case measure => simp [intOf]; omega
      · rw [decide_eq_false hk] at hc
        simp only [Bool.not_false] at hc
        have Hc := Lib.hid hc
        have Hx := Lib.hid hx
        have H2 := Lib.hid h2
        have H3 := Lib.hid h3
        have Hk := Lib.hid hk
        clear hc hx h2 h3 hk
        go_wp2_with (go_at_call 41; refine Hc.out.mono ?_; rintro e v1 ⟨rfl, hx1⟩)
        go_roundw
        case rel => exact ⟨M, hi, rfl, rfl, by omega, by have := Hk.out; omega, H3.out, h4, Hx.out.trans hx1⟩
        case measure => simp [intOf]; omega
    · have hltB : decide (lo < hi) = false := decide_eq_false hlt
      obtain rfl : lo = K := by omega
      have Hx := Lib.hid hx
      clear hx
      go_wp2_with fail
      go_ret
      exact ⟨rfl, Hx.out⟩
set_option maxRecDepth 100000 in
set_option maxHeartbeats 8000000 in
theorem heaviest_any (s : Breed) (c : Camel) (m : March) (K : Int) (db dc : Nat) (w : World) (hb : BreedOk s) (hc : CamelOk s c) (hm : ∀ x, 0 ≤ x → x ≤ 1000000 → DayOk (laden m x)) (hh : 0 < m.hours) (hK : (carryOf s c).lo = K) (hK2 : 0 ≤ K ∧ K ≤ 1000000) (hf : ∀ x, 0 ≤ x → x ≤ 1000000 → dayFate s c (laden m x) = 0)
    (ha : askDays s c [m] = 0) (gd : w.heap[db]? = some (.cells m.cells.toArray 54 (0, 0))) :
    Calls Tryz.prog 13 #[s.val, c.val, .slice (some ⟨db, 0, none⟩) 1 dc] w fun e w' => e = .returned (.tuple #[.int .i64 K, .int .i64 0]) ∧ Ext w w' := by
  have hmf : ∀ (fn : Fn) (first cap : Array Value) (w : World), (Instr.makeFunc fn first cap).run Tryz.prog w = .ok (.func fn first cap) w := fun _ _ _ _ => rfl
  have hbe := fun x (h0 : 0 ≤ x) (h1 : x ≤ 1000000) k0 k1 k2 W (hW : Ext w W) g0 g1 g2 => bears_any s c m x K k0 k1 k2 db dc W hb hc (hm x h0 h1) hh hK (hf x h0 h1) g0 g1 g2 (hW.heap gd)
  have hda : DaysAt w (some ⟨db, 0, none⟩) 1 [m] := by
    refine ⟨rfl, fun _ => ⟨db, 0, rfl, fun k hk j v hv => ?_⟩⟩
    obtain rfl : k = 0 := by omega
    rw [cell_of_row w db _ _ 54 (0, 0) gd]
    simpa using hv
  have hck := fun W (hW : Ext w W) => check_any s c (some ⟨db, 0, none⟩) 1 dc [m] W (hda.ext hW) (by omega)
  rw [ha] at hck
  clear hm hK hf ha hda hb hc gd
  obtain ⟨fu, fe, ⟨r0, r1⟩, ⟨h0, h1⟩, ⟨t0, t1⟩, ⟨b0, b1⟩, ⟨u0, u1⟩, ⟨m0, m1⟩, hl, ⟨s0, s1⟩⟩ := s
  obtain ⟨⟨w0, w1⟩, ⟨e0, e1⟩, ⟨o0, o1⟩, mk⟩ := c
  unfold Breed.val Camel.val at hck
  unfold Breed.val Camel.val
  simp only at hck ⊢
  obtain ⟨W0, hW0⟩ : ∃ W0, ((w.alloc (.cells #[.int .i64 fu, .int .i64 fe, .int .i64 r0, .int .i64 r1, .int .i64 h0, .int .i64 h1, .int .i64 t0, .int .i64 t1, .int .i64 b0, .int .i64 b1, .int .i64 u0, .int .i64 u1, .int .i64 m0, .int .i64 m1, .int .i64 hl, .int .i64 s0, .int .i64 s1] 25)).alloc (.cells #[.int .i64 w0, .int .i64 w1, .int .i64 e0, .int .i64 e1, .int .i64 o0, .int .i64 o1, .bool mk] 27)).alloc (.cells #[.slice (some ⟨db, 0, none⟩) 1 dc] 55) = W0 := ⟨_, rfl⟩
  have hx0 : Ext w W0 := by rw [← hW0]; exact (((Ext.refl w).alloc _).alloc _).alloc _
  have hb0 : W0.heap[w.heap.size]? = some (.cells #[.int .i64 fu, .int .i64 fe, .int .i64 r0, .int .i64 r1, .int .i64 h0, .int .i64 h1, .int .i64 t0, .int .i64 t1, .int .i64 b0, .int .i64 b1, .int .i64 u0, .int .i64 u1, .int .i64 m0, .int .i64 m1, .int .i64 hl, .int .i64 s0, .int .i64 s1] 25 (0, 0)) := by rw [← hW0]; exact alloc_heap (alloc_heap (heap_alloc_new w _) _) _
  have hc0 : W0.heap[w.heap.size + 1]? = some (.cells #[.int .i64 w0, .int .i64 w1, .int .i64 e0, .int .i64 e1, .int .i64 o0, .int .i64 o1, .bool mk] 27 (0, 0)) := by rw [← hW0]; exact alloc_heap (alloc_at _ _ _ (by simp)) _
  have hd0 : W0.heap[w.heap.size + 1 + 1]? = some (.cells #[.slice (some ⟨db, 0, none⟩) 1 dc] 55 (0, 0)) := by rw [← hW0]; exact alloc_at _ _ _ (by simp)
  have hso := fun (x : Int) (W : World) (h0 : 0 ≤ x) (h1 : x ≤ 1000000) (hW : Ext W0 W) => hbe x h0 h1 w.heap.size (w.heap.size + 1) (w.heap.size + 1 + 1) W (hx0.trans hW) (hW.heap hb0) (hW.heap hc0) (hW.heap hd0)
  have hgr := fun (W : World) (hW : Ext W0 W) => greatest_any K w.heap.size (w.heap.size + 1) (w.heap.size + 1 + 1) W hK2 (fun x V g0 g1 hV => hso x V g0 g1 (hW.trans hV))
  have hs0 := fun (W : World) (hW : Ext W0 W) => hso 0 W (by omega) (by omega) hW
  rw [show (!decide (K < 0)) = true by simp; omega] at hs0
  obtain ⟨y0, _⟩ := (Ext.refl W0).box hd0
  have ld := heap_lt hd0
  have Hgr := Lib.hid hgr
  have Hs0 := Lib.hid hs0
  have Hx0 := Lib.hid hx0
  have Hb0 := Lib.hid hb0
  have Hc0 := Lib.hid hc0
  have Hck := Lib.hid hck
  clear hgr hs0 hx0 hb0 hc0 hck
  clear hbe hso hK2 hh hd0
  go_enter Tryz.func13, Tryz.ntmps13
  go_upto_region 1 with fail
  clear hW0
  go_wp2_with (first
    | (refine wpList_load_row rfl 25 (.tmp 3) rfl w.heap.size rfl 25 _ (0, 0) _ Hb0.out Tryz.underlying25 rfl (by kernel_rfl) ?_)
    | (refine wpList_load_row rfl 27 (.tmp 4) rfl (w.heap.size + 1) rfl 27 _ (0, 0) _ Hc0.out Tryz.underlying27 rfl (by kernel_rfl) ?_)
    | (go_at_call 40; refine (Hck.out W0 Hx0.out).mono ?_; rintro e v1 ⟨rfl, hx1⟩)
    | (go_at_call 41; refine (Hs0.out _ hx1).mono ?_; rintro e v2 ⟨rfl, hx2⟩; have hy2 := hx1.trans hx2)
    | (go_at_call 43; refine (Hgr.out _ hy2).mono ?_; rintro e v3 ⟨rfl, hx3⟩))
  refine bodyPost_ret (results_tmp2 rfl _ _ _) rfl ?_
  exact ⟨rfl, Hx0.out.trans (hy2.trans hx3)⟩
end Go.Proofs.YtcoelhpmkhimpaaGreatDoor
