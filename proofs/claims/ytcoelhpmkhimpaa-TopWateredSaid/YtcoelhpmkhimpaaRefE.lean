/- Contracts of the specification's tests of layer 3: within, spanned. -/
import Derived.Test.YtcoelhpmkhimpaaRefC
import Derived.Test.YtcoelhpmkhimpaaLandC
namespace Go.Proofs.Ytcoelhpmkhimpaa
open Go.RowKit
set_option linter.unusedVariables false
set_option linter.unusedSimpArgs false
theorem within3_any (n lo hi : Int) (r : Bool) (hr : inB n lo hi = r) (w : World) : Calls Try.prog 88 #[.int .i64 n, .int .i64 lo, .int .i64 hi] w fun e w' => e = .returned (.bool r) ∧ w' = w := by
  subst hr
  unfold inB
  obtain ⟨A, hA⟩ : ∃ A, decide (lo ≤ n) = A := ⟨_, rfl⟩
  obtain ⟨B, hB⟩ : ∃ B, decide (n ≤ hi) = B := ⟨_, rfl⟩
  rw [hA, hB]
  cases A <;> cases B
  all_goals
    go_enter Try.func88, Try.ntmps88
    go_wp2_with fail
    go_ret
    exact ⟨rfl, rfl⟩
theorem spanned3_any (a b lo hi : Int) (r : Bool) (hr : spanOk ⟨a, b⟩ lo hi = r) (w : World) : Calls Try.prog 131 #[.agg #[.int .i64 a, .int .i64 b], .int .i64 lo, .int .i64 hi] w fun e w' => e = .returned (.bool r) ∧ Ext w w' := by
  have hs : spanOk ⟨a, b⟩ lo hi = (inB a lo b && decide (b ≤ hi)) := by unfold spanOk inB; simp only
  rw [hs] at hr
  subst hr
  clear hs
  obtain ⟨P, hP⟩ : ∃ P, inB a lo b = P := ⟨_, rfl⟩
  rw [hP]
  have HP := Lib.hid hP
  clear hP
  cases P
  · go_enter Try.func131, Try.ntmps131
    go_wp2_with (go_at_call 88; refine (within3_any _ _ _ _ HP.out _).mono ?_; rintro e w1 ⟨rfl, rfl⟩)
    go_ret
    exact ⟨rfl, (Ext.refl _).alloc _⟩
  · by_cases h2 : b ≤ hi
    · have b2 : decide (b ≤ hi) = true := decide_eq_true h2
      go_enter Try.func131, Try.ntmps131
      go_wp2_with (go_at_call 88; refine (within3_any _ _ _ _ HP.out _).mono ?_; rintro e w1 ⟨rfl, rfl⟩)
      go_ret
      exact ⟨ret_bool (by rw [b2]; rfl), (Ext.refl _).alloc _⟩
    · have b2 : decide (b ≤ hi) = false := decide_eq_false h2
      go_enter Try.func131, Try.ntmps131
      go_wp2_with (go_at_call 88; refine (within3_any _ _ _ _ HP.out _).mono ?_; rintro e w1 ⟨rfl, rfl⟩)
      go_ret
      exact ⟨ret_bool (by rw [b2]; rfl), (Ext.refl _).alloc _⟩
end Go.Proofs.Ytcoelhpmkhimpaa
