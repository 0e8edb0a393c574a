/- Contract: bits.Mul of 1 and 60. -/
import Derived.Test.YtcoelhpmkhimpaaScal
namespace Go.Proofs.Ytcoelhpmkhimpaa
open Go.RowKit
set_option linter.unusedVariables false
set_option linter.unusedSimpArgs false
theorem mul64_any (w : World) : Calls Try.prog 138 #[.int .u64 1, .int .u64 60] w fun e w' => e = .returned (.tuple #[.int .u64 0, .int .u64 60]) ∧ w' = w := by
  have b1 : bits BinOp.and IntKind.u64 1 4294967295 = 1 := by kernel_rfl
  have b2 : bits BinOp.and IntKind.u64 60 4294967295 = 60 := by kernel_rfl
  have b3 : bits BinOp.and IntKind.u64 0 4294967295 = 0 := by kernel_rfl
  go_enter Try.func138, Try.ntmps138
  go_wp2_with fail
  go_ret2
  exact ⟨rfl, rfl⟩
theorem mul_any (w : World) : Calls Try.prog 98 #[.int .u64 1, .int .u64 60] w fun e w' => e = .returned (.tuple #[.int .u64 0, .int .u64 60]) ∧ w' = w := by
  go_enter Try.func98, Try.ntmps98
  go_wp2_with (go_at_call 138; refine (mul64_any _).mono ?_; rintro e w1 ⟨rfl, rfl⟩)
  go_ret2
  exact ⟨rfl, rfl⟩
end Go.Proofs.Ytcoelhpmkhimpaa
