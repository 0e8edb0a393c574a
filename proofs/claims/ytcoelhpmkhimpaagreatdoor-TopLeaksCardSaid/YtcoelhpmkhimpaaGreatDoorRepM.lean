/- Contract: bits.Mul of 1 and 60. -/
import Derived.Test.YtcoelhpmkhimpaaGreatDoorScal
namespace Go.Proofs.YtcoelhpmkhimpaaGreatDoor
open Go.RowKit
set_option linter.unusedVariables false
set_option linter.unusedSimpArgs false
theorem mul64_any (w : World) : Calls Tryz.prog 145 #[.int .u64 1, .int .u64 60] w fun e w' => e = .returned (.tuple #[.int .u64 0, .int .u64 60]) ∧ w' = w := by
  have b1 : bits BinOp.and IntKind.u64 1 4294967295 = 1 := by kernel_rfl
  have b2 : bits BinOp.and IntKind.u64 60 4294967295 = 60 := by kernel_rfl
  have b3 : bits BinOp.and IntKind.u64 0 4294967295 = 0 := by kernel_rfl
  go_enter Tryz.func145, Tryz.ntmps145
  go_wp2_with fail
  go_ret2
  exact ⟨rfl, rfl⟩
theorem mul_any (w : World) : Calls Tryz.prog 142 #[.int .u64 1, .int .u64 60] w fun e w' => e = .returned (.tuple #[.int .u64 0, .int .u64 60]) ∧ w' = w := by
  go_enter Tryz.func142, Tryz.ntmps142
  go_wp2_with (go_at_call 145; refine (mul64_any _).mono ?_; rintro e w1 ⟨rfl, rfl⟩)
  go_ret2
  exact ⟨rfl, rfl⟩
end Go.Proofs.YtcoelhpmkhimpaaGreatDoor
