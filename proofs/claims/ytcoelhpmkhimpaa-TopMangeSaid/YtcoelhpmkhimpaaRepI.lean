/- bits.Mul of 1 and a small number; slices.Repeat of one number. -/
import Derived.Test.YtcoelhpmkhimpaaScal
import Derived.Test.YtcoelhpmkhimpaaRowsIn
import Derived.Laws.CopyRow
namespace Go.Proofs.Ytcoelhpmkhimpaa
open Go.RowKit
set_option linter.unusedVariables false
set_option linter.unusedSimpArgs false
theorem and32 : ∀ n : Nat, n ≤ 30 → bits BinOp.and IntKind.u64 (n : Int) 4294967295 = (n : Int) := fun n h => by
  have key : (List.range 31).all (fun n => bits BinOp.and IntKind.u64 (n : Int) 4294967295 == (n : Int)) = true := by kernel_rfl
  have := List.all_eq_true.1 key n (List.mem_range.2 (by omega))
  simpa using this
theorem wrapN : ∀ n : Nat, n ≤ 30 → IntKind.u64.wrap (n : Int) = (n : Int) := fun n h => by
  have key : (List.range 31).all (fun n => IntKind.u64.wrap (n : Int) == (n : Int)) = true := by kernel_rfl
  have := List.all_eq_true.1 key n (List.mem_range.2 (by omega))
  simpa using this
theorem mul64I (n : Nat) (hn : n ≤ 30) (w : World) : Calls Try.prog 138 #[.int .u64 1, .int .u64 (n : Int)] w fun e w' => e = .returned (.tuple #[.int .u64 0, .int .u64 (n : Int)]) ∧ w' = w := by
  have b1 : bits BinOp.and IntKind.u64 1 4294967295 = 1 := by kernel_rfl
  have b2 := and32 n hn
  have b3 : bits BinOp.and IntKind.u64 0 4294967295 = 0 := by kernel_rfl
  go_enter Try.func138, Try.ntmps138
  have d1 : (n : Int) / 4294967296 = 0 := by omega
  have d2 : IntKind.u64.wrap 0 = 0 := by kernel_rfl
  have d3 : IntKind.u64.wrap (n : Int) = (n : Int) := wrapN n hn
  go_wp2_with fail
  go_ret2
  simp [d1, d2, d3]
theorem mulI (n : Nat) (hn : n ≤ 30) (w : World) : Calls Try.prog 98 #[.int .u64 1, .int .u64 (n : Int)] w fun e w' => e = .returned (.tuple #[.int .u64 0, .int .u64 (n : Int)]) ∧ w' = w := by
  go_enter Try.func98, Try.ntmps98
  go_wp2_with (go_at_call 138; refine (mul64I n hn _).mono ?_; rintro e w1 ⟨rfl, rfl⟩)
  go_ret2
  exact ⟨rfl, rfl⟩
end Go.Proofs.Ytcoelhpmkhimpaa
