/- Contracts of layer 3: the first of some days. -/
import Derived.Test.YtcoelhpmkhimpaaGreatDoorLegC
import Derived.ArgAppend
namespace Go.Proofs.YtcoelhpmkhimpaaGreatDoor
open Go.RowKit
set_option linter.unusedVariables false
set_option linter.unusedSimpArgs false
/-- the least of the first k and one -/
def minTo (l : List Int) (k : Nat) (x : Int) : Int := (l.take k).foldl min x
theorem minTo_succ {l : List Int} {k : Nat} {y : Int} (h : l[k]? = some y) (x : Int) : minTo l (k + 1) x = min (minTo l k x) y := by
  unfold minTo
  rw [List.take_add_one, h, Option.toList_some, List.foldl_append]
  rfl
theorem if_min (a b : Int) : (if b < a then b else a) = min a b := by split <;> omega
theorem ext_of_grown {w w' : World} (h : w.grownBy w' none) : Ext w w' := by
  obtain ⟨h1, h2, h3, h4, h5⟩ := h
  exact ⟨h1, h2, h3, h4, fun k hk => h5 k hk (by simp)⟩
theorem info3 : (Tryz.prog.info? 3).map (fun i => (i.zero, i.size, i.bytes)) = some (some (.int .i64 0), 1, 8) := by kernel_rfl
theorem intRows_flat (k : IntKind) (l : List Int) : (intRows k l).flatten = l.map (Value.int k) := by
  induction l with
  | nil => rfl
  | cons x r ih =>
    show (intRows k (x :: r)).flatten = _
    simp only [intRows, List.map_cons, List.flatten_cons] at *
    rw [ih]
    rfl
theorem owns_of_grow {w : World} {B e n : Nat} {k : IntKind} {v : Value} {l m : List Int} (h : w.ownsRow B e 1 v n (l.map (Value.int k) ++ m.map (Value.int k))) (hn : n = (l ++ m).length) : Owns w B e 1 v (intRows k (l ++ m)) := by
  subst hn
  refine ⟨?_, fun r hr => (intRows_row k _ r hr).1⟩
  rw [intRows_flat, List.map_append]
  simpa [intRows] using h
theorem one_cell : ∀ u ∈ [Value.int .i64 100001], u.oneCell' = true := by intro u hu; simp at hu; subst hu; rfl
theorem grown_ints {W w w' : World} {e n B : Nat} {v : Value} {l m : List Int} (hx : Ext W w) (ho : w'.ownsRow B e 1 v n (l.map (Value.int .i64) ++ m.map (Value.int .i64))) (hg : w.grownBy w' none) (hn : (l ++ m).length = n) :
    ∃ a c, v = .slice a n c ∧ Ext W w' ∧ IntsAt .i64 w' a n (l ++ m) := by
  obtain ⟨a, c, e, -, -, -, h⟩ := ints_of_owns (owns_of_grow ho hn.symm)
  rw [hn] at e h
  exact ⟨a, c, e, hx.trans (ext_of_grown hg), h⟩
end Go.Proofs.YtcoelhpmkhimpaaGreatDoor
