/- Contracts of layer 3: when one leaves. -/
import Derived.Test.YtcoelhpmkhimpaaGreatDoorFirstC
import Derived.Laws.CopyOwn
namespace Go.Proofs.YtcoelhpmkhimpaaGreatDoor
open Go.RowKit
set_option linter.unusedVariables false
set_option linter.unusedSimpArgs false
def stepLv (o s n a out : Int) : Int := if max a o + n - 1 ≤ s then min (min out (max a o)) 100001 else out
theorem leaveBy_snoc (o s : Gate → Int) (n a : Int) : ∀ (l : List Gate) (g : Gate) (out : Int), leaveBy o s n a (l ++ [g]) out = stepLv (o g) (s g) n a (leaveBy o s n a l out)
  | [], g, out => rfl
  | x :: l, g, out => by
    show leaveBy o s n a (l ++ [g]) _ = _
    rw [leaveBy_snoc o s n a l g]
    rfl
theorem leaveBy_take (o s : Gate → Int) (n a : Int) {l : List Gate} {k : Nat} {g : Gate} (h : l[k]? = some g) (out : Int) : leaveBy o s n a (l.take (k + 1)) out = stepLv (o g) (s g) n a (leaveBy o s n a (l.take k) out) := by
  rw [List.take_add_one, h, Option.toList_some, leaveBy_snoc]
theorem leaveBy_nonneg (o s : Gate → Int) (n a : Int) (ha : 0 ≤ a) : ∀ (l : List Gate) (out : Int), 0 ≤ out → 0 ≤ leaveBy o s n a l out
  | [], out, h => h
  | g :: l, out, h => by
    unfold leaveBy
    refine leaveBy_nonneg o s n a ha l _ ?_
    split <;> omega
theorem stepLv_in {o s n a out T : Int} (hT : (if a < o then o else a) = T) (h : T + n - 1 ≤ s) : min (min out T) 100001 = stepLv o s n a out := by
  have : max a o = T := by rw [← hT]; split <;> omega
  unfold stepLv
  rw [this, if_pos h]
theorem stepLv_out {o s n a out T : Int} (hT : (if a < o then o else a) = T) (h : ¬T + n - 1 ≤ s) : out = stepLv o s n a out := by
  have : max a o = T := by rw [← hT]; split <;> omega
  unfold stepLv
  rw [this, if_neg h]
end Go.Proofs.YtcoelhpmkhimpaaGreatDoor
