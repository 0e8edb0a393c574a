/- The rest of a function's code from a loop on, named by the first region in it. -/
import Derived.Test.YtcoelhpmkhimpaaGreatDoorFrom
namespace Go.Proofs.YtcoelhpmkhimpaaGreatDoor
def headIsB (n : Nat) : Code → Bool
  | .region k _ _ => k == n
  | .seq a _ => headIsB n a
  | .block _ c => headIsB n c
  | .loop c => headIsB n c
  | .scope c => headIsB n c
  | _ => false
def fromLoop (n : Nat) : Code → Option Code
  | .seq a b => if headIsB n a then some (.seq a b) else match fromLoop n a with
    | some c => some c
    | none => fromLoop n b
  | .loop c => if headIsB n c then some (.loop c) else fromLoop n c
  | .block k c => if headIsB n c then some (.block k c) else fromLoop n c
  | .scope c => if headIsB n c then some (.scope c) else fromLoop n c
  | .cond _ a b => match fromLoop n a with
    | some c => some c
    | none => fromLoop n b
  | .region k o m => if k == n then some (.region k o m) else none
  | _ => none
noncomputable def restLoop (f : Func) (n : Nat) : Code := (f.body.bind (fromLoop n)).getD .skip
end Go.Proofs.YtcoelhpmkhimpaaGreatDoor
