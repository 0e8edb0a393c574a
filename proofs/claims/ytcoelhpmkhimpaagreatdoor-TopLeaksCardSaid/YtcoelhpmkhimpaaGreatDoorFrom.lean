/- The rest of a function's code from a region on: so that a long walk is cut into declarations. -/
import Derived.Test.YtcoelhpmkhimpaaGreatDoorBase
namespace Go.Proofs.YtcoelhpmkhimpaaGreatDoor
def headIs (n : Nat) : Code → Bool
  | .region k _ _ => k == n
  | .seq a _ => headIs n a
  | _ => false
def fromRegion (n : Nat) : Code → Option Code
  | .seq a b => if headIs n a then some (.seq a b) else match fromRegion n a with
    | some c => some c
    | none => fromRegion n b
  | .loop c => fromRegion n c
  | .block _ c => fromRegion n c
  | .scope c => fromRegion n c
  | .cond _ a b => match fromRegion n a with
    | some c => some c
    | none => fromRegion n b
  | .region k o m => if k == n then some (.region k o m) else none
  | _ => none
noncomputable def restFrom (f : Func) (n : Nat) : Code := (f.body.bind (fromRegion n)).getD .skip
end Go.Proofs.YtcoelhpmkhimpaaGreatDoor
