/- The rest of a function's code from a region on: so that a long walk is cut into declarations. -/
import Derived.Test.YtkbhmajcddmhnaaVGr1
namespace Go.Proofs.Ytkbhmajcddmhnaa
def headIs (n : Nat) : Code → Bool
  | .region k _ _ => k == n
  | .seq a _ => headIs n a
  | _ => false
def fromRegion (n : Nat) : Code → Option Code
  | .seq a b => if headIs n a then some (.seq a b) else match fromRegion n a with
    | some c => some c
    | none => fromRegion n b
  | .loop c => fromRegion n c
  | .block _ c => fromRegion n c
  | .scope c => fromRegion n c
  | .cond _ a b => match fromRegion n a with
    | some c => some c
    | none => fromRegion n b
  | .region k o m => if k == n then some (.region k o m) else none
  | _ => none
noncomputable def restFrom (f : Func) (n : Nat) : Code := (f.body.bind (fromRegion n)).getD .skip
end Go.Proofs.Ytkbhmajcddmhnaa

/- The rest of a function's code from a loop on, named by the first region in it. -/
namespace Go.Proofs.Ytkbhmajcddmhnaa
def headIsB (n : Nat) : Code → Bool
  | .region k _ _ => k == n
  | .seq a _ => headIsB n a
  | .block _ c => headIsB n c
  | .loop c => headIsB n c
  | .scope c => headIsB n c
  | _ => false
def fromLoop (n : Nat) : Code → Option Code
  | .seq a b => if headIsB n a then some (.seq a b) else match fromLoop n a with
    | some c => some c
    | none => fromLoop n b
  | .loop c => if headIsB n c then some (.loop c) else fromLoop n c
  | .block k c => if headIsB n c then some (.block k c) else fromLoop n c
  | .scope c => if headIsB n c then some (.scope c) else fromLoop n c
  | .cond _ a b => match fromLoop n a with
    | some c => some c
    | none => fromLoop n b
  | .region k o m => if k == n then some (.region k o m) else none
  | _ => none
noncomputable def restLoop (f : Func) (n : Nat) : Code := (f.body.bind (fromLoop n)).getD .skip
end Go.Proofs.Ytkbhmajcddmhnaa
