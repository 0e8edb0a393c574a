/-
  No cell of these rows narrows 'for every input' (looked for: loops, veiled, ifaces, maps, wideKeys, modest, calm, conditions, laid).
  DERIVED. THE GIVEN ROWS OF THIS SEAT. 5 by the template 'for every input the law returns true; each argument reads behind the call as it read before'; 0 by the template 'total and deterministic' (their statements: YtcoelhpmkhimpaaTotals.lean).
  GIVEN WITH THE SEED: the statements are not yours to turn. If you find one false, say at which input.
  Laid BY PROGRAM, IN A SANDBOX (cutbox-rows.mjs): the forced cells as the released guide's own fill.sh prints them over the translation 39c5bde187c58606… (all of the seat's roots in one cut). By AI agents, Wed Nov 11 2026. No macro, syntax, notation, axiom, sorry.
-/
import Derived.Test.YtcoelhpmkhimpaaChecked
import GoSem.Claim
import GoSem.ClaimJoined
import GoSem.ClaimMapViews
import Derived.JoinedTies
import Derived.KernelRfl
namespace Go.Proofs.Ytcoelhpmkhimpaa
/- THE CELL 'sum', in the pinned program and in every row, IS THE sha256 OF THE DUMP (.gsa) THAT YtcoelhpmkhimpaaProg.lean LOADS. Nothing in Lean hashes anything: it is a label: what it is worth is what the hold of that sum in a sandbox is worth. -/
noncomputable def Try.pinned : Pinned := { name := "ytcoelhpmkhimpaa", sum := "39c5bde187c586060ca589c69149184deaf889d7c313cf79c5876fad4a2b8b40", checked := Try.checked }
namespace Rows
def none {H : Type} : Left H := { results := [], args := [] }

/-- 'azalaitop.TopStage': WHATEVER THE INPUT: true; the input reads as it did. -/
def topStageSpec : ChangeSpec := { name := "topStage", fn := fun _ => fun
  | [d1, d2, d3, d4, d5, d6, d7, d8] => { results := [.lit (.bool true)], args := [d1, d2, d3, d4, d5, d6, d7, d8] }
  | _ => none }
def topStageRow : OpenClaim := { program := "ytcoelhpmkhimpaa", sum := "39c5bde187c586060ca589c69149184deaf889d7c313cf79c5876fad4a2b8b40", func := "azalai/azalaitop.TopStage", spec := "topStage", unfollowed := true, recurses := true, apart := false }
def TopStageSaid : Prop := topStageRow.holds Try.pinned (OpenSpec.ofChange topStageSpec)

/-- ITS FALSE NEIGHBOUR: 'it returns false'. Refute it at one input. -/
def topStageWrong : ChangeSpec := { name := "topStage", fn := fun _ => fun
  | [d1, d2, d3, d4, d5, d6, d7, d8] => { results := [.lit (.bool false)], args := [d1, d2, d3, d4, d5, d6, d7, d8] }
  | _ => none }
def TopStageWrongFalsely : Prop := topStageRow.holds Try.pinned (OpenSpec.ofChange topStageWrong)

/-- 'azalaitop.TopLater': WHATEVER THE INPUT: true; the input reads as it did. -/
def topLaterSpec : ChangeSpec := { name := "topLater", fn := fun _ => fun
  | [d1, d2, d3, d4, d5, d6, d7, d8] => { results := [.lit (.bool true)], args := [d1, d2, d3, d4, d5, d6, d7, d8] }
  | _ => none }
def topLaterRow : OpenClaim := { program := "ytcoelhpmkhimpaa", sum := "39c5bde187c586060ca589c69149184deaf889d7c313cf79c5876fad4a2b8b40", func := "azalai/azalaitop.TopLater", spec := "topLater", unfollowed := true, recurses := true, apart := false }
def TopLaterSaid : Prop := topLaterRow.holds Try.pinned (OpenSpec.ofChange topLaterSpec)

/-- ITS FALSE NEIGHBOUR: 'it returns false'. Refute it at one input. -/
def topLaterWrong : ChangeSpec := { name := "topLater", fn := fun _ => fun
  | [d1, d2, d3, d4, d5, d6, d7, d8] => { results := [.lit (.bool false)], args := [d1, d2, d3, d4, d5, d6, d7, d8] }
  | _ => none }
def TopLaterWrongFalsely : Prop := topLaterRow.holds Try.pinned (OpenSpec.ofChange topLaterWrong)

/-- 'azalaitop.TopMange': WHATEVER THE INPUT: true; the input reads as it did. -/
def topMangeSpec : ChangeSpec := { name := "topMange", fn := fun _ => fun
  | [d1, d2, d3] => { results := [.lit (.bool true)], args := [d1, d2, d3] }
  | _ => none }
def topMangeRow : OpenClaim := { program := "ytcoelhpmkhimpaa", sum := "39c5bde187c586060ca589c69149184deaf889d7c313cf79c5876fad4a2b8b40", func := "azalai/azalaitop.TopMange", spec := "topMange", unfollowed := true, recurses := true, apart := false }
def TopMangeSaid : Prop := topMangeRow.holds Try.pinned (OpenSpec.ofChange topMangeSpec)

/-- ITS FALSE NEIGHBOUR: 'it returns false'. Refute it at one input. -/
def topMangeWrong : ChangeSpec := { name := "topMange", fn := fun _ => fun
  | [d1, d2, d3] => { results := [.lit (.bool false)], args := [d1, d2, d3] }
  | _ => none }
def TopMangeWrongFalsely : Prop := topMangeRow.holds Try.pinned (OpenSpec.ofChange topMangeWrong)

/-- 'azalaitop.TopThirsty': WHATEVER THE INPUT: true; the input reads as it did. -/
def topThirstySpec : ChangeSpec := { name := "topThirsty", fn := fun _ => fun
  | [d1, d2, d3, d4, d5, d6, d7, d8, d9] => { results := [.lit (.bool true)], args := [d1, d2, d3, d4, d5, d6, d7, d8, d9] }
  | _ => none }
def topThirstyRow : OpenClaim := { program := "ytcoelhpmkhimpaa", sum := "39c5bde187c586060ca589c69149184deaf889d7c313cf79c5876fad4a2b8b40", func := "azalai/azalaitop.TopThirsty", spec := "topThirsty", unfollowed := true, recurses := true, apart := false }
def TopThirstySaid : Prop := topThirstyRow.holds Try.pinned (OpenSpec.ofChange topThirstySpec)

/-- ITS FALSE NEIGHBOUR: 'it returns false'. Refute it at one input. -/
def topThirstyWrong : ChangeSpec := { name := "topThirsty", fn := fun _ => fun
  | [d1, d2, d3, d4, d5, d6, d7, d8, d9] => { results := [.lit (.bool false)], args := [d1, d2, d3, d4, d5, d6, d7, d8, d9] }
  | _ => none }
def TopThirstyWrongFalsely : Prop := topThirstyRow.holds Try.pinned (OpenSpec.ofChange topThirstyWrong)

/-- 'azalaitop.TopWatered': WHATEVER THE INPUT: true; the input reads as it did. -/
def topWateredSpec : ChangeSpec := { name := "topWatered", fn := fun _ => fun
  | [d1, d2, d3, d4, d5, d6, d7] => { results := [.lit (.bool true)], args := [d1, d2, d3, d4, d5, d6, d7] }
  | _ => none }
def topWateredRow : OpenClaim := { program := "ytcoelhpmkhimpaa", sum := "39c5bde187c586060ca589c69149184deaf889d7c313cf79c5876fad4a2b8b40", func := "azalai/azalaitop.TopWatered", spec := "topWatered", unfollowed := true, recurses := true, apart := false }
def TopWateredSaid : Prop := topWateredRow.holds Try.pinned (OpenSpec.ofChange topWateredSpec)

/-- ITS FALSE NEIGHBOUR: 'it returns false'. Refute it at one input. -/
def topWateredWrong : ChangeSpec := { name := "topWatered", fn := fun _ => fun
  | [d1, d2, d3, d4, d5, d6, d7] => { results := [.lit (.bool false)], args := [d1, d2, d3, d4, d5, d6, d7] }
  | _ => none }
def TopWateredWrongFalsely : Prop := topWateredRow.holds Try.pinned (OpenSpec.ofChange topWateredWrong)

/- THE SECOND FORM. 'bulk': how many values and letters a reading holds, each counted each time it is reached (what is shared counts as often as it is met; a slice's spare places count too). A statement '..UptoSaid' is the law's where the arguments, and the package variables that the reading takes, are together of bulk at most 1048576: NARROWER than '..Said'. Prove '..Said' where nothing that the law and all that it calls make is longer than what came in: it says more and counts as full. Else prove '..UptoSaid'. A law counts once. -/
mutual
def uptoBulk {H : Type} : DataW H → Nat
  | .lit (.string bytes) => bytes.length + 1
  | .lit _ => 1
  | .nil => 1
  | .ptr d => uptoBulk d + 1
  | .slice elems spare => uptoBulkAll elems + uptoBulkAll spare + 1
  | .agg parts => uptoBulkAll parts + 1
  | .iface _ d => uptoBulk d + 1
  | .map entries => uptoBulkEntries entries + 1
  | .held _ => 1
def uptoBulkAll {H : Type} : List (DataW H) → Nat
  | [] => 0
  | d :: r => uptoBulk d + uptoBulkAll r
def uptoBulkEntries {H : Type} : List (Lit × DataW H) → Nat
  | [] => 0
  | x :: r => uptoBulkEntry x + uptoBulkEntries r
def uptoBulkEntry {H : Type} : Lit × DataW H → Nat
  | (.string bytes, d) => bytes.length + uptoBulk d + 1
  | (_, d) => uptoBulk d + 1
 end
def uptoSmall : (H : Type) → List (DataW H) → Bool := fun _ ds => decide (uptoBulkAll ds ≤ 1048576)
def OpenSpec.upto (s : _root_.Go.ChangeSpec) : _root_.Go.OpenSpec := { _root_.Go.OpenSpec.ofChange s with cond := some uptoSmall }

/-- 'azalaitop.TopStage', WHERE WHAT IT READS IS OF BULK AT MOST 1048576: true; the input reads as it did. -/
def topStageUptoRow : OpenClaim := { program := "ytcoelhpmkhimpaa", sum := "39c5bde187c586060ca589c69149184deaf889d7c313cf79c5876fad4a2b8b40", func := "azalai/azalaitop.TopStage", spec := "topStage", unfollowed := true, recurses := true, apart := false, narrowed := true }
def TopStageUptoSaid : Prop := topStageUptoRow.holds Try.pinned (OpenSpec.upto topStageSpec)

/-- 'azalaitop.TopLater', WHERE WHAT IT READS IS OF BULK AT MOST 1048576: true; the input reads as it did. -/
def topLaterUptoRow : OpenClaim := { program := "ytcoelhpmkhimpaa", sum := "39c5bde187c586060ca589c69149184deaf889d7c313cf79c5876fad4a2b8b40", func := "azalai/azalaitop.TopLater", spec := "topLater", unfollowed := true, recurses := true, apart := false, narrowed := true }
def TopLaterUptoSaid : Prop := topLaterUptoRow.holds Try.pinned (OpenSpec.upto topLaterSpec)

/-- 'azalaitop.TopMange', WHERE WHAT IT READS IS OF BULK AT MOST 1048576: true; the input reads as it did. -/
def topMangeUptoRow : OpenClaim := { program := "ytcoelhpmkhimpaa", sum := "39c5bde187c586060ca589c69149184deaf889d7c313cf79c5876fad4a2b8b40", func := "azalai/azalaitop.TopMange", spec := "topMange", unfollowed := true, recurses := true, apart := false, narrowed := true }
def TopMangeUptoSaid : Prop := topMangeUptoRow.holds Try.pinned (OpenSpec.upto topMangeSpec)

/-- 'azalaitop.TopThirsty', WHERE WHAT IT READS IS OF BULK AT MOST 1048576: true; the input reads as it did. -/
def topThirstyUptoRow : OpenClaim := { program := "ytcoelhpmkhimpaa", sum := "39c5bde187c586060ca589c69149184deaf889d7c313cf79c5876fad4a2b8b40", func := "azalai/azalaitop.TopThirsty", spec := "topThirsty", unfollowed := true, recurses := true, apart := false, narrowed := true }
def TopThirstyUptoSaid : Prop := topThirstyUptoRow.holds Try.pinned (OpenSpec.upto topThirstySpec)

/-- 'azalaitop.TopWatered', WHERE WHAT IT READS IS OF BULK AT MOST 1048576: true; the input reads as it did. -/
def topWateredUptoRow : OpenClaim := { program := "ytcoelhpmkhimpaa", sum := "39c5bde187c586060ca589c69149184deaf889d7c313cf79c5876fad4a2b8b40", func := "azalai/azalaitop.TopWatered", spec := "topWatered", unfollowed := true, recurses := true, apart := false, narrowed := true }
def TopWateredUptoSaid : Prop := topWateredUptoRow.holds Try.pinned (OpenSpec.upto topWateredSpec)

end Rows
end Go.Proofs.Ytcoelhpmkhimpaa
