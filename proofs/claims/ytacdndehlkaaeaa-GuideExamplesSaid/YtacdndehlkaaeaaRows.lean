/-
  No cell of these rows narrows 'for every input' (looked for: loops, veiled, ifaces, maps, wideKeys, modest, calm, conditions, laid).
  DERIVED. THE GIVEN ROWS OF THIS SEAT. 11 by the template 'for every input the law returns true; each argument reads behind the call as it read before'; 0 by the template 'total and deterministic' (their statements: YtacdndehlkaaeaaTotals.lean).
  GIVEN WITH THE SEED: the statements are not yours to turn. If you find one false, say at which input.
  Laid BY PROGRAM, IN A SANDBOX (cutbox-rows.mjs): the forced cells as the released guide's own fill.sh prints them over the translation acf4e9d286150ae5… (all of the seat's roots in one cut). By AI agents, Wed Nov 11 2026. No macro, syntax, notation, axiom, sorry.
-/
import Derived.Test.YtacdndehlkaaeaaChecked
import GoSem.Claim
import GoSem.ClaimJoined
import GoSem.ClaimMapViews
import Derived.JoinedTies
import Derived.KernelRfl
namespace Go.Proofs.Ytacdndehlkaaeaa
/- THE CELL 'sum', in the pinned program and in every row, IS THE sha256 OF THE DUMP (.gsa) THAT YtacdndehlkaaeaaProg.lean LOADS. Nothing in Lean hashes anything: it is a label: what it is worth is what the hold of that sum in a sandbox is worth. -/
noncomputable def Try.pinned : Pinned := { name := "ytacdndehlkaaeaa", sum := "acf4e9d286150ae5e34151cb2403c79a86e8ceef1bd06ee2ec657324b6cbedd4", checked := Try.checked }
namespace Rows
def none {H : Type} : Left H := { results := [], args := [] }

/-- 'azalailaw04.GuideLooks': WHATEVER THE INPUT: true; the input reads as it did. -/
def guideLooksSpec : ChangeSpec := { name := "guideLooks", fn := fun _ => fun
  | [d1, d2, d3] => { results := [.lit (.bool true)], args := [d1, d2, d3] }
  | _ => none }
def guideLooksRow : OpenClaim := { program := "ytacdndehlkaaeaa", sum := "acf4e9d286150ae5e34151cb2403c79a86e8ceef1bd06ee2ec657324b6cbedd4", func := "azalai/azalailaw04.GuideLooks", spec := "guideLooks", unfollowed := true, recurses := true, apart := false }
def GuideLooksSaid : Prop := guideLooksRow.holds Try.pinned (OpenSpec.ofChange guideLooksSpec)

/-- ITS FALSE NEIGHBOUR: 'it returns false'. Refute it at one input. -/
def guideLooksWrong : ChangeSpec := { name := "guideLooks", fn := fun _ => fun
  | [d1, d2, d3] => { results := [.lit (.bool false)], args := [d1, d2, d3] }
  | _ => none }
def GuideLooksWrongFalsely : Prop := guideLooksRow.holds Try.pinned (OpenSpec.ofChange guideLooksWrong)

/-- 'azalailaw04.GuideAreas': WHATEVER THE INPUT: true; the input reads as it did. -/
def guideAreasSpec : ChangeSpec := { name := "guideAreas", fn := fun _ => fun
  | [d1, d2, d3, d4, d5, d6] => { results := [.lit (.bool true)], args := [d1, d2, d3, d4, d5, d6] }
  | _ => none }
def guideAreasRow : OpenClaim := { program := "ytacdndehlkaaeaa", sum := "acf4e9d286150ae5e34151cb2403c79a86e8ceef1bd06ee2ec657324b6cbedd4", func := "azalai/azalailaw04.GuideAreas", spec := "guideAreas", unfollowed := true, recurses := true, apart := false }
def GuideAreasSaid : Prop := guideAreasRow.holds Try.pinned (OpenSpec.ofChange guideAreasSpec)

/-- ITS FALSE NEIGHBOUR: 'it returns false'. Refute it at one input. -/
def guideAreasWrong : ChangeSpec := { name := "guideAreas", fn := fun _ => fun
  | [d1, d2, d3, d4, d5, d6] => { results := [.lit (.bool false)], args := [d1, d2, d3, d4, d5, d6] }
  | _ => none }
def GuideAreasWrongFalsely : Prop := guideAreasRow.holds Try.pinned (OpenSpec.ofChange guideAreasWrong)

/-- 'azalailaw04.GuideTreks': WHATEVER THE INPUT: true; the input reads as it did. -/
def guideTreksSpec : ChangeSpec := { name := "guideTreks", fn := fun _ => fun
  | [d1, d2, d3, d4, d5, d6] => { results := [.lit (.bool true)], args := [d1, d2, d3, d4, d5, d6] }
  | _ => none }
def guideTreksRow : OpenClaim := { program := "ytacdndehlkaaeaa", sum := "acf4e9d286150ae5e34151cb2403c79a86e8ceef1bd06ee2ec657324b6cbedd4", func := "azalai/azalailaw04.GuideTreks", spec := "guideTreks", unfollowed := true, recurses := true, apart := false }
def GuideTreksSaid : Prop := guideTreksRow.holds Try.pinned (OpenSpec.ofChange guideTreksSpec)

/-- ITS FALSE NEIGHBOUR: 'it returns false'. Refute it at one input. -/
def guideTreksWrong : ChangeSpec := { name := "guideTreks", fn := fun _ => fun
  | [d1, d2, d3, d4, d5, d6] => { results := [.lit (.bool false)], args := [d1, d2, d3, d4, d5, d6] }
  | _ => none }
def GuideTreksWrongFalsely : Prop := guideTreksRow.holds Try.pinned (OpenSpec.ofChange guideTreksWrong)

/-- 'azalailaw04.GuideExamples': WHATEVER THE INPUT: true; the input reads as it did. -/
def guideExamplesSpec : ChangeSpec := { name := "guideExamples", fn := fun _ => fun
  | [] => { results := [.lit (.bool true)], args := [] }
  | _ => none }
def guideExamplesRow : OpenClaim := { program := "ytacdndehlkaaeaa", sum := "acf4e9d286150ae5e34151cb2403c79a86e8ceef1bd06ee2ec657324b6cbedd4", func := "azalai/azalailaw04.GuideExamples", spec := "guideExamples", unfollowed := true, recurses := true, apart := false }
def GuideExamplesSaid : Prop := guideExamplesRow.holds Try.pinned (OpenSpec.ofChange guideExamplesSpec)

/-- ITS FALSE NEIGHBOUR: 'it returns false'. Refute it at one input. -/
def guideExamplesWrong : ChangeSpec := { name := "guideExamples", fn := fun _ => fun
  | [] => { results := [.lit (.bool false)], args := [] }
  | _ => none }
def GuideExamplesWrongFalsely : Prop := guideExamplesRow.holds Try.pinned (OpenSpec.ofChange guideExamplesWrong)

/-- 'azalailaw04.GuideTrue': WHATEVER THE INPUT: true; the input reads as it did. -/
def guideTrueSpec : ChangeSpec := { name := "guideTrue", fn := fun _ => fun
  | [d1, d2, d3, d4, d5, d6, d7] => { results := [.lit (.bool true)], args := [d1, d2, d3, d4, d5, d6, d7] }
  | _ => none }
def guideTrueRow : OpenClaim := { program := "ytacdndehlkaaeaa", sum := "acf4e9d286150ae5e34151cb2403c79a86e8ceef1bd06ee2ec657324b6cbedd4", func := "azalai/azalailaw04.GuideTrue", spec := "guideTrue", unfollowed := true, recurses := true, apart := false }
def GuideTrueSaid : Prop := guideTrueRow.holds Try.pinned (OpenSpec.ofChange guideTrueSpec)

/-- ITS FALSE NEIGHBOUR: 'it returns false'. Refute it at one input. -/
def guideTrueWrong : ChangeSpec := { name := "guideTrue", fn := fun _ => fun
  | [d1, d2, d3, d4, d5, d6, d7] => { results := [.lit (.bool false)], args := [d1, d2, d3, d4, d5, d6, d7] }
  | _ => none }
def GuideTrueWrongFalsely : Prop := guideTrueRow.holds Try.pinned (OpenSpec.ofChange guideTrueWrong)

/-- 'azalailaw04.GuideSharp': WHATEVER THE INPUT: true; the input reads as it did. -/
def guideSharpSpec : ChangeSpec := { name := "guideSharp", fn := fun _ => fun
  | [d] => { results := [.lit (.bool true)], args := [d] }
  | _ => none }
def guideSharpRow : OpenClaim := { program := "ytacdndehlkaaeaa", sum := "acf4e9d286150ae5e34151cb2403c79a86e8ceef1bd06ee2ec657324b6cbedd4", func := "azalai/azalailaw04.GuideSharp", spec := "guideSharp", unfollowed := true, recurses := true, apart := false }
def GuideSharpSaid : Prop := guideSharpRow.holds Try.pinned (OpenSpec.ofChange guideSharpSpec)

/-- ITS FALSE NEIGHBOUR: 'it returns false'. Refute it at one input. -/
def guideSharpWrong : ChangeSpec := { name := "guideSharp", fn := fun _ => fun
  | [d] => { results := [.lit (.bool false)], args := [d] }
  | _ => none }
def GuideSharpWrongFalsely : Prop := guideSharpRow.holds Try.pinned (OpenSpec.ofChange guideSharpWrong)

/-- 'azalailaw04.GuideOrder': WHATEVER THE INPUT: true; the input reads as it did. -/
def guideOrderSpec : ChangeSpec := { name := "guideOrder", fn := fun _ => fun
  | [d1, d2, d3] => { results := [.lit (.bool true)], args := [d1, d2, d3] }
  | _ => none }
def guideOrderRow : OpenClaim := { program := "ytacdndehlkaaeaa", sum := "acf4e9d286150ae5e34151cb2403c79a86e8ceef1bd06ee2ec657324b6cbedd4", func := "azalai/azalailaw04.GuideOrder", spec := "guideOrder", unfollowed := true, recurses := true, apart := false }
def GuideOrderSaid : Prop := guideOrderRow.holds Try.pinned (OpenSpec.ofChange guideOrderSpec)

/-- ITS FALSE NEIGHBOUR: 'it returns false'. Refute it at one input. -/
def guideOrderWrong : ChangeSpec := { name := "guideOrder", fn := fun _ => fun
  | [d1, d2, d3] => { results := [.lit (.bool false)], args := [d1, d2, d3] }
  | _ => none }
def GuideOrderWrongFalsely : Prop := guideOrderRow.holds Try.pinned (OpenSpec.ofChange guideOrderWrong)

/-- 'azalailaw04.GuideClash': WHATEVER THE INPUT: true; the input reads as it did. -/
def guideClashSpec : ChangeSpec := { name := "guideClash", fn := fun _ => fun
  | [d1, d2, d3] => { results := [.lit (.bool true)], args := [d1, d2, d3] }
  | _ => none }
def guideClashRow : OpenClaim := { program := "ytacdndehlkaaeaa", sum := "acf4e9d286150ae5e34151cb2403c79a86e8ceef1bd06ee2ec657324b6cbedd4", func := "azalai/azalailaw04.GuideClash", spec := "guideClash", unfollowed := true, recurses := true, apart := false }
def GuideClashSaid : Prop := guideClashRow.holds Try.pinned (OpenSpec.ofChange guideClashSpec)

/-- ITS FALSE NEIGHBOUR: 'it returns false'. Refute it at one input. -/
def guideClashWrong : ChangeSpec := { name := "guideClash", fn := fun _ => fun
  | [d1, d2, d3] => { results := [.lit (.bool false)], args := [d1, d2, d3] }
  | _ => none }
def GuideClashWrongFalsely : Prop := guideClashRow.holds Try.pinned (OpenSpec.ofChange guideClashWrong)

/-- 'azalailaw04.GuideNear': WHATEVER THE INPUT: true; the input reads as it did. -/
def guideNearSpec : ChangeSpec := { name := "guideNear", fn := fun _ => fun
  | [d1, d2, d3, d4] => { results := [.lit (.bool true)], args := [d1, d2, d3, d4] }
  | _ => none }
def guideNearRow : OpenClaim := { program := "ytacdndehlkaaeaa", sum := "acf4e9d286150ae5e34151cb2403c79a86e8ceef1bd06ee2ec657324b6cbedd4", func := "azalai/azalailaw04.GuideNear", spec := "guideNear", unfollowed := true, recurses := true, apart := false }
def GuideNearSaid : Prop := guideNearRow.holds Try.pinned (OpenSpec.ofChange guideNearSpec)

/-- ITS FALSE NEIGHBOUR: 'it returns false'. Refute it at one input. -/
def guideNearWrong : ChangeSpec := { name := "guideNear", fn := fun _ => fun
  | [d1, d2, d3, d4] => { results := [.lit (.bool false)], args := [d1, d2, d3, d4] }
  | _ => none }
def GuideNearWrongFalsely : Prop := guideNearRow.holds Try.pinned (OpenSpec.ofChange guideNearWrong)

/-- 'azalailaw04.GuideParts': WHATEVER THE INPUT: true; the input reads as it did. -/
def guidePartsSpec : ChangeSpec := { name := "guideParts", fn := fun _ => fun
  | [d1, d2, d3, d4] => { results := [.lit (.bool true)], args := [d1, d2, d3, d4] }
  | _ => none }
def guidePartsRow : OpenClaim := { program := "ytacdndehlkaaeaa", sum := "acf4e9d286150ae5e34151cb2403c79a86e8ceef1bd06ee2ec657324b6cbedd4", func := "azalai/azalailaw04.GuideParts", spec := "guideParts", unfollowed := true, recurses := true, apart := false }
def GuidePartsSaid : Prop := guidePartsRow.holds Try.pinned (OpenSpec.ofChange guidePartsSpec)

/-- ITS FALSE NEIGHBOUR: 'it returns false'. Refute it at one input. -/
def guidePartsWrong : ChangeSpec := { name := "guideParts", fn := fun _ => fun
  | [d1, d2, d3, d4] => { results := [.lit (.bool false)], args := [d1, d2, d3, d4] }
  | _ => none }
def GuidePartsWrongFalsely : Prop := guidePartsRow.holds Try.pinned (OpenSpec.ofChange guidePartsWrong)

/-- 'azalailaw04.GuideFinds': WHATEVER THE INPUT: true; the input reads as it did. -/
def guideFindsSpec : ChangeSpec := { name := "guideFinds", fn := fun _ => fun
  | [d1, d2, d3, d4, d5, d6, d7, d8] => { results := [.lit (.bool true)], args := [d1, d2, d3, d4, d5, d6, d7, d8] }
  | _ => none }
def guideFindsRow : OpenClaim := { program := "ytacdndehlkaaeaa", sum := "acf4e9d286150ae5e34151cb2403c79a86e8ceef1bd06ee2ec657324b6cbedd4", func := "azalai/azalailaw04.GuideFinds", spec := "guideFinds", unfollowed := true, recurses := true, apart := false }
def GuideFindsSaid : Prop := guideFindsRow.holds Try.pinned (OpenSpec.ofChange guideFindsSpec)

/-- ITS FALSE NEIGHBOUR: 'it returns false'. Refute it at one input. -/
def guideFindsWrong : ChangeSpec := { name := "guideFinds", fn := fun _ => fun
  | [d1, d2, d3, d4, d5, d6, d7, d8] => { results := [.lit (.bool false)], args := [d1, d2, d3, d4, d5, d6, d7, d8] }
  | _ => none }
def GuideFindsWrongFalsely : Prop := guideFindsRow.holds Try.pinned (OpenSpec.ofChange guideFindsWrong)

/- THE SECOND FORM. 'bulk': how many values and letters a reading holds, each counted each time it is reached (what is shared counts as often as it is met; a slice's spare places count too). A statement '..UptoSaid' is the law's where the arguments, and the package variables that the reading takes, are together of bulk at most 1048576: NARROWER than '..Said'. Prove '..Said' where nothing that the law and all that it calls make is longer than what came in: it says more and counts as full. Else prove '..UptoSaid'. A law counts once. -/
mutual
def uptoBulk {H : Type} : DataW H → Nat
  | .lit (.string bytes) => bytes.length + 1
  | .lit _ => 1
  | .nil => 1
  | .ptr d => uptoBulk d + 1
  | .slice elems spare => uptoBulkAll elems + uptoBulkAll spare + 1
  | .agg parts => uptoBulkAll parts + 1
  | .iface _ d => uptoBulk d + 1
  | .map entries => uptoBulkEntries entries + 1
  | .held _ => 1
def uptoBulkAll {H : Type} : List (DataW H) → Nat
  | [] => 0
  | d :: r => uptoBulk d + uptoBulkAll r
def uptoBulkEntries {H : Type} : List (Lit × DataW H) → Nat
  | [] => 0
  | x :: r => uptoBulkEntry x + uptoBulkEntries r
def uptoBulkEntry {H : Type} : Lit × DataW H → Nat
  | (.string bytes, d) => bytes.length + uptoBulk d + 1
  | (_, d) => uptoBulk d + 1
 end
def uptoSmall : (H : Type) → List (DataW H) → Bool := fun _ ds => decide (uptoBulkAll ds ≤ 1048576)
def OpenSpec.upto (s : _root_.Go.ChangeSpec) : _root_.Go.OpenSpec := { _root_.Go.OpenSpec.ofChange s with cond := some uptoSmall }

/-- 'azalailaw04.GuideLooks', WHERE WHAT IT READS IS OF BULK AT MOST 1048576: true; the input reads as it did. -/
def guideLooksUptoRow : OpenClaim := { program := "ytacdndehlkaaeaa", sum := "acf4e9d286150ae5e34151cb2403c79a86e8ceef1bd06ee2ec657324b6cbedd4", func := "azalai/azalailaw04.GuideLooks", spec := "guideLooks", unfollowed := true, recurses := true, apart := false, narrowed := true }
def GuideLooksUptoSaid : Prop := guideLooksUptoRow.holds Try.pinned (OpenSpec.upto guideLooksSpec)

/-- 'azalailaw04.GuideAreas', WHERE WHAT IT READS IS OF BULK AT MOST 1048576: true; the input reads as it did. -/
def guideAreasUptoRow : OpenClaim := { program := "ytacdndehlkaaeaa", sum := "acf4e9d286150ae5e34151cb2403c79a86e8ceef1bd06ee2ec657324b6cbedd4", func := "azalai/azalailaw04.GuideAreas", spec := "guideAreas", unfollowed := true, recurses := true, apart := false, narrowed := true }
def GuideAreasUptoSaid : Prop := guideAreasUptoRow.holds Try.pinned (OpenSpec.upto guideAreasSpec)

/-- 'azalailaw04.GuideTreks', WHERE WHAT IT READS IS OF BULK AT MOST 1048576: true; the input reads as it did. -/
def guideTreksUptoRow : OpenClaim := { program := "ytacdndehlkaaeaa", sum := "acf4e9d286150ae5e34151cb2403c79a86e8ceef1bd06ee2ec657324b6cbedd4", func := "azalai/azalailaw04.GuideTreks", spec := "guideTreks", unfollowed := true, recurses := true, apart := false, narrowed := true }
def GuideTreksUptoSaid : Prop := guideTreksUptoRow.holds Try.pinned (OpenSpec.upto guideTreksSpec)

/-- 'azalailaw04.GuideExamples', WHERE WHAT IT READS IS OF BULK AT MOST 1048576: true; the input reads as it did. -/
def guideExamplesUptoRow : OpenClaim := { program := "ytacdndehlkaaeaa", sum := "acf4e9d286150ae5e34151cb2403c79a86e8ceef1bd06ee2ec657324b6cbedd4", func := "azalai/azalailaw04.GuideExamples", spec := "guideExamples", unfollowed := true, recurses := true, apart := false, narrowed := true }
def GuideExamplesUptoSaid : Prop := guideExamplesUptoRow.holds Try.pinned (OpenSpec.upto guideExamplesSpec)

/-- 'azalailaw04.GuideTrue', WHERE WHAT IT READS IS OF BULK AT MOST 1048576: true; the input reads as it did. -/
def guideTrueUptoRow : OpenClaim := { program := "ytacdndehlkaaeaa", sum := "acf4e9d286150ae5e34151cb2403c79a86e8ceef1bd06ee2ec657324b6cbedd4", func := "azalai/azalailaw04.GuideTrue", spec := "guideTrue", unfollowed := true, recurses := true, apart := false, narrowed := true }
def GuideTrueUptoSaid : Prop := guideTrueUptoRow.holds Try.pinned (OpenSpec.upto guideTrueSpec)

/-- 'azalailaw04.GuideSharp', WHERE WHAT IT READS IS OF BULK AT MOST 1048576: true; the input reads as it did. -/
def guideSharpUptoRow : OpenClaim := { program := "ytacdndehlkaaeaa", sum := "acf4e9d286150ae5e34151cb2403c79a86e8ceef1bd06ee2ec657324b6cbedd4", func := "azalai/azalailaw04.GuideSharp", spec := "guideSharp", unfollowed := true, recurses := true, apart := false, narrowed := true }
def GuideSharpUptoSaid : Prop := guideSharpUptoRow.holds Try.pinned (OpenSpec.upto guideSharpSpec)

/-- 'azalailaw04.GuideOrder', WHERE WHAT IT READS IS OF BULK AT MOST 1048576: true; the input reads as it did. -/
def guideOrderUptoRow : OpenClaim := { program := "ytacdndehlkaaeaa", sum := "acf4e9d286150ae5e34151cb2403c79a86e8ceef1bd06ee2ec657324b6cbedd4", func := "azalai/azalailaw04.GuideOrder", spec := "guideOrder", unfollowed := true, recurses := true, apart := false, narrowed := true }
def GuideOrderUptoSaid : Prop := guideOrderUptoRow.holds Try.pinned (OpenSpec.upto guideOrderSpec)

/-- 'azalailaw04.GuideClash', WHERE WHAT IT READS IS OF BULK AT MOST 1048576: true; the input reads as it did. -/
def guideClashUptoRow : OpenClaim := { program := "ytacdndehlkaaeaa", sum := "acf4e9d286150ae5e34151cb2403c79a86e8ceef1bd06ee2ec657324b6cbedd4", func := "azalai/azalailaw04.GuideClash", spec := "guideClash", unfollowed := true, recurses := true, apart := false, narrowed := true }
def GuideClashUptoSaid : Prop := guideClashUptoRow.holds Try.pinned (OpenSpec.upto guideClashSpec)

/-- 'azalailaw04.GuideNear', WHERE WHAT IT READS IS OF BULK AT MOST 1048576: true; the input reads as it did. -/
def guideNearUptoRow : OpenClaim := { program := "ytacdndehlkaaeaa", sum := "acf4e9d286150ae5e34151cb2403c79a86e8ceef1bd06ee2ec657324b6cbedd4", func := "azalai/azalailaw04.GuideNear", spec := "guideNear", unfollowed := true, recurses := true, apart := false, narrowed := true }
def GuideNearUptoSaid : Prop := guideNearUptoRow.holds Try.pinned (OpenSpec.upto guideNearSpec)

/-- 'azalailaw04.GuideParts', WHERE WHAT IT READS IS OF BULK AT MOST 1048576: true; the input reads as it did. -/
def guidePartsUptoRow : OpenClaim := { program := "ytacdndehlkaaeaa", sum := "acf4e9d286150ae5e34151cb2403c79a86e8ceef1bd06ee2ec657324b6cbedd4", func := "azalai/azalailaw04.GuideParts", spec := "guideParts", unfollowed := true, recurses := true, apart := false, narrowed := true }
def GuidePartsUptoSaid : Prop := guidePartsUptoRow.holds Try.pinned (OpenSpec.upto guidePartsSpec)

/-- 'azalailaw04.GuideFinds', WHERE WHAT IT READS IS OF BULK AT MOST 1048576: true; the input reads as it did. -/
def guideFindsUptoRow : OpenClaim := { program := "ytacdndehlkaaeaa", sum := "acf4e9d286150ae5e34151cb2403c79a86e8ceef1bd06ee2ec657324b6cbedd4", func := "azalai/azalailaw04.GuideFinds", spec := "guideFinds", unfollowed := true, recurses := true, apart := false, narrowed := true }
def GuideFindsUptoSaid : Prop := guideFindsUptoRow.holds Try.pinned (OpenSpec.upto guideFindsSpec)

end Rows
end Go.Proofs.Ytacdndehlkaaeaa
