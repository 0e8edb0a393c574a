/-
  No cell of these rows narrows 'for every input' (looked for: loops, veiled, ifaces, maps, wideKeys, modest, calm, conditions, laid).
  DERIVED. THE GIVEN ROWS OF THIS SEAT. 12 by the template 'for every input the law returns true; each argument reads behind the call as it read before'; 0 by the template 'total and deterministic' (their statements: YtkbhmajcddmhnaaTotals.lean).
  GIVEN WITH THE SEED: the statements are not yours to turn. If you find one false, say at which input.
  Laid BY PROGRAM, IN A SANDBOX (cutbox-rows.mjs): the forced cells as the released guide's own fill.sh prints them over the translation 9cd681f529100004… (all of the seat's roots in one cut). By AI agents, Wed Nov 11 2026. No macro, syntax, notation, axiom, sorry.
-/
import Derived.Test.YtkbhmajcddmhnaaChecked
import GoSem.Claim
import GoSem.ClaimJoined
import GoSem.ClaimMapViews
import Derived.JoinedTies
import Derived.KernelRfl
namespace Go.Proofs.Ytkbhmajcddmhnaa
/- THE CELL 'sum', in the pinned program and in every row, IS THE sha256 OF THE DUMP (.gsa) THAT YtkbhmajcddmhnaaProg.lean LOADS. Nothing in Lean hashes anything: it is a label: what it is worth is what the hold of that sum in a sandbox is worth. -/
noncomputable def Try.pinned : Pinned := { name := "ytkbhmajcddmhnaa", sum := "9cd681f529100004f76973c29e0a51a2cb567ab43cbe826678304c5d283343a8", checked := Try.checked }
namespace Rows
def none {H : Type} : Left H := { results := [], args := [] }

/-- 'azalailaw06.MarketBounds': WHATEVER THE INPUT: true; the input reads as it did. -/
def marketBoundsSpec : ChangeSpec := { name := "marketBounds", fn := fun _ => fun
  | [d1, d2, d3, d4, d5] => { results := [.lit (.bool true)], args := [d1, d2, d3, d4, d5] }
  | _ => none }
def marketBoundsRow : OpenClaim := { program := "ytkbhmajcddmhnaa", sum := "9cd681f529100004f76973c29e0a51a2cb567ab43cbe826678304c5d283343a8", func := "azalai/azalailaw06.MarketBounds", spec := "marketBounds", unfollowed := true, recurses := true, plainKeys := false, apart := false }
def MarketBoundsSaid : Prop := marketBoundsRow.holds Try.pinned (OpenSpec.ofChange marketBoundsSpec)

/-- ITS FALSE NEIGHBOUR: 'it returns false'. Refute it at one input. -/
def marketBoundsWrong : ChangeSpec := { name := "marketBounds", fn := fun _ => fun
  | [d1, d2, d3, d4, d5] => { results := [.lit (.bool false)], args := [d1, d2, d3, d4, d5] }
  | _ => none }
def MarketBoundsWrongFalsely : Prop := marketBoundsRow.holds Try.pinned (OpenSpec.ofChange marketBoundsWrong)

/-- 'azalailaw06.MarketRuns': WHATEVER THE INPUT: true; the input reads as it did. -/
def marketRunsSpec : ChangeSpec := { name := "marketRuns", fn := fun _ => fun
  | [d1, d2, d3, d4] => { results := [.lit (.bool true)], args := [d1, d2, d3, d4] }
  | _ => none }
def marketRunsRow : OpenClaim := { program := "ytkbhmajcddmhnaa", sum := "9cd681f529100004f76973c29e0a51a2cb567ab43cbe826678304c5d283343a8", func := "azalai/azalailaw06.MarketRuns", spec := "marketRuns", unfollowed := true, recurses := true, plainKeys := false, apart := false }
def MarketRunsSaid : Prop := marketRunsRow.holds Try.pinned (OpenSpec.ofChange marketRunsSpec)

/-- ITS FALSE NEIGHBOUR: 'it returns false'. Refute it at one input. -/
def marketRunsWrong : ChangeSpec := { name := "marketRuns", fn := fun _ => fun
  | [d1, d2, d3, d4] => { results := [.lit (.bool false)], args := [d1, d2, d3, d4] }
  | _ => none }
def MarketRunsWrongFalsely : Prop := marketRunsRow.holds Try.pinned (OpenSpec.ofChange marketRunsWrong)

/-- 'azalailaw06.MarketGains': WHATEVER THE INPUT: true; the input reads as it did. -/
def marketGainsSpec : ChangeSpec := { name := "marketGains", fn := fun _ => fun
  | [d1, d2, d3, d4, d5, d6, d7] => { results := [.lit (.bool true)], args := [d1, d2, d3, d4, d5, d6, d7] }
  | _ => none }
def marketGainsRow : OpenClaim := { program := "ytkbhmajcddmhnaa", sum := "9cd681f529100004f76973c29e0a51a2cb567ab43cbe826678304c5d283343a8", func := "azalai/azalailaw06.MarketGains", spec := "marketGains", unfollowed := true, recurses := true, plainKeys := false, apart := false }
def MarketGainsSaid : Prop := marketGainsRow.holds Try.pinned (OpenSpec.ofChange marketGainsSpec)

/-- ITS FALSE NEIGHBOUR: 'it returns false'. Refute it at one input. -/
def marketGainsWrong : ChangeSpec := { name := "marketGains", fn := fun _ => fun
  | [d1, d2, d3, d4, d5, d6, d7] => { results := [.lit (.bool false)], args := [d1, d2, d3, d4, d5, d6, d7] }
  | _ => none }
def MarketGainsWrongFalsely : Prop := marketGainsRow.holds Try.pinned (OpenSpec.ofChange marketGainsWrong)

/-- 'azalailaw06.MarketTrue': WHATEVER THE INPUT: true; the input reads as it did. -/
def marketTrueSpec : ChangeSpec := { name := "marketTrue", fn := fun _ => fun
  | [d1, d2, d3, d4, d5] => { results := [.lit (.bool true)], args := [d1, d2, d3, d4, d5] }
  | _ => none }
def marketTrueRow : OpenClaim := { program := "ytkbhmajcddmhnaa", sum := "9cd681f529100004f76973c29e0a51a2cb567ab43cbe826678304c5d283343a8", func := "azalai/azalailaw06.MarketTrue", spec := "marketTrue", unfollowed := true, recurses := true, plainKeys := false, apart := false }
def MarketTrueSaid : Prop := marketTrueRow.holds Try.pinned (OpenSpec.ofChange marketTrueSpec)

/-- ITS FALSE NEIGHBOUR: 'it returns false'. Refute it at one input. -/
def marketTrueWrong : ChangeSpec := { name := "marketTrue", fn := fun _ => fun
  | [d1, d2, d3, d4, d5] => { results := [.lit (.bool false)], args := [d1, d2, d3, d4, d5] }
  | _ => none }
def MarketTrueWrongFalsely : Prop := marketTrueRow.holds Try.pinned (OpenSpec.ofChange marketTrueWrong)

/-- 'azalailaw06.MarketShort': WHATEVER THE INPUT: true; the input reads as it did. -/
def marketShortSpec : ChangeSpec := { name := "marketShort", fn := fun _ => fun
  | [d1, d2, d3, d4] => { results := [.lit (.bool true)], args := [d1, d2, d3, d4] }
  | _ => none }
def marketShortRow : OpenClaim := { program := "ytkbhmajcddmhnaa", sum := "9cd681f529100004f76973c29e0a51a2cb567ab43cbe826678304c5d283343a8", func := "azalai/azalailaw06.MarketShort", spec := "marketShort", unfollowed := true, recurses := true, plainKeys := false, apart := false }
def MarketShortSaid : Prop := marketShortRow.holds Try.pinned (OpenSpec.ofChange marketShortSpec)

/-- ITS FALSE NEIGHBOUR: 'it returns false'. Refute it at one input. -/
def marketShortWrong : ChangeSpec := { name := "marketShort", fn := fun _ => fun
  | [d1, d2, d3, d4] => { results := [.lit (.bool false)], args := [d1, d2, d3, d4] }
  | _ => none }
def MarketShortWrongFalsely : Prop := marketShortRow.holds Try.pinned (OpenSpec.ofChange marketShortWrong)

/-- 'azalailaw06.MarketBest': WHATEVER THE INPUT: true; the input reads as it did. -/
def marketBestSpec : ChangeSpec := { name := "marketBest", fn := fun _ => fun
  | [d1, d2, d3, d4, d5, d6] => { results := [.lit (.bool true)], args := [d1, d2, d3, d4, d5, d6] }
  | _ => none }
def marketBestRow : OpenClaim := { program := "ytkbhmajcddmhnaa", sum := "9cd681f529100004f76973c29e0a51a2cb567ab43cbe826678304c5d283343a8", func := "azalai/azalailaw06.MarketBest", spec := "marketBest", unfollowed := true, recurses := true, plainKeys := false, apart := false }
def MarketBestSaid : Prop := marketBestRow.holds Try.pinned (OpenSpec.ofChange marketBestSpec)

/-- ITS FALSE NEIGHBOUR: 'it returns false'. Refute it at one input. -/
def marketBestWrong : ChangeSpec := { name := "marketBest", fn := fun _ => fun
  | [d1, d2, d3, d4, d5, d6] => { results := [.lit (.bool false)], args := [d1, d2, d3, d4, d5, d6] }
  | _ => none }
def MarketBestWrongFalsely : Prop := marketBestRow.holds Try.pinned (OpenSpec.ofChange marketBestWrong)

/-- 'azalailaw06.MarketDone': WHATEVER THE INPUT: true; the input reads as it did. -/
def marketDoneSpec : ChangeSpec := { name := "marketDone", fn := fun _ => fun
  | [d1, d2, d3, d4, d5] => { results := [.lit (.bool true)], args := [d1, d2, d3, d4, d5] }
  | _ => none }
def marketDoneRow : OpenClaim := { program := "ytkbhmajcddmhnaa", sum := "9cd681f529100004f76973c29e0a51a2cb567ab43cbe826678304c5d283343a8", func := "azalai/azalailaw06.MarketDone", spec := "marketDone", unfollowed := true, recurses := true, plainKeys := false, apart := false }
def MarketDoneSaid : Prop := marketDoneRow.holds Try.pinned (OpenSpec.ofChange marketDoneSpec)

/-- ITS FALSE NEIGHBOUR: 'it returns false'. Refute it at one input. -/
def marketDoneWrong : ChangeSpec := { name := "marketDone", fn := fun _ => fun
  | [d1, d2, d3, d4, d5] => { results := [.lit (.bool false)], args := [d1, d2, d3, d4, d5] }
  | _ => none }
def MarketDoneWrongFalsely : Prop := marketDoneRow.holds Try.pinned (OpenSpec.ofChange marketDoneWrong)

/-- 'azalailaw06.MarketBounded': WHATEVER THE INPUT: true; the input reads as it did. -/
def marketBoundedSpec : ChangeSpec := { name := "marketBounded", fn := fun _ => fun
  | [d1, d2, d3, d4, d5, d6, d7] => { results := [.lit (.bool true)], args := [d1, d2, d3, d4, d5, d6, d7] }
  | _ => none }
def marketBoundedRow : OpenClaim := { program := "ytkbhmajcddmhnaa", sum := "9cd681f529100004f76973c29e0a51a2cb567ab43cbe826678304c5d283343a8", func := "azalai/azalailaw06.MarketBounded", spec := "marketBounded", unfollowed := true, recurses := true, plainKeys := false, apart := false }
def MarketBoundedSaid : Prop := marketBoundedRow.holds Try.pinned (OpenSpec.ofChange marketBoundedSpec)

/-- ITS FALSE NEIGHBOUR: 'it returns false'. Refute it at one input. -/
def marketBoundedWrong : ChangeSpec := { name := "marketBounded", fn := fun _ => fun
  | [d1, d2, d3, d4, d5, d6, d7] => { results := [.lit (.bool false)], args := [d1, d2, d3, d4, d5, d6, d7] }
  | _ => none }
def MarketBoundedWrongFalsely : Prop := marketBoundedRow.holds Try.pinned (OpenSpec.ofChange marketBoundedWrong)

/-- 'azalailaw06.MarketMore': WHATEVER THE INPUT: true; the input reads as it did. -/
def marketMoreSpec : ChangeSpec := { name := "marketMore", fn := fun _ => fun
  | [d1, d2, d3, d4, d5, d6, d7] => { results := [.lit (.bool true)], args := [d1, d2, d3, d4, d5, d6, d7] }
  | _ => none }
def marketMoreRow : OpenClaim := { program := "ytkbhmajcddmhnaa", sum := "9cd681f529100004f76973c29e0a51a2cb567ab43cbe826678304c5d283343a8", func := "azalai/azalailaw06.MarketMore", spec := "marketMore", unfollowed := true, recurses := true, plainKeys := false, apart := false }
def MarketMoreSaid : Prop := marketMoreRow.holds Try.pinned (OpenSpec.ofChange marketMoreSpec)

/-- ITS FALSE NEIGHBOUR: 'it returns false'. Refute it at one input. -/
def marketMoreWrong : ChangeSpec := { name := "marketMore", fn := fun _ => fun
  | [d1, d2, d3, d4, d5, d6, d7] => { results := [.lit (.bool false)], args := [d1, d2, d3, d4, d5, d6, d7] }
  | _ => none }
def MarketMoreWrongFalsely : Prop := marketMoreRow.holds Try.pinned (OpenSpec.ofChange marketMoreWrong)

/-- 'azalailaw06.MarketNarrow': WHATEVER THE INPUT: true; the input reads as it did. -/
def marketNarrowSpec : ChangeSpec := { name := "marketNarrow", fn := fun _ => fun
  | [d1, d2, d3, d4, d5] => { results := [.lit (.bool true)], args := [d1, d2, d3, d4, d5] }
  | _ => none }
def marketNarrowRow : OpenClaim := { program := "ytkbhmajcddmhnaa", sum := "9cd681f529100004f76973c29e0a51a2cb567ab43cbe826678304c5d283343a8", func := "azalai/azalailaw06.MarketNarrow", spec := "marketNarrow", unfollowed := true, recurses := true, plainKeys := false, apart := false }
def MarketNarrowSaid : Prop := marketNarrowRow.holds Try.pinned (OpenSpec.ofChange marketNarrowSpec)

/-- ITS FALSE NEIGHBOUR: 'it returns false'. Refute it at one input. -/
def marketNarrowWrong : ChangeSpec := { name := "marketNarrow", fn := fun _ => fun
  | [d1, d2, d3, d4, d5] => { results := [.lit (.bool false)], args := [d1, d2, d3, d4, d5] }
  | _ => none }
def MarketNarrowWrongFalsely : Prop := marketNarrowRow.holds Try.pinned (OpenSpec.ofChange marketNarrowWrong)

/-- 'azalailaw06.MarketRound': WHATEVER THE INPUT: true; the input reads as it did. -/
def marketRoundSpec : ChangeSpec := { name := "marketRound", fn := fun _ => fun
  | [d1, d2, d3, d4] => { results := [.lit (.bool true)], args := [d1, d2, d3, d4] }
  | _ => none }
def marketRoundRow : OpenClaim := { program := "ytkbhmajcddmhnaa", sum := "9cd681f529100004f76973c29e0a51a2cb567ab43cbe826678304c5d283343a8", func := "azalai/azalailaw06.MarketRound", spec := "marketRound", unfollowed := true, recurses := true, plainKeys := false, apart := false }
def MarketRoundSaid : Prop := marketRoundRow.holds Try.pinned (OpenSpec.ofChange marketRoundSpec)

/-- ITS FALSE NEIGHBOUR: 'it returns false'. Refute it at one input. -/
def marketRoundWrong : ChangeSpec := { name := "marketRound", fn := fun _ => fun
  | [d1, d2, d3, d4] => { results := [.lit (.bool false)], args := [d1, d2, d3, d4] }
  | _ => none }
def MarketRoundWrongFalsely : Prop := marketRoundRow.holds Try.pinned (OpenSpec.ofChange marketRoundWrong)

/-- 'azalailaw06.MarketExamples': WHATEVER THE INPUT: true; the input reads as it did. -/
def marketExamplesSpec : ChangeSpec := { name := "marketExamples", fn := fun _ => fun
  | [] => { results := [.lit (.bool true)], args := [] }
  | _ => none }
def marketExamplesRow : OpenClaim := { program := "ytkbhmajcddmhnaa", sum := "9cd681f529100004f76973c29e0a51a2cb567ab43cbe826678304c5d283343a8", func := "azalai/azalailaw06.MarketExamples", spec := "marketExamples", unfollowed := true, recurses := true, plainKeys := false, apart := false }
def MarketExamplesSaid : Prop := marketExamplesRow.holds Try.pinned (OpenSpec.ofChange marketExamplesSpec)

/-- ITS FALSE NEIGHBOUR: 'it returns false'. Refute it at one input. -/
def marketExamplesWrong : ChangeSpec := { name := "marketExamples", fn := fun _ => fun
  | [] => { results := [.lit (.bool false)], args := [] }
  | _ => none }
def MarketExamplesWrongFalsely : Prop := marketExamplesRow.holds Try.pinned (OpenSpec.ofChange marketExamplesWrong)

/- THE SECOND FORM. 'bulk': how many values and letters a reading holds, each counted each time it is reached (what is shared counts as often as it is met; a slice's spare places count too). A statement '..UptoSaid' is the law's where the arguments, and the package variables that the reading takes, are together of bulk at most 1048576: NARROWER than '..Said'. Prove '..Said' where nothing that the law and all that it calls make is longer than what came in: it says more and counts as full. Else prove '..UptoSaid'. A law counts once. -/
mutual
def uptoBulk {H : Type} : DataW H → Nat
  | .lit (.string bytes) => bytes.length + 1
  | .lit _ => 1
  | .nil => 1
  | .ptr d => uptoBulk d + 1
  | .slice elems spare => uptoBulkAll elems + uptoBulkAll spare + 1
  | .agg parts => uptoBulkAll parts + 1
  | .iface _ d => uptoBulk d + 1
  | .map entries => uptoBulkEntries entries + 1
  | .held _ => 1
def uptoBulkAll {H : Type} : List (DataW H) → Nat
  | [] => 0
  | d :: r => uptoBulk d + uptoBulkAll r
def uptoBulkEntries {H : Type} : List (Lit × DataW H) → Nat
  | [] => 0
  | x :: r => uptoBulkEntry x + uptoBulkEntries r
def uptoBulkEntry {H : Type} : Lit × DataW H → Nat
  | (.string bytes, d) => bytes.length + uptoBulk d + 1
  | (_, d) => uptoBulk d + 1
 end
def uptoSmall : (H : Type) → List (DataW H) → Bool := fun _ ds => decide (uptoBulkAll ds ≤ 1048576)
def OpenSpec.upto (s : _root_.Go.ChangeSpec) : _root_.Go.OpenSpec := { _root_.Go.OpenSpec.ofChange s with cond := some uptoSmall }

/-- 'azalailaw06.MarketBounds', WHERE WHAT IT READS IS OF BULK AT MOST 1048576: true; the input reads as it did. -/
def marketBoundsUptoRow : OpenClaim := { program := "ytkbhmajcddmhnaa", sum := "9cd681f529100004f76973c29e0a51a2cb567ab43cbe826678304c5d283343a8", func := "azalai/azalailaw06.MarketBounds", spec := "marketBounds", unfollowed := true, recurses := true, plainKeys := false, apart := false, narrowed := true }
def MarketBoundsUptoSaid : Prop := marketBoundsUptoRow.holds Try.pinned (OpenSpec.upto marketBoundsSpec)

/-- 'azalailaw06.MarketRuns', WHERE WHAT IT READS IS OF BULK AT MOST 1048576: true; the input reads as it did. -/
def marketRunsUptoRow : OpenClaim := { program := "ytkbhmajcddmhnaa", sum := "9cd681f529100004f76973c29e0a51a2cb567ab43cbe826678304c5d283343a8", func := "azalai/azalailaw06.MarketRuns", spec := "marketRuns", unfollowed := true, recurses := true, plainKeys := false, apart := false, narrowed := true }
def MarketRunsUptoSaid : Prop := marketRunsUptoRow.holds Try.pinned (OpenSpec.upto marketRunsSpec)

/-- 'azalailaw06.MarketGains', WHERE WHAT IT READS IS OF BULK AT MOST 1048576: true; the input reads as it did. -/
def marketGainsUptoRow : OpenClaim := { program := "ytkbhmajcddmhnaa", sum := "9cd681f529100004f76973c29e0a51a2cb567ab43cbe826678304c5d283343a8", func := "azalai/azalailaw06.MarketGains", spec := "marketGains", unfollowed := true, recurses := true, plainKeys := false, apart := false, narrowed := true }
def MarketGainsUptoSaid : Prop := marketGainsUptoRow.holds Try.pinned (OpenSpec.upto marketGainsSpec)

/-- 'azalailaw06.MarketTrue', WHERE WHAT IT READS IS OF BULK AT MOST 1048576: true; the input reads as it did. -/
def marketTrueUptoRow : OpenClaim := { program := "ytkbhmajcddmhnaa", sum := "9cd681f529100004f76973c29e0a51a2cb567ab43cbe826678304c5d283343a8", func := "azalai/azalailaw06.MarketTrue", spec := "marketTrue", unfollowed := true, recurses := true, plainKeys := false, apart := false, narrowed := true }
def MarketTrueUptoSaid : Prop := marketTrueUptoRow.holds Try.pinned (OpenSpec.upto marketTrueSpec)

/-- 'azalailaw06.MarketShort', WHERE WHAT IT READS IS OF BULK AT MOST 1048576: true; the input reads as it did. -/
def marketShortUptoRow : OpenClaim := { program := "ytkbhmajcddmhnaa", sum := "9cd681f529100004f76973c29e0a51a2cb567ab43cbe826678304c5d283343a8", func := "azalai/azalailaw06.MarketShort", spec := "marketShort", unfollowed := true, recurses := true, plainKeys := false, apart := false, narrowed := true }
def MarketShortUptoSaid : Prop := marketShortUptoRow.holds Try.pinned (OpenSpec.upto marketShortSpec)

/-- 'azalailaw06.MarketBest', WHERE WHAT IT READS IS OF BULK AT MOST 1048576: true; the input reads as it did. -/
def marketBestUptoRow : OpenClaim := { program := "ytkbhmajcddmhnaa", sum := "9cd681f529100004f76973c29e0a51a2cb567ab43cbe826678304c5d283343a8", func := "azalai/azalailaw06.MarketBest", spec := "marketBest", unfollowed := true, recurses := true, plainKeys := false, apart := false, narrowed := true }
def MarketBestUptoSaid : Prop := marketBestUptoRow.holds Try.pinned (OpenSpec.upto marketBestSpec)

/-- 'azalailaw06.MarketDone', WHERE WHAT IT READS IS OF BULK AT MOST 1048576: true; the input reads as it did. -/
def marketDoneUptoRow : OpenClaim := { program := "ytkbhmajcddmhnaa", sum := "9cd681f529100004f76973c29e0a51a2cb567ab43cbe826678304c5d283343a8", func := "azalai/azalailaw06.MarketDone", spec := "marketDone", unfollowed := true, recurses := true, plainKeys := false, apart := false, narrowed := true }
def MarketDoneUptoSaid : Prop := marketDoneUptoRow.holds Try.pinned (OpenSpec.upto marketDoneSpec)

/-- 'azalailaw06.MarketBounded', WHERE WHAT IT READS IS OF BULK AT MOST 1048576: true; the input reads as it did. -/
def marketBoundedUptoRow : OpenClaim := { program := "ytkbhmajcddmhnaa", sum := "9cd681f529100004f76973c29e0a51a2cb567ab43cbe826678304c5d283343a8", func := "azalai/azalailaw06.MarketBounded", spec := "marketBounded", unfollowed := true, recurses := true, plainKeys := false, apart := false, narrowed := true }
def MarketBoundedUptoSaid : Prop := marketBoundedUptoRow.holds Try.pinned (OpenSpec.upto marketBoundedSpec)

/-- 'azalailaw06.MarketMore', WHERE WHAT IT READS IS OF BULK AT MOST 1048576: true; the input reads as it did. -/
def marketMoreUptoRow : OpenClaim := { program := "ytkbhmajcddmhnaa", sum := "9cd681f529100004f76973c29e0a51a2cb567ab43cbe826678304c5d283343a8", func := "azalai/azalailaw06.MarketMore", spec := "marketMore", unfollowed := true, recurses := true, plainKeys := false, apart := false, narrowed := true }
def MarketMoreUptoSaid : Prop := marketMoreUptoRow.holds Try.pinned (OpenSpec.upto marketMoreSpec)

/-- 'azalailaw06.MarketNarrow', WHERE WHAT IT READS IS OF BULK AT MOST 1048576: true; the input reads as it did. -/
def marketNarrowUptoRow : OpenClaim := { program := "ytkbhmajcddmhnaa", sum := "9cd681f529100004f76973c29e0a51a2cb567ab43cbe826678304c5d283343a8", func := "azalai/azalailaw06.MarketNarrow", spec := "marketNarrow", unfollowed := true, recurses := true, plainKeys := false, apart := false, narrowed := true }
def MarketNarrowUptoSaid : Prop := marketNarrowUptoRow.holds Try.pinned (OpenSpec.upto marketNarrowSpec)

/-- 'azalailaw06.MarketRound', WHERE WHAT IT READS IS OF BULK AT MOST 1048576: true; the input reads as it did. -/
def marketRoundUptoRow : OpenClaim := { program := "ytkbhmajcddmhnaa", sum := "9cd681f529100004f76973c29e0a51a2cb567ab43cbe826678304c5d283343a8", func := "azalai/azalailaw06.MarketRound", spec := "marketRound", unfollowed := true, recurses := true, plainKeys := false, apart := false, narrowed := true }
def MarketRoundUptoSaid : Prop := marketRoundUptoRow.holds Try.pinned (OpenSpec.upto marketRoundSpec)

/-- 'azalailaw06.MarketExamples', WHERE WHAT IT READS IS OF BULK AT MOST 1048576: true; the input reads as it did. -/
def marketExamplesUptoRow : OpenClaim := { program := "ytkbhmajcddmhnaa", sum := "9cd681f529100004f76973c29e0a51a2cb567ab43cbe826678304c5d283343a8", func := "azalai/azalailaw06.MarketExamples", spec := "marketExamples", unfollowed := true, recurses := true, plainKeys := false, apart := false, narrowed := true }
def MarketExamplesUptoSaid : Prop := marketExamplesUptoRow.holds Try.pinned (OpenSpec.upto marketExamplesSpec)

end Rows
end Go.Proofs.Ytkbhmajcddmhnaa
