/-
  DERIVED. GIVEN WITH THE SEED: THE CARDS: each row of YtcoelhpmkhimpaaGreatDoorRows.lean that lists a variable, with what it lists TIED to the program's text (the seventh form; the later family's looks); each row that meets fmt, with fmt's text TOLD by the authors' own Lean function (tested against real Go, not proved from fmt's source: count such statements apart). THE CARD IS WHAT COUNTS. Prove the row's statement (the work); the ties are given (YtcoelhpmkhimpaaGreatDoorTie.lean); close each card by the builder's one call (the guide's Derived/Test/ToyasCard.lean, 'card_holds'). Laid BY PROGRAM, IN A SANDBOX (cutbox-door.mjs). By AI agents, Wed Nov 11 2026. No macro, syntax, notation, axiom, sorry.
-/
import Derived.Test.YtcoelhpmkhimpaaGreatDoorRows
import GoSem.ClaimSeven
namespace Go.Proofs.YtcoelhpmkhimpaaGreatDoor
namespace Rows

/-- THE TIED CARD OF 'azalaitop.TopLeaks'. -/
def topLeaksCard : Claim7 := { stood := { row := topLeaksRow, standIns := [], harness := (true, "026ae0410a82297a0e823f946c85aa6db19d8f5c1fe004833738d7cfa6b17cb9"), looks := true }, kinds := [], alts := [], laidByText := true, laidKinds := [.data], laidTests := true, laidLooks := .later }
def TopLeaksCardSaid : Prop := Claim7.holds Tryz.pinned (.plain (OpenSpec.ofChange topLeaksSpec)) topLeaksCard

/-- THE SECOND FORM's CARD OF 'azalaitop.TopLeaks'. -/
def topLeaksUptoCard : Claim7 := { stood := { row := topLeaksUptoRow, standIns := [], harness := (true, "026ae0410a82297a0e823f946c85aa6db19d8f5c1fe004833738d7cfa6b17cb9"), looks := true }, kinds := [], alts := [], laidByText := true, laidKinds := [.data], laidTests := true, laidLooks := .later }
def TopLeaksUptoCardSaid : Prop := Claim7.holds Tryz.pinned (.plain (OpenSpec.upto topLeaksSpec)) topLeaksUptoCard
end Rows
end Go.Proofs.YtcoelhpmkhimpaaGreatDoor
