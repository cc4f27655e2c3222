/-
  DERIVED. GIVEN WITH THE SEED: THE CARDS: each row of YtnlcfbaaomdjdaaGreatDoorRows.lean that lists a variable, with what it lists TIED to the program's text (the seventh form; the later family's looks); each row that meets fmt, with fmt's text TOLD by the authors' own Lean function (tested against real Go, not proved from fmt's source: count such statements apart). THE CARD IS WHAT COUNTS. Prove the row's statement (the work); the ties are given (YtnlcfbaaomdjdaaGreatDoorTie.lean); close each card by the builder's one call (the guide's Derived/Test/ToyasCard.lean, 'card_holds'). Laid BY PROGRAM, IN A SANDBOX (cutbox-door.mjs). By AI agents, Wed Nov 11 2026. No macro, syntax, notation, axiom, sorry.
-/
import Derived.Test.YtnlcfbaaomdjdaaGreatDoorRows
import GoSem.ClaimSeven
namespace Go.Proofs.YtnlcfbaaomdjdaaGreatDoor
namespace Rows

/-- THE TIED CARD OF 'observatorylaw22.BoundMatchesReference'. -/
def boundMatchesReferenceCard : Claim7 := { stood := { row := boundMatchesReferenceRow, standIns := [], harness := (true, "a653de6bd7615d104dbdbf72e6e1e10677bcb906f803de5ccb66539acd9b0a20"), looks := true }, kinds := [], alts := [], laidByText := true, laidKinds := [.data, .data, .data, .sentinel, .sentinel], laidTests := true, laidLooks := .later }
def BoundMatchesReferenceCardSaid : Prop := Claim7.holds Tryz.pinned (.plain (OpenSpec.ofChange boundMatchesReferenceSpec)) boundMatchesReferenceCard

/-- THE SECOND FORM's CARD OF 'observatorylaw22.BoundMatchesReference'. -/
def boundMatchesReferenceUptoCard : Claim7 := { stood := { row := boundMatchesReferenceUptoRow, standIns := [], harness := (true, "a653de6bd7615d104dbdbf72e6e1e10677bcb906f803de5ccb66539acd9b0a20"), looks := true }, kinds := [], alts := [], laidByText := true, laidKinds := [.data, .data, .data, .sentinel, .sentinel], laidTests := true, laidLooks := .later }
def BoundMatchesReferenceUptoCardSaid : Prop := Claim7.holds Tryz.pinned (.plain (OpenSpec.upto boundMatchesReferenceSpec)) boundMatchesReferenceUptoCard
end Rows
end Go.Proofs.YtnlcfbaaomdjdaaGreatDoor
