/-
  DERIVED. GIVEN WITH THE SEED: THE CARDS: each row of YtmelebfpkjnfdaaGreatDoorRows.lean that lists a variable, with what it lists TIED to the program's text (the seventh form; the later family's looks); each row that meets fmt, with fmt's text TOLD by the authors' own Lean function (tested against real Go, not proved from fmt's source: count such statements apart). THE CARD IS WHAT COUNTS. Prove the row's statement (the work); the ties are given (YtmelebfpkjnfdaaGreatDoorTie.lean); close each card by the builder's one call (the guide's Derived/Test/ToyasCard.lean, 'card_holds'). Laid BY PROGRAM, IN A SANDBOX (cutbox-door.mjs). By AI agents, Wed Nov 11 2026. No macro, syntax, notation, axiom, sorry.
-/
import Derived.Test.YtmelebfpkjnfdaaGreatDoorRows
import GoSem.ClaimSeven
namespace Go.Proofs.YtmelebfpkjnfdaaGreatDoor
namespace Rows

/-- THE TIED CARD OF 'observatorylaw23.MeritMatchesReference'. -/
def meritMatchesReferenceCard : Claim7 := { stood := { row := meritMatchesReferenceRow, standIns := [], harness := (true, "17de1bcd64b02a2fe2c5e4c8edbddecc4a12f417aa622ab64005134b11e179bf"), looks := true }, kinds := [], alts := [], laidByText := true, laidKinds := [.data, .data, .data, .sentinel, .sentinel], laidTests := true, laidLooks := .later }
def MeritMatchesReferenceCardSaid : Prop := Claim7.holds Tryz.pinned (.plain (OpenSpec.ofChange meritMatchesReferenceSpec)) meritMatchesReferenceCard

/-- THE TIED CARD OF 'observatorylaw23.MeritBounds'. -/
def meritBoundsCard : Claim7 := { stood := { row := meritBoundsRow, standIns := [], harness := (true, "17de1bcd64b02a2fe2c5e4c8edbddecc4a12f417aa622ab64005134b11e179bf"), looks := true }, kinds := [], alts := [], laidByText := true, laidKinds := [.data, .data, .data, .sentinel, .sentinel], laidTests := true, laidLooks := .later }
def MeritBoundsCardSaid : Prop := Claim7.holds Tryz.pinned (.plain (OpenSpec.ofChange meritBoundsSpec)) meritBoundsCard

/-- THE TIED CARD OF 'observatorylaw21.ExprMatchesReference'. -/
def exprMatchesReferenceCard : Claim7 := { stood := { row := exprMatchesReferenceRow, standIns := [], harness := (true, "17de1bcd64b02a2fe2c5e4c8edbddecc4a12f417aa622ab64005134b11e179bf"), looks := true }, kinds := [], alts := [], laidByText := true, laidKinds := [.data, .data, .data, .sentinel, .sentinel], laidTests := true, laidLooks := .later }
def ExprMatchesReferenceCardSaid : Prop := Claim7.holds Tryz.pinned (.plain (OpenSpec.ofChange exprMatchesReferenceSpec)) exprMatchesReferenceCard

/-- THE TIED CARD OF 'observatorylaw21.ExprTexts'. -/
def exprTextsCard : Claim7 := { stood := { row := exprTextsRow, standIns := [], harness := (true, "17de1bcd64b02a2fe2c5e4c8edbddecc4a12f417aa622ab64005134b11e179bf"), looks := true }, kinds := [], alts := [], laidByText := true, laidKinds := [.data, .data, .data, .sentinel, .sentinel], laidTests := true, laidLooks := .later }
def ExprTextsCardSaid : Prop := Claim7.holds Tryz.pinned (.plain (OpenSpec.ofChange exprTextsSpec)) exprTextsCard

/-- THE TIED CARD OF 'observatorylaw21.ExprGaps'. -/
def exprGapsCard : Claim7 := { stood := { row := exprGapsRow, standIns := [], harness := (true, "17de1bcd64b02a2fe2c5e4c8edbddecc4a12f417aa622ab64005134b11e179bf"), looks := true }, kinds := [], alts := [], laidByText := true, laidKinds := [.data, .data, .data, .sentinel, .sentinel], laidTests := true, laidLooks := .later }
def ExprGapsCardSaid : Prop := Claim7.holds Tryz.pinned (.plain (OpenSpec.ofChange exprGapsSpec)) exprGapsCard

/-- THE TIED CARD OF 'observatorylaw21.ExprParts'. -/
def exprPartsCard : Claim7 := { stood := { row := exprPartsRow, standIns := [], harness := (true, "17de1bcd64b02a2fe2c5e4c8edbddecc4a12f417aa622ab64005134b11e179bf"), looks := true }, kinds := [], alts := [], laidByText := true, laidKinds := [.data, .data, .data, .sentinel, .sentinel], laidTests := true, laidLooks := .later }
def ExprPartsCardSaid : Prop := Claim7.holds Tryz.pinned (.plain (OpenSpec.ofChange exprPartsSpec)) exprPartsCard

/-- THE TIED CARD OF 'observatorylaw21.ExprNames'. -/
def exprNamesCard : Claim7 := { stood := { row := exprNamesRow, standIns := [], harness := (true, "17de1bcd64b02a2fe2c5e4c8edbddecc4a12f417aa622ab64005134b11e179bf"), looks := true }, kinds := [], alts := [], laidByText := true, laidKinds := [.data, .data, .data, .sentinel, .sentinel], laidTests := true, laidLooks := .later }
def ExprNamesCardSaid : Prop := Claim7.holds Tryz.pinned (.plain (OpenSpec.ofChange exprNamesSpec)) exprNamesCard

/-- THE TIED CARD OF 'observatorylaw23.MeritVariables'. -/
def meritVariablesCard : Claim7 := { stood := { row := meritVariablesRow, standIns := [], harness := (true, "17de1bcd64b02a2fe2c5e4c8edbddecc4a12f417aa622ab64005134b11e179bf"), looks := true }, kinds := [], alts := [], laidByText := true, laidKinds := [.data, .data, .data, .sentinel, .sentinel], laidTests := true, laidLooks := .later }
def MeritVariablesCardSaid : Prop := Claim7.holds Tryz.pinned (.plain (OpenSpec.ofChange meritVariablesSpec)) meritVariablesCard

/-- THE SECOND FORM's CARD OF 'observatorylaw23.MeritMatchesReference'. -/
def meritMatchesReferenceUptoCard : Claim7 := { stood := { row := meritMatchesReferenceUptoRow, standIns := [], harness := (true, "17de1bcd64b02a2fe2c5e4c8edbddecc4a12f417aa622ab64005134b11e179bf"), looks := true }, kinds := [], alts := [], laidByText := true, laidKinds := [.data, .data, .data, .sentinel, .sentinel], laidTests := true, laidLooks := .later }
def MeritMatchesReferenceUptoCardSaid : Prop := Claim7.holds Tryz.pinned (.plain (OpenSpec.upto meritMatchesReferenceSpec)) meritMatchesReferenceUptoCard

/-- THE SECOND FORM's CARD OF 'observatorylaw23.MeritBounds'. -/
def meritBoundsUptoCard : Claim7 := { stood := { row := meritBoundsUptoRow, standIns := [], harness := (true, "17de1bcd64b02a2fe2c5e4c8edbddecc4a12f417aa622ab64005134b11e179bf"), looks := true }, kinds := [], alts := [], laidByText := true, laidKinds := [.data, .data, .data, .sentinel, .sentinel], laidTests := true, laidLooks := .later }
def MeritBoundsUptoCardSaid : Prop := Claim7.holds Tryz.pinned (.plain (OpenSpec.upto meritBoundsSpec)) meritBoundsUptoCard

/-- THE SECOND FORM's CARD OF 'observatorylaw21.ExprMatchesReference'. -/
def exprMatchesReferenceUptoCard : Claim7 := { stood := { row := exprMatchesReferenceUptoRow, standIns := [], harness := (true, "17de1bcd64b02a2fe2c5e4c8edbddecc4a12f417aa622ab64005134b11e179bf"), looks := true }, kinds := [], alts := [], laidByText := true, laidKinds := [.data, .data, .data, .sentinel, .sentinel], laidTests := true, laidLooks := .later }
def ExprMatchesReferenceUptoCardSaid : Prop := Claim7.holds Tryz.pinned (.plain (OpenSpec.upto exprMatchesReferenceSpec)) exprMatchesReferenceUptoCard

/-- THE SECOND FORM's CARD OF 'observatorylaw21.ExprTexts'. -/
def exprTextsUptoCard : Claim7 := { stood := { row := exprTextsUptoRow, standIns := [], harness := (true, "17de1bcd64b02a2fe2c5e4c8edbddecc4a12f417aa622ab64005134b11e179bf"), looks := true }, kinds := [], alts := [], laidByText := true, laidKinds := [.data, .data, .data, .sentinel, .sentinel], laidTests := true, laidLooks := .later }
def ExprTextsUptoCardSaid : Prop := Claim7.holds Tryz.pinned (.plain (OpenSpec.upto exprTextsSpec)) exprTextsUptoCard

/-- THE SECOND FORM's CARD OF 'observatorylaw21.ExprGaps'. -/
def exprGapsUptoCard : Claim7 := { stood := { row := exprGapsUptoRow, standIns := [], harness := (true, "17de1bcd64b02a2fe2c5e4c8edbddecc4a12f417aa622ab64005134b11e179bf"), looks := true }, kinds := [], alts := [], laidByText := true, laidKinds := [.data, .data, .data, .sentinel, .sentinel], laidTests := true, laidLooks := .later }
def ExprGapsUptoCardSaid : Prop := Claim7.holds Tryz.pinned (.plain (OpenSpec.upto exprGapsSpec)) exprGapsUptoCard

/-- THE SECOND FORM's CARD OF 'observatorylaw21.ExprParts'. -/
def exprPartsUptoCard : Claim7 := { stood := { row := exprPartsUptoRow, standIns := [], harness := (true, "17de1bcd64b02a2fe2c5e4c8edbddecc4a12f417aa622ab64005134b11e179bf"), looks := true }, kinds := [], alts := [], laidByText := true, laidKinds := [.data, .data, .data, .sentinel, .sentinel], laidTests := true, laidLooks := .later }
def ExprPartsUptoCardSaid : Prop := Claim7.holds Tryz.pinned (.plain (OpenSpec.upto exprPartsSpec)) exprPartsUptoCard

/-- THE SECOND FORM's CARD OF 'observatorylaw21.ExprNames'. -/
def exprNamesUptoCard : Claim7 := { stood := { row := exprNamesUptoRow, standIns := [], harness := (true, "17de1bcd64b02a2fe2c5e4c8edbddecc4a12f417aa622ab64005134b11e179bf"), looks := true }, kinds := [], alts := [], laidByText := true, laidKinds := [.data, .data, .data, .sentinel, .sentinel], laidTests := true, laidLooks := .later }
def ExprNamesUptoCardSaid : Prop := Claim7.holds Tryz.pinned (.plain (OpenSpec.upto exprNamesSpec)) exprNamesUptoCard

/-- THE SECOND FORM's CARD OF 'observatorylaw23.MeritVariables'. -/
def meritVariablesUptoCard : Claim7 := { stood := { row := meritVariablesUptoRow, standIns := [], harness := (true, "17de1bcd64b02a2fe2c5e4c8edbddecc4a12f417aa622ab64005134b11e179bf"), looks := true }, kinds := [], alts := [], laidByText := true, laidKinds := [.data, .data, .data, .sentinel, .sentinel], laidTests := true, laidLooks := .later }
def MeritVariablesUptoCardSaid : Prop := Claim7.holds Tryz.pinned (.plain (OpenSpec.upto meritVariablesSpec)) meritVariablesUptoCard
end Rows
end Go.Proofs.YtmelebfpkjnfdaaGreatDoor
