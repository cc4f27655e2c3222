/-
  DERIVED. GIVEN WITH THE SEED: THE CARDS: each row of YtkomgidcgepknaaGreatDoorRows.lean that lists a variable, with what it lists TIED to the program's text (the seventh form; the later family's looks); each row that meets fmt, with fmt's text TOLD by the authors' own Lean function (tested against real Go, not proved from fmt's source: count such statements apart). THE CARD IS WHAT COUNTS. Prove the row's statement (the work); the ties are given (YtkomgidcgepknaaGreatDoorTie.lean); close each card by the builder's one call (the guide's Derived/Test/ToyasCard.lean, 'card_holds'). Laid BY PROGRAM, IN A SANDBOX (cutbox-door.mjs). By AI agents, Wed Nov 11 2026. No macro, syntax, notation, axiom, sorry.
-/
import Derived.Test.YtkomgidcgepknaaGreatDoorRows
import GoSem.ClaimSeven
namespace Go.Proofs.YtkomgidcgepknaaGreatDoor
namespace Rows

/-- THE TIED CARD OF 'observatorylaw37.FilterMatchesReference'. -/
def filterMatchesReferenceCard : Claim7 := { stood := { row := filterMatchesReferenceRow, standIns := [], harness := (true, "ad17d83b232640f655d18b6191d95754ae6af2fc0bf8f3516a20d75a33d7623b"), looks := true }, kinds := [], alts := [], laidByText := true, laidKinds := [.data, .data, .data, .sentinel, .sentinel], laidTests := true, laidLooks := .later }
def FilterMatchesReferenceCardSaid : Prop := Claim7.holds Tryz.pinned (.plain (OpenSpec.ofChange filterMatchesReferenceSpec)) filterMatchesReferenceCard

/-- THE TIED CARD OF 'observatorylaw37.FilterConditions'. -/
def filterConditionsCard : Claim7 := { stood := { row := filterConditionsRow, standIns := [], harness := (true, "ad17d83b232640f655d18b6191d95754ae6af2fc0bf8f3516a20d75a33d7623b"), looks := true }, kinds := [], alts := [], laidByText := true, laidKinds := [.data, .data, .data, .sentinel, .sentinel], laidTests := true, laidLooks := .later }
def FilterConditionsCardSaid : Prop := Claim7.holds Tryz.pinned (.plain (OpenSpec.ofChange filterConditionsSpec)) filterConditionsCard

/-- THE TIED CARD OF 'observatorylaw37.FilterParts'. -/
def filterPartsCard : Claim7 := { stood := { row := filterPartsRow, standIns := [], harness := (true, "ad17d83b232640f655d18b6191d95754ae6af2fc0bf8f3516a20d75a33d7623b"), looks := true }, kinds := [], alts := [], laidByText := true, laidKinds := [.data, .data, .data, .sentinel, .sentinel], laidTests := true, laidLooks := .later }
def FilterPartsCardSaid : Prop := Claim7.holds Tryz.pinned (.plain (OpenSpec.ofChange filterPartsSpec)) filterPartsCard

/-- THE TIED CARD OF 'observatorylaw37.FilterAny'. -/
def filterAnyCard : Claim7 := { stood := { row := filterAnyRow, standIns := [], harness := (true, "ad17d83b232640f655d18b6191d95754ae6af2fc0bf8f3516a20d75a33d7623b"), looks := true }, kinds := [], alts := [], laidByText := true, laidKinds := [.data, .data, .data, .sentinel, .sentinel], laidTests := true, laidLooks := .later }
def FilterAnyCardSaid : Prop := Claim7.holds Tryz.pinned (.plain (OpenSpec.ofChange filterAnySpec)) filterAnyCard

/-- THE TIED CARD OF 'observatorylaw37.FilterCopies'. -/
def filterCopiesCard : Claim7 := { stood := { row := filterCopiesRow, standIns := [], harness := (true, "ad17d83b232640f655d18b6191d95754ae6af2fc0bf8f3516a20d75a33d7623b"), looks := true }, kinds := [], alts := [], laidByText := true, laidKinds := [.data, .data, .data, .sentinel, .sentinel], laidTests := true, laidLooks := .later }
def FilterCopiesCardSaid : Prop := Claim7.holds Tryz.pinned (.plain (OpenSpec.ofChange filterCopiesSpec)) filterCopiesCard

/-- THE TIED CARD OF 'observatorylaw21.ExprMatchesReference'. -/
def exprMatchesReferenceCard : Claim7 := { stood := { row := exprMatchesReferenceRow, standIns := [], harness := (true, "ad17d83b232640f655d18b6191d95754ae6af2fc0bf8f3516a20d75a33d7623b"), looks := true }, kinds := [], alts := [], laidByText := true, laidKinds := [.data, .data, .data, .sentinel, .sentinel], laidTests := true, laidLooks := .later }
def ExprMatchesReferenceCardSaid : Prop := Claim7.holds Tryz.pinned (.plain (OpenSpec.ofChange exprMatchesReferenceSpec)) exprMatchesReferenceCard

/-- THE TIED CARD OF 'observatorylaw21.ExprParts'. -/
def exprPartsCard : Claim7 := { stood := { row := exprPartsRow, standIns := [], harness := (true, "ad17d83b232640f655d18b6191d95754ae6af2fc0bf8f3516a20d75a33d7623b"), looks := true }, kinds := [], alts := [], laidByText := true, laidKinds := [.data, .data, .data, .sentinel, .sentinel], laidTests := true, laidLooks := .later }
def ExprPartsCardSaid : Prop := Claim7.holds Tryz.pinned (.plain (OpenSpec.ofChange exprPartsSpec)) exprPartsCard

/-- THE TIED CARD OF 'observatorylaw23.MeritVariables'. -/
def meritVariablesCard : Claim7 := { stood := { row := meritVariablesRow, standIns := [], harness := (true, "ad17d83b232640f655d18b6191d95754ae6af2fc0bf8f3516a20d75a33d7623b"), looks := true }, kinds := [], alts := [], laidByText := true, laidKinds := [.data, .data, .data, .sentinel, .sentinel], laidTests := true, laidLooks := .later }
def MeritVariablesCardSaid : Prop := Claim7.holds Tryz.pinned (.plain (OpenSpec.ofChange meritVariablesSpec)) meritVariablesCard

/-- THE SECOND FORM's CARD OF 'observatorylaw37.FilterMatchesReference'. -/
def filterMatchesReferenceUptoCard : Claim7 := { stood := { row := filterMatchesReferenceUptoRow, standIns := [], harness := (true, "ad17d83b232640f655d18b6191d95754ae6af2fc0bf8f3516a20d75a33d7623b"), looks := true }, kinds := [], alts := [], laidByText := true, laidKinds := [.data, .data, .data, .sentinel, .sentinel], laidTests := true, laidLooks := .later }
def FilterMatchesReferenceUptoCardSaid : Prop := Claim7.holds Tryz.pinned (.plain (OpenSpec.upto filterMatchesReferenceSpec)) filterMatchesReferenceUptoCard

/-- THE SECOND FORM's CARD OF 'observatorylaw37.FilterConditions'. -/
def filterConditionsUptoCard : Claim7 := { stood := { row := filterConditionsUptoRow, standIns := [], harness := (true, "ad17d83b232640f655d18b6191d95754ae6af2fc0bf8f3516a20d75a33d7623b"), looks := true }, kinds := [], alts := [], laidByText := true, laidKinds := [.data, .data, .data, .sentinel, .sentinel], laidTests := true, laidLooks := .later }
def FilterConditionsUptoCardSaid : Prop := Claim7.holds Tryz.pinned (.plain (OpenSpec.upto filterConditionsSpec)) filterConditionsUptoCard

/-- THE SECOND FORM's CARD OF 'observatorylaw37.FilterParts'. -/
def filterPartsUptoCard : Claim7 := { stood := { row := filterPartsUptoRow, standIns := [], harness := (true, "ad17d83b232640f655d18b6191d95754ae6af2fc0bf8f3516a20d75a33d7623b"), looks := true }, kinds := [], alts := [], laidByText := true, laidKinds := [.data, .data, .data, .sentinel, .sentinel], laidTests := true, laidLooks := .later }
def FilterPartsUptoCardSaid : Prop := Claim7.holds Tryz.pinned (.plain (OpenSpec.upto filterPartsSpec)) filterPartsUptoCard

/-- THE SECOND FORM's CARD OF 'observatorylaw37.FilterAny'. -/
def filterAnyUptoCard : Claim7 := { stood := { row := filterAnyUptoRow, standIns := [], harness := (true, "ad17d83b232640f655d18b6191d95754ae6af2fc0bf8f3516a20d75a33d7623b"), looks := true }, kinds := [], alts := [], laidByText := true, laidKinds := [.data, .data, .data, .sentinel, .sentinel], laidTests := true, laidLooks := .later }
def FilterAnyUptoCardSaid : Prop := Claim7.holds Tryz.pinned (.plain (OpenSpec.upto filterAnySpec)) filterAnyUptoCard

/-- THE SECOND FORM's CARD OF 'observatorylaw37.FilterCopies'. -/
def filterCopiesUptoCard : Claim7 := { stood := { row := filterCopiesUptoRow, standIns := [], harness := (true, "ad17d83b232640f655d18b6191d95754ae6af2fc0bf8f3516a20d75a33d7623b"), looks := true }, kinds := [], alts := [], laidByText := true, laidKinds := [.data, .data, .data, .sentinel, .sentinel], laidTests := true, laidLooks := .later }
def FilterCopiesUptoCardSaid : Prop := Claim7.holds Tryz.pinned (.plain (OpenSpec.upto filterCopiesSpec)) filterCopiesUptoCard

/-- THE SECOND FORM's CARD OF 'observatorylaw21.ExprMatchesReference'. -/
def exprMatchesReferenceUptoCard : Claim7 := { stood := { row := exprMatchesReferenceUptoRow, standIns := [], harness := (true, "ad17d83b232640f655d18b6191d95754ae6af2fc0bf8f3516a20d75a33d7623b"), looks := true }, kinds := [], alts := [], laidByText := true, laidKinds := [.data, .data, .data, .sentinel, .sentinel], laidTests := true, laidLooks := .later }
def ExprMatchesReferenceUptoCardSaid : Prop := Claim7.holds Tryz.pinned (.plain (OpenSpec.upto exprMatchesReferenceSpec)) exprMatchesReferenceUptoCard

/-- THE SECOND FORM's CARD OF 'observatorylaw21.ExprParts'. -/
def exprPartsUptoCard : Claim7 := { stood := { row := exprPartsUptoRow, standIns := [], harness := (true, "ad17d83b232640f655d18b6191d95754ae6af2fc0bf8f3516a20d75a33d7623b"), looks := true }, kinds := [], alts := [], laidByText := true, laidKinds := [.data, .data, .data, .sentinel, .sentinel], laidTests := true, laidLooks := .later }
def ExprPartsUptoCardSaid : Prop := Claim7.holds Tryz.pinned (.plain (OpenSpec.upto exprPartsSpec)) exprPartsUptoCard

/-- THE SECOND FORM's CARD OF 'observatorylaw23.MeritVariables'. -/
def meritVariablesUptoCard : Claim7 := { stood := { row := meritVariablesUptoRow, standIns := [], harness := (true, "ad17d83b232640f655d18b6191d95754ae6af2fc0bf8f3516a20d75a33d7623b"), looks := true }, kinds := [], alts := [], laidByText := true, laidKinds := [.data, .data, .data, .sentinel, .sentinel], laidTests := true, laidLooks := .later }
def MeritVariablesUptoCardSaid : Prop := Claim7.holds Tryz.pinned (.plain (OpenSpec.upto meritVariablesSpec)) meritVariablesUptoCard
end Rows
end Go.Proofs.YtkomgidcgepknaaGreatDoor
