/-
  DERIVED. GIVEN WITH THE SEED: THE CARDS: each row of YtmelebfpkjnfdaaDoorRows.lean that lists a variable, with what it lists TIED to the program's text (the seventh form; the later family's looks); each row that meets fmt, with fmt's text TOLD by the authors' own Lean function (tested against real Go, not proved from fmt's source: count such statements apart). THE CARD IS WHAT COUNTS. Prove the row's statement (the work); the ties are given (YtmelebfpkjnfdaaDoorTie.lean); close each card by the builder's one call (the guide's Derived/Test/ToyasCard.lean, 'card_holds'). Laid BY PROGRAM, IN A SANDBOX (cutbox-door.mjs). By AI agents, Wed Nov 11 2026. No macro, syntax, notation, axiom, sorry.
-/
import Derived.Test.YtmelebfpkjnfdaaDoorRows
import GoSem.ClaimSeven
namespace Go.Proofs.YtmelebfpkjnfdaaDoor
namespace Rows

/-- THE TIED CARD OF 'observatorylaw23.MeritOperators'. -/
def meritOperatorsCard : Claim7 := { stood := { row := meritOperatorsRow, standIns := [], harness := (true, "a3315abdc2c0da9e3ea647ea152af2bea6e288461198feed4d3b0bad9bf0fbcb"), looks := true }, kinds := [], alts := [], laidByText := true, laidKinds := [.data, .data, .data, .sentinel, .sentinel], laidTests := true, laidLooks := .later }
def MeritOperatorsCardSaid : Prop := Claim7.holds Tryd.pinned (.plain (OpenSpec.ofChange meritOperatorsSpec)) meritOperatorsCard

/-- THE TIED CARD OF 'observatorylaw23.MeritChoices'. -/
def meritChoicesCard : Claim7 := { stood := { row := meritChoicesRow, standIns := [], harness := (true, "a3315abdc2c0da9e3ea647ea152af2bea6e288461198feed4d3b0bad9bf0fbcb"), looks := true }, kinds := [], alts := [], laidByText := true, laidKinds := [.data, .data, .data, .sentinel, .sentinel], laidTests := true, laidLooks := .later }
def MeritChoicesCardSaid : Prop := Claim7.holds Tryd.pinned (.plain (OpenSpec.ofChange meritChoicesSpec)) meritChoicesCard

/-- THE TIED CARD OF 'observatorylaw23.MeritClamps'. -/
def meritClampsCard : Claim7 := { stood := { row := meritClampsRow, standIns := [], harness := (true, "a3315abdc2c0da9e3ea647ea152af2bea6e288461198feed4d3b0bad9bf0fbcb"), looks := true }, kinds := [], alts := [], laidByText := true, laidKinds := [.data, .data, .data, .sentinel, .sentinel], laidTests := true, laidLooks := .later }
def MeritClampsCardSaid : Prop := Claim7.holds Tryd.pinned (.plain (OpenSpec.ofChange meritClampsSpec)) meritClampsCard

/-- THE TIED CARD OF 'observatorylaw23.MeritTexts'. -/
def meritTextsCard : Claim7 := { stood := { row := meritTextsRow, standIns := [], harness := (true, "a3315abdc2c0da9e3ea647ea152af2bea6e288461198feed4d3b0bad9bf0fbcb"), looks := true }, kinds := [], alts := [], laidByText := true, laidKinds := [.data, .data, .data, .sentinel, .sentinel], laidTests := true, laidLooks := .later }
def MeritTextsCardSaid : Prop := Claim7.holds Tryd.pinned (.plain (OpenSpec.ofChange meritTextsSpec)) meritTextsCard

/-- THE SECOND FORM's CARD OF 'observatorylaw23.MeritOperators'. -/
def meritOperatorsUptoCard : Claim7 := { stood := { row := meritOperatorsUptoRow, standIns := [], harness := (true, "a3315abdc2c0da9e3ea647ea152af2bea6e288461198feed4d3b0bad9bf0fbcb"), looks := true }, kinds := [], alts := [], laidByText := true, laidKinds := [.data, .data, .data, .sentinel, .sentinel], laidTests := true, laidLooks := .later }
def MeritOperatorsUptoCardSaid : Prop := Claim7.holds Tryd.pinned (.plain (OpenSpec.upto meritOperatorsSpec)) meritOperatorsUptoCard

/-- THE SECOND FORM's CARD OF 'observatorylaw23.MeritChoices'. -/
def meritChoicesUptoCard : Claim7 := { stood := { row := meritChoicesUptoRow, standIns := [], harness := (true, "a3315abdc2c0da9e3ea647ea152af2bea6e288461198feed4d3b0bad9bf0fbcb"), looks := true }, kinds := [], alts := [], laidByText := true, laidKinds := [.data, .data, .data, .sentinel, .sentinel], laidTests := true, laidLooks := .later }
def MeritChoicesUptoCardSaid : Prop := Claim7.holds Tryd.pinned (.plain (OpenSpec.upto meritChoicesSpec)) meritChoicesUptoCard

/-- THE SECOND FORM's CARD OF 'observatorylaw23.MeritClamps'. -/
def meritClampsUptoCard : Claim7 := { stood := { row := meritClampsUptoRow, standIns := [], harness := (true, "a3315abdc2c0da9e3ea647ea152af2bea6e288461198feed4d3b0bad9bf0fbcb"), looks := true }, kinds := [], alts := [], laidByText := true, laidKinds := [.data, .data, .data, .sentinel, .sentinel], laidTests := true, laidLooks := .later }
def MeritClampsUptoCardSaid : Prop := Claim7.holds Tryd.pinned (.plain (OpenSpec.upto meritClampsSpec)) meritClampsUptoCard

/-- THE SECOND FORM's CARD OF 'observatorylaw23.MeritTexts'. -/
def meritTextsUptoCard : Claim7 := { stood := { row := meritTextsUptoRow, standIns := [], harness := (true, "a3315abdc2c0da9e3ea647ea152af2bea6e288461198feed4d3b0bad9bf0fbcb"), looks := true }, kinds := [], alts := [], laidByText := true, laidKinds := [.data, .data, .data, .sentinel, .sentinel], laidTests := true, laidLooks := .later }
def MeritTextsUptoCardSaid : Prop := Claim7.holds Tryd.pinned (.plain (OpenSpec.upto meritTextsSpec)) meritTextsUptoCard
end Rows
end Go.Proofs.YtmelebfpkjnfdaaDoor
