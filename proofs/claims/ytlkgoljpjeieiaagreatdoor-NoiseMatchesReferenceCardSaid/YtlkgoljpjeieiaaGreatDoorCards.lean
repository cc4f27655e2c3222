/-
  DERIVED. GIVEN WITH THE SEED: THE CARDS: each row of YtlkgoljpjeieiaaGreatDoorRows.lean that lists a variable, with what it lists TIED to the program's text (the seventh form; the later family's looks); each row that meets fmt, with fmt's text TOLD by the authors' own Lean function (tested against real Go, not proved from fmt's source: count such statements apart). THE CARD IS WHAT COUNTS. Prove the row's statement (the work); the ties are given (YtlkgoljpjeieiaaGreatDoorTie.lean); close each card by the builder's one call (the guide's Derived/Test/ToyasCard.lean, 'card_holds'). Laid BY PROGRAM, IN A SANDBOX (cutbox-door.mjs). By AI agents, Wed Nov 11 2026. No macro, syntax, notation, axiom, sorry.
-/
import Derived.Test.YtlkgoljpjeieiaaGreatDoorRows
import GoSem.ClaimSeven
namespace Go.Proofs.YtlkgoljpjeieiaaGreatDoor
namespace Rows

/-- THE TIED CARD OF 'observatorylaw17.NoiseMatchesReference'. -/
def noiseMatchesReferenceCard : Claim7 := { stood := { row := noiseMatchesReferenceRow, standIns := [], harness := (true, "fa1f4a58079d59729493686ca054d9dfc3b624bb644dd8cb8e49b9adfde7ddf4"), looks := true }, kinds := [], alts := [], laidByText := true, laidKinds := [.data, .data, .data, .data, .sentinel, .sentinel, .pinned], laidTests := true, laidLooks := .later }
def NoiseMatchesReferenceCardSaid : Prop := Claim7.holds Tryz.pinned (.plain (OpenSpec.ofChange noiseMatchesReferenceSpec)) noiseMatchesReferenceCard

/-- THE TIED CARD OF 'observatorylaw17.NoiseShifts'. -/
def noiseShiftsCard : Claim7 := { stood := { row := noiseShiftsRow, standIns := [], harness := (true, "fa1f4a58079d59729493686ca054d9dfc3b624bb644dd8cb8e49b9adfde7ddf4"), looks := true }, kinds := [], alts := [], laidByText := true, laidKinds := [.data, .data, .data, .data, .sentinel, .sentinel, .pinned], laidTests := true, laidLooks := .later }
def NoiseShiftsCardSaid : Prop := Claim7.holds Tryz.pinned (.plain (OpenSpec.ofChange noiseShiftsSpec)) noiseShiftsCard

/-- THE TIED CARD OF 'observatorylaw17.NoiseTotals'. -/
def noiseTotalsCard : Claim7 := { stood := { row := noiseTotalsRow, standIns := [], harness := (true, "fa1f4a58079d59729493686ca054d9dfc3b624bb644dd8cb8e49b9adfde7ddf4"), looks := true }, kinds := [], alts := [], laidByText := true, laidKinds := [.data, .data, .data, .data, .sentinel, .sentinel, .pinned], laidTests := true, laidLooks := .later }
def NoiseTotalsCardSaid : Prop := Claim7.holds Tryz.pinned (.plain (OpenSpec.ofChange noiseTotalsSpec)) noiseTotalsCard

/-- THE TIED CARD OF 'observatorylaw17.NoiseConvolves'. -/
def noiseConvolvesCard : Claim7 := { stood := { row := noiseConvolvesRow, standIns := [], harness := (true, "fa1f4a58079d59729493686ca054d9dfc3b624bb644dd8cb8e49b9adfde7ddf4"), looks := true }, kinds := [], alts := [], laidByText := true, laidKinds := [.data, .data, .data, .data, .sentinel, .sentinel, .pinned], laidTests := true, laidLooks := .later }
def NoiseConvolvesCardSaid : Prop := Claim7.holds Tryz.pinned (.plain (OpenSpec.ofChange noiseConvolvesSpec)) noiseConvolvesCard

/-- THE TIED CARD OF 'observatorylaw17.NoiseCases'. -/
def noiseCasesCard : Claim7 := { stood := { row := noiseCasesRow, standIns := [], harness := (true, "fa1f4a58079d59729493686ca054d9dfc3b624bb644dd8cb8e49b9adfde7ddf4"), looks := true }, kinds := [], alts := [], laidByText := true, laidKinds := [.data, .data, .data, .data, .sentinel, .sentinel, .pinned], laidTests := true, laidLooks := .later }
def NoiseCasesCardSaid : Prop := Claim7.holds Tryz.pinned (.plain (OpenSpec.ofChange noiseCasesSpec)) noiseCasesCard

/-- THE TIED CARD OF 'observatorylaw17.NoiseTails'. -/
def noiseTailsCard : Claim7 := { stood := { row := noiseTailsRow, standIns := [], harness := (true, "fa1f4a58079d59729493686ca054d9dfc3b624bb644dd8cb8e49b9adfde7ddf4"), looks := true }, kinds := [], alts := [], laidByText := true, laidKinds := [.data, .data, .data, .data, .sentinel, .sentinel, .pinned], laidTests := true, laidLooks := .later }
def NoiseTailsCardSaid : Prop := Claim7.holds Tryz.pinned (.plain (OpenSpec.ofChange noiseTailsSpec)) noiseTailsCard

/-- THE SECOND FORM's CARD OF 'observatorylaw17.NoiseMatchesReference'. -/
def noiseMatchesReferenceUptoCard : Claim7 := { stood := { row := noiseMatchesReferenceUptoRow, standIns := [], harness := (true, "fa1f4a58079d59729493686ca054d9dfc3b624bb644dd8cb8e49b9adfde7ddf4"), looks := true }, kinds := [], alts := [], laidByText := true, laidKinds := [.data, .data, .data, .data, .sentinel, .sentinel, .pinned], laidTests := true, laidLooks := .later }
def NoiseMatchesReferenceUptoCardSaid : Prop := Claim7.holds Tryz.pinned (.plain (OpenSpec.upto noiseMatchesReferenceSpec)) noiseMatchesReferenceUptoCard

/-- THE SECOND FORM's CARD OF 'observatorylaw17.NoiseShifts'. -/
def noiseShiftsUptoCard : Claim7 := { stood := { row := noiseShiftsUptoRow, standIns := [], harness := (true, "fa1f4a58079d59729493686ca054d9dfc3b624bb644dd8cb8e49b9adfde7ddf4"), looks := true }, kinds := [], alts := [], laidByText := true, laidKinds := [.data, .data, .data, .data, .sentinel, .sentinel, .pinned], laidTests := true, laidLooks := .later }
def NoiseShiftsUptoCardSaid : Prop := Claim7.holds Tryz.pinned (.plain (OpenSpec.upto noiseShiftsSpec)) noiseShiftsUptoCard

/-- THE SECOND FORM's CARD OF 'observatorylaw17.NoiseTotals'. -/
def noiseTotalsUptoCard : Claim7 := { stood := { row := noiseTotalsUptoRow, standIns := [], harness := (true, "fa1f4a58079d59729493686ca054d9dfc3b624bb644dd8cb8e49b9adfde7ddf4"), looks := true }, kinds := [], alts := [], laidByText := true, laidKinds := [.data, .data, .data, .data, .sentinel, .sentinel, .pinned], laidTests := true, laidLooks := .later }
def NoiseTotalsUptoCardSaid : Prop := Claim7.holds Tryz.pinned (.plain (OpenSpec.upto noiseTotalsSpec)) noiseTotalsUptoCard

/-- THE SECOND FORM's CARD OF 'observatorylaw17.NoiseConvolves'. -/
def noiseConvolvesUptoCard : Claim7 := { stood := { row := noiseConvolvesUptoRow, standIns := [], harness := (true, "fa1f4a58079d59729493686ca054d9dfc3b624bb644dd8cb8e49b9adfde7ddf4"), looks := true }, kinds := [], alts := [], laidByText := true, laidKinds := [.data, .data, .data, .data, .sentinel, .sentinel, .pinned], laidTests := true, laidLooks := .later }
def NoiseConvolvesUptoCardSaid : Prop := Claim7.holds Tryz.pinned (.plain (OpenSpec.upto noiseConvolvesSpec)) noiseConvolvesUptoCard

/-- THE SECOND FORM's CARD OF 'observatorylaw17.NoiseCases'. -/
def noiseCasesUptoCard : Claim7 := { stood := { row := noiseCasesUptoRow, standIns := [], harness := (true, "fa1f4a58079d59729493686ca054d9dfc3b624bb644dd8cb8e49b9adfde7ddf4"), looks := true }, kinds := [], alts := [], laidByText := true, laidKinds := [.data, .data, .data, .data, .sentinel, .sentinel, .pinned], laidTests := true, laidLooks := .later }
def NoiseCasesUptoCardSaid : Prop := Claim7.holds Tryz.pinned (.plain (OpenSpec.upto noiseCasesSpec)) noiseCasesUptoCard

/-- THE SECOND FORM's CARD OF 'observatorylaw17.NoiseTails'. -/
def noiseTailsUptoCard : Claim7 := { stood := { row := noiseTailsUptoRow, standIns := [], harness := (true, "fa1f4a58079d59729493686ca054d9dfc3b624bb644dd8cb8e49b9adfde7ddf4"), looks := true }, kinds := [], alts := [], laidByText := true, laidKinds := [.data, .data, .data, .data, .sentinel, .sentinel, .pinned], laidTests := true, laidLooks := .later }
def NoiseTailsUptoCardSaid : Prop := Claim7.holds Tryz.pinned (.plain (OpenSpec.upto noiseTailsSpec)) noiseTailsUptoCard
end Rows
end Go.Proofs.YtlkgoljpjeieiaaGreatDoor
