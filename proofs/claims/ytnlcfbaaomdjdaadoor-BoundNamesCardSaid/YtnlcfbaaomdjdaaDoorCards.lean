/-
  DERIVED. GIVEN WITH THE SEED: THE CARDS: each row of YtnlcfbaaomdjdaaDoorRows.lean that lists a variable, with what it lists TIED to the program's text (the seventh form; the later family's looks); each row that meets fmt, with fmt's text TOLD by the authors' own Lean function (tested against real Go, not proved from fmt's source: count such statements apart). THE CARD IS WHAT COUNTS. Prove the row's statement (the work); the ties are given (YtnlcfbaaomdjdaaDoorTie.lean); close each card by the builder's one call (the guide's Derived/Test/ToyasCard.lean, 'card_holds'). Laid BY PROGRAM, IN A SANDBOX (cutbox-door.mjs). By AI agents, Wed Nov 11 2026. No macro, syntax, notation, axiom, sorry.
-/
import Derived.Test.YtnlcfbaaomdjdaaDoorRows
import GoSem.ClaimSeven
namespace Go.Proofs.YtnlcfbaaomdjdaaDoor
namespace Rows

/-- THE TIED CARD OF 'observatorylaw22.BoundSound'. -/
def boundSoundCard : Claim7 := { stood := { row := boundSoundRow, standIns := [], harness := (true, "1f020c08db5902bfd854f60af538652dd4efa10b1b038345da2c3de4c02effc3"), looks := true }, kinds := [], alts := [], laidByText := true, laidKinds := [.data, .data, .data, .sentinel, .sentinel], laidTests := true, laidLooks := .later }
def BoundSoundCardSaid : Prop := Claim7.holds Tryd.pinned (.plain (OpenSpec.ofChange boundSoundSpec)) boundSoundCard

/-- THE TIED CARD OF 'observatorylaw22.BoundExact'. -/
def boundExactCard : Claim7 := { stood := { row := boundExactRow, standIns := [], harness := (true, "1f020c08db5902bfd854f60af538652dd4efa10b1b038345da2c3de4c02effc3"), looks := true }, kinds := [], alts := [], laidByText := true, laidKinds := [.data, .data, .data, .sentinel, .sentinel], laidTests := true, laidLooks := .later }
def BoundExactCardSaid : Prop := Claim7.holds Tryd.pinned (.plain (OpenSpec.ofChange boundExactSpec)) boundExactCard

/-- THE TIED CARD OF 'observatorylaw22.BoundNarrower'. -/
def boundNarrowerCard : Claim7 := { stood := { row := boundNarrowerRow, standIns := [], harness := (true, "1f020c08db5902bfd854f60af538652dd4efa10b1b038345da2c3de4c02effc3"), looks := true }, kinds := [], alts := [], laidByText := true, laidKinds := [.data, .data, .data, .sentinel, .sentinel], laidTests := true, laidLooks := .later }
def BoundNarrowerCardSaid : Prop := Claim7.holds Tryd.pinned (.plain (OpenSpec.ofChange boundNarrowerSpec)) boundNarrowerCard

/-- THE TIED CARD OF 'observatorylaw22.BoundNames'. -/
def boundNamesCard : Claim7 := { stood := { row := boundNamesRow, standIns := [], harness := (true, "1f020c08db5902bfd854f60af538652dd4efa10b1b038345da2c3de4c02effc3"), looks := true }, kinds := [], alts := [], laidByText := true, laidKinds := [.data, .data, .data, .sentinel, .sentinel], laidTests := true, laidLooks := .later }
def BoundNamesCardSaid : Prop := Claim7.holds Tryd.pinned (.plain (OpenSpec.ofChange boundNamesSpec)) boundNamesCard

/-- THE TIED CARD OF 'observatorylaw22.BoundErrors'. -/
def boundErrorsCard : Claim7 := { stood := { row := boundErrorsRow, standIns := [], harness := (true, "1f020c08db5902bfd854f60af538652dd4efa10b1b038345da2c3de4c02effc3"), looks := true }, kinds := [], alts := [], laidByText := true, laidKinds := [.data, .data, .data, .sentinel, .sentinel], laidTests := true, laidLooks := .later }
def BoundErrorsCardSaid : Prop := Claim7.holds Tryd.pinned (.plain (OpenSpec.ofChange boundErrorsSpec)) boundErrorsCard

/-- THE SECOND FORM's CARD OF 'observatorylaw22.BoundSound'. -/
def boundSoundUptoCard : Claim7 := { stood := { row := boundSoundUptoRow, standIns := [], harness := (true, "1f020c08db5902bfd854f60af538652dd4efa10b1b038345da2c3de4c02effc3"), looks := true }, kinds := [], alts := [], laidByText := true, laidKinds := [.data, .data, .data, .sentinel, .sentinel], laidTests := true, laidLooks := .later }
def BoundSoundUptoCardSaid : Prop := Claim7.holds Tryd.pinned (.plain (OpenSpec.upto boundSoundSpec)) boundSoundUptoCard

/-- THE SECOND FORM's CARD OF 'observatorylaw22.BoundExact'. -/
def boundExactUptoCard : Claim7 := { stood := { row := boundExactUptoRow, standIns := [], harness := (true, "1f020c08db5902bfd854f60af538652dd4efa10b1b038345da2c3de4c02effc3"), looks := true }, kinds := [], alts := [], laidByText := true, laidKinds := [.data, .data, .data, .sentinel, .sentinel], laidTests := true, laidLooks := .later }
def BoundExactUptoCardSaid : Prop := Claim7.holds Tryd.pinned (.plain (OpenSpec.upto boundExactSpec)) boundExactUptoCard

/-- THE SECOND FORM's CARD OF 'observatorylaw22.BoundNarrower'. -/
def boundNarrowerUptoCard : Claim7 := { stood := { row := boundNarrowerUptoRow, standIns := [], harness := (true, "1f020c08db5902bfd854f60af538652dd4efa10b1b038345da2c3de4c02effc3"), looks := true }, kinds := [], alts := [], laidByText := true, laidKinds := [.data, .data, .data, .sentinel, .sentinel], laidTests := true, laidLooks := .later }
def BoundNarrowerUptoCardSaid : Prop := Claim7.holds Tryd.pinned (.plain (OpenSpec.upto boundNarrowerSpec)) boundNarrowerUptoCard

/-- THE SECOND FORM's CARD OF 'observatorylaw22.BoundNames'. -/
def boundNamesUptoCard : Claim7 := { stood := { row := boundNamesUptoRow, standIns := [], harness := (true, "1f020c08db5902bfd854f60af538652dd4efa10b1b038345da2c3de4c02effc3"), looks := true }, kinds := [], alts := [], laidByText := true, laidKinds := [.data, .data, .data, .sentinel, .sentinel], laidTests := true, laidLooks := .later }
def BoundNamesUptoCardSaid : Prop := Claim7.holds Tryd.pinned (.plain (OpenSpec.upto boundNamesSpec)) boundNamesUptoCard

/-- THE SECOND FORM's CARD OF 'observatorylaw22.BoundErrors'. -/
def boundErrorsUptoCard : Claim7 := { stood := { row := boundErrorsUptoRow, standIns := [], harness := (true, "1f020c08db5902bfd854f60af538652dd4efa10b1b038345da2c3de4c02effc3"), looks := true }, kinds := [], alts := [], laidByText := true, laidKinds := [.data, .data, .data, .sentinel, .sentinel], laidTests := true, laidLooks := .later }
def BoundErrorsUptoCardSaid : Prop := Claim7.holds Tryd.pinned (.plain (OpenSpec.upto boundErrorsSpec)) boundErrorsUptoCard
end Rows
end Go.Proofs.YtnlcfbaaomdjdaaDoor
