/-
  No cell of these rows narrows 'for every input' (looked for: loops, veiled, ifaces, maps, wideKeys, modest, calm, conditions, laid).
  DERIVED. THE GIVEN ROWS OF THIS SEAT. 6 by the template 'for every input the law returns true; each argument reads behind the call as it read before'; 0 by the template 'total and deterministic' (their statements: YteknmllcpemnoaaTotals.lean).
  GIVEN WITH THE SEED: the statements are not yours to turn. If you find one false, say at which input.
  Laid BY PROGRAM, IN A SANDBOX (cutbox-rows.mjs): the forced cells as the released guide's own fill.sh prints them over the translation 86f7d85517209766… (all of the seat's roots in one cut). By AI agents, Wed Nov 11 2026. No macro, syntax, notation, axiom, sorry.
-/
import Derived.Test.YteknmllcpemnoaaChecked
import GoSem.Claim
import GoSem.ClaimJoined
import GoSem.ClaimMapViews
import Derived.JoinedTies
import Derived.KernelRfl
namespace Go.Proofs.Yteknmllcpemnoaa
/- THE CELL 'sum', in the pinned program and in every row, IS THE sha256 OF THE DUMP (.gsa) THAT YteknmllcpemnoaaProg.lean LOADS. Nothing in Lean hashes anything: it is a label: what it is worth is what the hold of that sum in a sandbox is worth. -/
noncomputable def Try.pinned : Pinned := { name := "yteknmllcpemnoaa", sum := "86f7d855172097669979cbfe17b0a462a713049bc773ff91fb931d95d0459a5f", checked := Try.checked }
namespace Rows
def none {H : Type} : Left H := { results := [], args := [] }

/-- 'observatorylaw28.ApportionMatchesReference': WHATEVER THE INPUT: true; the input reads as it did. -/
def apportionMatchesReferenceSpec : ChangeSpec := { name := "apportionMatchesReference", fn := fun _ => fun
  | [d1, d2] => { results := [.lit (.bool true)], args := [d1, d2] }
  | _ => none }
def apportionMatchesReferenceRow : OpenClaim := { program := "yteknmllcpemnoaa", sum := "86f7d855172097669979cbfe17b0a462a713049bc773ff91fb931d95d0459a5f", func := "observatory/observatorylaw28.ApportionMatchesReference", spec := "apportionMatchesReference", unfollowed := true, recurses := true, apart := false }
def ApportionMatchesReferenceSaid : Prop := apportionMatchesReferenceRow.holds Try.pinned (OpenSpec.ofChange apportionMatchesReferenceSpec)

/-- ITS FALSE NEIGHBOUR: 'it returns false'. Refute it at one input. -/
def apportionMatchesReferenceWrong : ChangeSpec := { name := "apportionMatchesReference", fn := fun _ => fun
  | [d1, d2] => { results := [.lit (.bool false)], args := [d1, d2] }
  | _ => none }
def ApportionMatchesReferenceWrongFalsely : Prop := apportionMatchesReferenceRow.holds Try.pinned (OpenSpec.ofChange apportionMatchesReferenceWrong)

/-- 'observatorylaw28.ApportionSum': WHATEVER THE INPUT: true; the input reads as it did. -/
def apportionSumSpec : ChangeSpec := { name := "apportionSum", fn := fun _ => fun
  | [d1, d2] => { results := [.lit (.bool true)], args := [d1, d2] }
  | _ => none }
def apportionSumRow : OpenClaim := { program := "yteknmllcpemnoaa", sum := "86f7d855172097669979cbfe17b0a462a713049bc773ff91fb931d95d0459a5f", func := "observatory/observatorylaw28.ApportionSum", spec := "apportionSum", unfollowed := true, recurses := true, apart := false }
def ApportionSumSaid : Prop := apportionSumRow.holds Try.pinned (OpenSpec.ofChange apportionSumSpec)

/-- ITS FALSE NEIGHBOUR: 'it returns false'. Refute it at one input. -/
def apportionSumWrong : ChangeSpec := { name := "apportionSum", fn := fun _ => fun
  | [d1, d2] => { results := [.lit (.bool false)], args := [d1, d2] }
  | _ => none }
def ApportionSumWrongFalsely : Prop := apportionSumRow.holds Try.pinned (OpenSpec.ofChange apportionSumWrong)

/-- 'observatorylaw28.ApportionNext': WHATEVER THE INPUT: true; the input reads as it did. -/
def apportionNextSpec : ChangeSpec := { name := "apportionNext", fn := fun _ => fun
  | [d1, d2] => { results := [.lit (.bool true)], args := [d1, d2] }
  | _ => none }
def apportionNextRow : OpenClaim := { program := "yteknmllcpemnoaa", sum := "86f7d855172097669979cbfe17b0a462a713049bc773ff91fb931d95d0459a5f", func := "observatory/observatorylaw28.ApportionNext", spec := "apportionNext", unfollowed := true, recurses := true, apart := false }
def ApportionNextSaid : Prop := apportionNextRow.holds Try.pinned (OpenSpec.ofChange apportionNextSpec)

/-- ITS FALSE NEIGHBOUR: 'it returns false'. Refute it at one input. -/
def apportionNextWrong : ChangeSpec := { name := "apportionNext", fn := fun _ => fun
  | [d1, d2] => { results := [.lit (.bool false)], args := [d1, d2] }
  | _ => none }
def ApportionNextWrongFalsely : Prop := apportionNextRow.holds Try.pinned (OpenSpec.ofChange apportionNextWrong)

/-- 'observatorylaw28.ApportionOrder': WHATEVER THE INPUT: true; the input reads as it did. -/
def apportionOrderSpec : ChangeSpec := { name := "apportionOrder", fn := fun _ => fun
  | [d1, d2] => { results := [.lit (.bool true)], args := [d1, d2] }
  | _ => none }
def apportionOrderRow : OpenClaim := { program := "yteknmllcpemnoaa", sum := "86f7d855172097669979cbfe17b0a462a713049bc773ff91fb931d95d0459a5f", func := "observatory/observatorylaw28.ApportionOrder", spec := "apportionOrder", unfollowed := true, recurses := true, apart := false }
def ApportionOrderSaid : Prop := apportionOrderRow.holds Try.pinned (OpenSpec.ofChange apportionOrderSpec)

/-- ITS FALSE NEIGHBOUR: 'it returns false'. Refute it at one input. -/
def apportionOrderWrong : ChangeSpec := { name := "apportionOrder", fn := fun _ => fun
  | [d1, d2] => { results := [.lit (.bool false)], args := [d1, d2] }
  | _ => none }
def ApportionOrderWrongFalsely : Prop := apportionOrderRow.holds Try.pinned (OpenSpec.ofChange apportionOrderWrong)

/-- 'observatorylaw28.ApportionGrows': WHATEVER THE INPUT: true; the input reads as it did. -/
def apportionGrowsSpec : ChangeSpec := { name := "apportionGrows", fn := fun _ => fun
  | [d1, d2, d3, d4] => { results := [.lit (.bool true)], args := [d1, d2, d3, d4] }
  | _ => none }
def apportionGrowsRow : OpenClaim := { program := "yteknmllcpemnoaa", sum := "86f7d855172097669979cbfe17b0a462a713049bc773ff91fb931d95d0459a5f", func := "observatory/observatorylaw28.ApportionGrows", spec := "apportionGrows", unfollowed := true, recurses := true, apart := false }
def ApportionGrowsSaid : Prop := apportionGrowsRow.holds Try.pinned (OpenSpec.ofChange apportionGrowsSpec)

/-- ITS FALSE NEIGHBOUR: 'it returns false'. Refute it at one input. -/
def apportionGrowsWrong : ChangeSpec := { name := "apportionGrows", fn := fun _ => fun
  | [d1, d2, d3, d4] => { results := [.lit (.bool false)], args := [d1, d2, d3, d4] }
  | _ => none }
def ApportionGrowsWrongFalsely : Prop := apportionGrowsRow.holds Try.pinned (OpenSpec.ofChange apportionGrowsWrong)

/-- 'observatorylaw28.ApportionScales': WHATEVER THE INPUT: true; the input reads as it did. -/
def apportionScalesSpec : ChangeSpec := { name := "apportionScales", fn := fun _ => fun
  | [d1, d2, d3, d4] => { results := [.lit (.bool true)], args := [d1, d2, d3, d4] }
  | _ => none }
def apportionScalesRow : OpenClaim := { program := "yteknmllcpemnoaa", sum := "86f7d855172097669979cbfe17b0a462a713049bc773ff91fb931d95d0459a5f", func := "observatory/observatorylaw28.ApportionScales", spec := "apportionScales", unfollowed := true, recurses := true, apart := false }
def ApportionScalesSaid : Prop := apportionScalesRow.holds Try.pinned (OpenSpec.ofChange apportionScalesSpec)

/-- ITS FALSE NEIGHBOUR: 'it returns false'. Refute it at one input. -/
def apportionScalesWrong : ChangeSpec := { name := "apportionScales", fn := fun _ => fun
  | [d1, d2, d3, d4] => { results := [.lit (.bool false)], args := [d1, d2, d3, d4] }
  | _ => none }
def ApportionScalesWrongFalsely : Prop := apportionScalesRow.holds Try.pinned (OpenSpec.ofChange apportionScalesWrong)

/- THE SECOND FORM. 'bulk': how many values and letters a reading holds, each counted each time it is reached (what is shared counts as often as it is met; a slice's spare places count too). A statement '..UptoSaid' is the law's where the arguments, and the package variables that the reading takes, are together of bulk at most 1048576: NARROWER than '..Said'. Prove '..Said' where nothing that the law and all that it calls make is longer than what came in: it says more and counts as full. Else prove '..UptoSaid'. A law counts once. -/
mutual
def uptoBulk {H : Type} : DataW H → Nat
  | .lit (.string bytes) => bytes.length + 1
  | .lit _ => 1
  | .nil => 1
  | .ptr d => uptoBulk d + 1
  | .slice elems spare => uptoBulkAll elems + uptoBulkAll spare + 1
  | .agg parts => uptoBulkAll parts + 1
  | .iface _ d => uptoBulk d + 1
  | .map entries => uptoBulkEntries entries + 1
  | .held _ => 1
def uptoBulkAll {H : Type} : List (DataW H) → Nat
  | [] => 0
  | d :: r => uptoBulk d + uptoBulkAll r
def uptoBulkEntries {H : Type} : List (Lit × DataW H) → Nat
  | [] => 0
  | x :: r => uptoBulkEntry x + uptoBulkEntries r
def uptoBulkEntry {H : Type} : Lit × DataW H → Nat
  | (.string bytes, d) => bytes.length + uptoBulk d + 1
  | (_, d) => uptoBulk d + 1
 end
def uptoSmall : (H : Type) → List (DataW H) → Bool := fun _ ds => decide (uptoBulkAll ds ≤ 1048576)
def OpenSpec.upto (s : _root_.Go.ChangeSpec) : _root_.Go.OpenSpec := { _root_.Go.OpenSpec.ofChange s with cond := some uptoSmall }

/-- 'observatorylaw28.ApportionMatchesReference', WHERE WHAT IT READS IS OF BULK AT MOST 1048576: true; the input reads as it did. -/
def apportionMatchesReferenceUptoRow : OpenClaim := { program := "yteknmllcpemnoaa", sum := "86f7d855172097669979cbfe17b0a462a713049bc773ff91fb931d95d0459a5f", func := "observatory/observatorylaw28.ApportionMatchesReference", spec := "apportionMatchesReference", unfollowed := true, recurses := true, apart := false, narrowed := true }
def ApportionMatchesReferenceUptoSaid : Prop := apportionMatchesReferenceUptoRow.holds Try.pinned (OpenSpec.upto apportionMatchesReferenceSpec)

/-- 'observatorylaw28.ApportionSum', WHERE WHAT IT READS IS OF BULK AT MOST 1048576: true; the input reads as it did. -/
def apportionSumUptoRow : OpenClaim := { program := "yteknmllcpemnoaa", sum := "86f7d855172097669979cbfe17b0a462a713049bc773ff91fb931d95d0459a5f", func := "observatory/observatorylaw28.ApportionSum", spec := "apportionSum", unfollowed := true, recurses := true, apart := false, narrowed := true }
def ApportionSumUptoSaid : Prop := apportionSumUptoRow.holds Try.pinned (OpenSpec.upto apportionSumSpec)

/-- 'observatorylaw28.ApportionNext', WHERE WHAT IT READS IS OF BULK AT MOST 1048576: true; the input reads as it did. -/
def apportionNextUptoRow : OpenClaim := { program := "yteknmllcpemnoaa", sum := "86f7d855172097669979cbfe17b0a462a713049bc773ff91fb931d95d0459a5f", func := "observatory/observatorylaw28.ApportionNext", spec := "apportionNext", unfollowed := true, recurses := true, apart := false, narrowed := true }
def ApportionNextUptoSaid : Prop := apportionNextUptoRow.holds Try.pinned (OpenSpec.upto apportionNextSpec)

/-- 'observatorylaw28.ApportionOrder', WHERE WHAT IT READS IS OF BULK AT MOST 1048576: true; the input reads as it did. -/
def apportionOrderUptoRow : OpenClaim := { program := "yteknmllcpemnoaa", sum := "86f7d855172097669979cbfe17b0a462a713049bc773ff91fb931d95d0459a5f", func := "observatory/observatorylaw28.ApportionOrder", spec := "apportionOrder", unfollowed := true, recurses := true, apart := false, narrowed := true }
def ApportionOrderUptoSaid : Prop := apportionOrderUptoRow.holds Try.pinned (OpenSpec.upto apportionOrderSpec)

/-- 'observatorylaw28.ApportionGrows', WHERE WHAT IT READS IS OF BULK AT MOST 1048576: true; the input reads as it did. -/
def apportionGrowsUptoRow : OpenClaim := { program := "yteknmllcpemnoaa", sum := "86f7d855172097669979cbfe17b0a462a713049bc773ff91fb931d95d0459a5f", func := "observatory/observatorylaw28.ApportionGrows", spec := "apportionGrows", unfollowed := true, recurses := true, apart := false, narrowed := true }
def ApportionGrowsUptoSaid : Prop := apportionGrowsUptoRow.holds Try.pinned (OpenSpec.upto apportionGrowsSpec)

/-- 'observatorylaw28.ApportionScales', WHERE WHAT IT READS IS OF BULK AT MOST 1048576: true; the input reads as it did. -/
def apportionScalesUptoRow : OpenClaim := { program := "yteknmllcpemnoaa", sum := "86f7d855172097669979cbfe17b0a462a713049bc773ff91fb931d95d0459a5f", func := "observatory/observatorylaw28.ApportionScales", spec := "apportionScales", unfollowed := true, recurses := true, apart := false, narrowed := true }
def ApportionScalesUptoSaid : Prop := apportionScalesUptoRow.holds Try.pinned (OpenSpec.upto apportionScalesSpec)

end Rows
end Go.Proofs.Yteknmllcpemnoaa
