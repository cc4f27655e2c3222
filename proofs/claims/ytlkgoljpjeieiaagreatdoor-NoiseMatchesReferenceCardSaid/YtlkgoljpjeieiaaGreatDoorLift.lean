/-
  From an argument that is a slice of numbers, as the row reads it, to what the walks ask of it.
-/
import Derived.Test.YtlkgoljpjeieiaaGreatDoorBase
import Derived.ProofKit
import Derived.OpenShut
set_option linter.unusedVariables false
set_option linter.unusedSimpArgs false
namespace Go.Proofs.YtlkgoljpjeieiaaGreatDoor
open Go.RowKit Go.ChangeShapes Go.WideShapes

/-- An argument of type '[]int' reads as a list of numbers that fit. -/
theorem ri_of_arg {H : Type} {enc : TypeId × Value → H} {P : Program} {w : World} {base : Nat} {spare : Nat → Bool} {held : Bool} {t e : TypeId} {a : Option Addr} {len cap : Nat} {d : DataW H} {p : List MemPlace}
    (ht : P.underlying t = some (.slice e)) (he : P.underlying e = some (.int .i64)) (hc : P.cellsOf e = 1) (h : DataW.Trod enc P w base spare held t (.slice a len cap) d p) :
    ∃ zs : List Int, RI w w.heap.size a len zs ∧ len ≤ maxLen ∧ ∀ z ∈ zs, -9223372036854775808 ≤ z ∧ z ≤ 9223372036854775807 := by
  obtain ⟨fuel, hf⟩ := h
  rcases open_ints ht he hc hf with ⟨hcs, _⟩ | ⟨x, l, c, zs, hcs, _, hl, hm, hz, _, hcell, hwz⟩
  · simp [Value.cells] at hcs
    obtain ⟨rfl, rfl, rfl⟩ := hcs
    exact ⟨[], RI.none_, Nat.zero_le _, by simp⟩
  · simp [Value.cells] at hcs
    obtain ⟨rfl, rfl, rfl⟩ := hcs
    have hlen : len ≤ zs.length := by rw [hz]; split <;> omega
    refine ⟨zs.take len, ⟨by simp; omega, fun hn => ⟨x, rfl, ?_, fun j u hu => ?_⟩⟩, by omega, fun z hzm => ?_⟩
    · have := World.block_lt_of_cell? w (x.add 0) (hcell 0 (by omega))
      rwa [block_of_add] at this
    · have hj : j < len := by
        have := (List.getElem?_eq_some_iff.1 hu).1
        simp at this; omega
      rw [hcell j (by omega)]
      simp only [ints, List.map_take, List.getElem?_take, hj, if_true, List.getElem?_map] at hu
      rw [List.getElem?_eq_getElem (by omega : j < zs.length)] at hu
      simpa [List.getElem?_eq_getElem (by omega : j < zs.length)] using hu
    · have := hwz z (List.mem_of_mem_take hzm)
      simp only [Lit.wf, Bool.and_eq_true, IntKind.min, IntKind.max] at this
      simpa [IntKind.signed, IntKind.bits] using this
end Go.Proofs.YtlkgoljpjeieiaaGreatDoor
