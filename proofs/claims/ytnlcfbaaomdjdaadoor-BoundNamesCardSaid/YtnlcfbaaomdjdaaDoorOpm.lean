/-
  More on arguments: how much memory a slice takes; a struct by value.
-/
import Derived.Test.YtnlcfbaaomdjdaaDoorOpn
set_option linter.unusedVariables false
set_option linter.unusedSimpArgs false
namespace Go.Proofs.YtnlcfbaaomdjdaaDoor
open Go.RowKit Go.ChangeShapes Go.WideShapes Go.Deep

variable {H : Type} {enc : TypeId × Value → H} {P : Program} {w : World} {base : Nat} {spare : Nat → Bool} {held : Bool}
/-- A slice of an argument takes no more bytes than the reading does. -/
theorem reach_of {t e : TypeId} {a : Option Addr} {len cap : Nat} {d : DataW H} {p : List MemPlace} {ts : List TypeId} {ds : List (DataW H)} {j : Nat} (hsz : (DataW.weightsEach P ts ds).all (· ≤ reachBytes) = true) (hj : ts[j]? = some t) (hd : ds[j]? = some d)
    (ht : P.underlying t = some (.slice e)) (h : DataW.Trod enc P w base spare held t (.slice a len cap) d p) : len * P.bytesOf e ≤ 140737488351232 := by
  obtain ⟨fuel, hf⟩ := h
  rcases open_slice ht hf with ⟨hcs, _⟩ | ⟨x, l, c, m, n, D, Pl, hcs, _, hl, hm, hmm, hx, _⟩
  · simp [Value.cells] at hcs
    obtain ⟨rfl, rfl, rfl⟩ := hcs
    omega
  · simp [Value.cells] at hcs
    obtain ⟨rfl, rfl, rfl⟩ := hcs
    injection hx with hx _
    subst hx
    have := sized_slice hsz hj hd ht
    simp only [List.length_map, List.length_range, reachBytes, Nat.add_mul] at this
    omega
/-- An argument of type 'Range'. -/
theorem rng_of_val {r : Reach} {b0 : Nat} {t : TypeId} {f0 f1 f2 : Field} {v : Value} {d : DataW H} {p : List MemPlace} (hs : P.underlying t = some (.struct #[f0, f1, f2])) (hone : oneCellFields P #[f0, f1, f2] = true) (hC : P.cellsOf t = 3)
    (u0 : P.underlying f0.type = some .string) (u1 : P.underlying f1.type = some (.int .i64)) (u2 : P.underlying f2.type = some (.int .i64)) (hv : Value.okWide P w r b0 t v) (h : DataW.Trod enc P w base spare held t v d p) :
    ∃ x : Rng, v = .agg #[.string x.name, .int .i64 x.low, .int .i64 x.high] ∧ x.name.size ≤ maxLen := by
  obtain ⟨v0, v1, v2, y0, y1, y2, n, rfl, _, _, g0, g1, g2⟩ := Go.Joins.open_agg3 hs hone hC hv h
  obtain ⟨s, e0, _, hs0⟩ := DataW.trod_string u0 g0
  obtain ⟨n1, e1, _, _⟩ := DataW.trod_int u1 g1
  obtain ⟨n2, e2, _, _⟩ := DataW.trod_int u2 g2
  injection e0 with e0
  injection e1 with e1
  injection e2 with e2
  exact ⟨⟨s, n1, n2⟩, by rw [e0, e1, e2], hs0⟩
end Go.Proofs.YtnlcfbaaomdjdaaDoor
