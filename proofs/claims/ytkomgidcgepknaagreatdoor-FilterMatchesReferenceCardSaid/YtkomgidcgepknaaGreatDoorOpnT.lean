/-
  An argument that is one subscription, by value.
-/
import Derived.Test.YtkomgidcgepknaaGreatDoorOpnS
set_option linter.unusedVariables false
set_option linter.unusedSimpArgs false
namespace Go.Proofs.YtkomgidcgepknaaGreatDoor
open Go.RowKit Go.ChangeShapes Go.WideShapes Go.Deep

theorem array4s {α : Type} {cs : Array α} (h : cs.size = 4) : ∃ c0 c1 c2 c3, cs = #[c0, c1, c2, c3] := by
  obtain ⟨l⟩ := cs
  match l, h with
  | [c0, c1, c2, c3], _ => exact ⟨c0, c1, c2, c3, rfl⟩
section
variable {H : Type} {enc : TypeId × Value → H} {P : Program} {w : World} {base : Nat} {spare : Nat → Bool} {held : Bool}
/-- An argument of type 'Subscription'. -/
theorem sb_of_val {r : Reach} {b0 : Nat} {e : TypeId} {s0 s1 s2 s3 : Field} {ee ek : TypeId} {f0 f1 f2 f3 : Field} {v : Value} {d : DataW H} {p : List MemPlace}
    (he : P.underlying e = some (.struct #[s0, s1, s2, s3])) (ce : P.cellsOf e = 4) (o0 : s0.offset = 0) (o1 : s1.offset = 1) (o2 : s2.offset = 2) (o3 : s3.offset = 3)
    (c0 : P.cellsOf s0.type = 1) (c1 : P.cellsOf s1.type = 1) (c2 : P.cellsOf s2.type = 1) (c3 : P.cellsOf s3.type = 1)
    (u0 : P.underlying s0.type = some (.int .i64)) (u1 : P.underlying s1.type = some (.int .i64)) (u2 : P.underlying s2.type = some (.int .i64))
    (ht' : P.underlying s3.type = some (.slice ee)) (he' : P.underlying ee = some (.struct #[f0, f1, f2, f3])) (ce' : P.cellsOf ee = 4) (o0' : f0.offset = 0) (o1' : f1.offset = 1) (o2' : f2.offset = 2) (o3' : f3.offset = 3)
    (c0' : P.cellsOf f0.type = 1) (c1' : P.cellsOf f1.type = 1) (c2' : P.cellsOf f2.type = 1) (c3' : P.cellsOf f3.type = 1)
    (u0' : P.underlying f0.type = some (.int .i64)) (u1' : P.underlying f1.type = some (.int .i64)) (u2' : P.underlying f2.type = some .string) (u3' : P.underlying f3.type = some (.slice ek)) (uk : P.underlying ek = some (.int .i64)) (ck : P.cellsOf ek = 1)
    (hv : Value.okWide P w r b0 e v) (h : DataW.Trod enc P w base spare held e v d p) :
    ∃ (s : Sb) (K : Option Addr) (c : Nat), v = .agg #[.int .i64 s.prog, .int .i64 s.tile, .int .i64 s.filt, .slice K s.whn.length c] ∧ ExprAt w w.heap.size K s.whn ∧ (∀ z ∈ s.whn, z.name.size ≤ maxLen) ∧ s.whn.length ≤ maxLen ∧ ∀ z ∈ s.whn, z.kids.length ≤ maxLen := by
  obtain ⟨cs, rfl, hsz⟩ := okWide_struct he hv
  obtain ⟨v0, v1, v2, v3, rfl⟩ := array4s (hsz.trans ce)
  obtain ⟨fuel, hf⟩ := h
  obtain ⟨y0, y1, y2, y3, k, _, _, g0, g1, g2, g3⟩ := Go.Joins.trod_struct4 he hf
  rw [o0, c0] at g0
  rw [o1, c1] at g1
  rw [o2, c2] at g2
  rw [o3, c3] at g3
  obtain ⟨n0, e0, _, _⟩ := DataW.trod_int u0 g0
  obtain ⟨n1, e1, _, _⟩ := DataW.trod_int u1 g1
  obtain ⟨n2, e2, _, _⟩ := DataW.trod_int u2 g2
  obtain ⟨A, ck', zs, e3, hex, hnk, hall⟩ := expr_of_trod ht' he' ce' o0' o1' o2' o3' c0' c1' c2' c3' u0' u1' u2' u3' uk ck g3
  simp [Value.cells] at e0 e1 e2 e3
  refine ⟨⟨n0, n1, n2, zs⟩, A, ck', by rw [e0, e1, e2, e3], hex, fun z hz => (hall z hz).1, hnk, fun z hz => (hall z hz).2.1⟩
end
end Go.Proofs.YtkomgidcgepknaaGreatDoor
