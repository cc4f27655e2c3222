/-
  Distributions in memory.
-/
import Derived.Test.YtlkgoljpjeieiaaGreatDoorNatI
import Derived.Test.YtlkgoljpjeieiaaGreatDoorNatP
set_option linter.unusedVariables false
set_option linter.unusedSimpArgs false
namespace Go.Proofs.YtlkgoljpjeieiaaGreatDoor
open Go.RowKit Go.Deep Go.Maps

/-- The cells of a distribution. -/
def cellsO (rs : List (Int × Nat)) : List Value := rs.flatMap fun r => [.int .i64 r.1, .string (NS r.2)]
theorem cellsO_len : ∀ rs : List (Int × Nat), (cellsO rs).length = rs.length * 2
  | [] => rfl
  | r :: rs => by
    have := cellsO_len rs
    unfold cellsO at this ⊢
    rw [List.flatMap_cons, List.length_append, this]
    simp
    omega
theorem cellsO_get {r : Int × Nat} : ∀ (rs : List (Int × Nat)) (i : Nat), rs[i]? = some r → (cellsO rs)[i * 2]? = some (.int .i64 r.1) ∧ (cellsO rs)[i * 2 + 1]? = some (.string (NS r.2))
  | [], i, h => by simp at h
  | y :: rs, 0, h => by
    simp only [List.getElem?_cons_zero, Option.some.injEq] at h
    subst h
    exact ⟨rfl, rfl⟩
  | y :: rs, i + 1, h => by
    have := cellsO_get rs i (by simpa using h)
    rw [show (i + 1) * 2 = (i * 2) + 1 + 1 from by omega]
    unfold cellsO at this ⊢
    simpa only [List.flatMap_cons, List.cons_append, List.nil_append, List.getElem?_cons_succ] using this
theorem cellsO_one : ∀ (rs : List (Int × Nat)), ∀ u ∈ cellsO rs, u.oneCell' = true := by
  intro rs u hu
  unfold cellsO at hu
  obtain ⟨s, _, hs⟩ := List.mem_flatMap.1 hu
  simp only [List.mem_cons, List.not_mem_nil, or_false] at hs
  rcases hs with rfl | rfl <;> rfl
theorem cellsO_append (rs ss : List (Int × Nat)) : cellsO (rs ++ ss) = cellsO rs ++ cellsO ss := by simp [cellsO]
theorem cellsO_snoc (rs : List (Int × Nat)) (v : Int) (c : Nat) : cellsO rs ++ [.int .i64 v, .string (NS c)] = cellsO (rs ++ [(v, c)]) := by simp [cellsO]
/-- Entry k of a distribution. -/
def dAt (l : List (Int × Nat)) (k : Nat) : Int × Nat := l.getD k (0, 0)
theorem dAt_get {l : List (Int × Nat)} {k : Nat} (h : k < l.length) : l[k]? = some (dAt l k) := by
  unfold dAt
  rw [List.getD_eq_getElem?_getD, List.getElem?_eq_getElem h]
  rfl
/-- '.slice A n c' reads as the distribution rs, below block B. -/
def RD (w : World) (B : Nat) (A : Option Addr) (n : Nat) (rs : List (Int × Nat)) : Prop := Reads w B 2 A n (cellsO rs)
section
variable {w w' : World} {B B' : Nat} {A : Option Addr} {n : Nat} {rs : List (Int × Nat)}
theorem RD.len (h : RD w B A n rs) : rs.length = n := by
  have := h.1
  rw [cellsO_len] at this
  omega
theorem RD.at_ (h : RD w B A n rs) {i : Nat} (hi : i < n) : ∃ b off, A = some ⟨b, off, none⟩ ∧ b < B ∧
    w.cell? ⟨b, off + i * 2, none⟩ = some (.int .i64 (dAt rs i).1) ∧ w.cell? ⟨b, off + i * 2 + 1, none⟩ = some (.string (NS (dAt rs i).2)) := by
  have hl := h.len
  have h0 := (cellsO_get rs 0 (dAt_get (by omega))).1
  obtain ⟨ad, hA, hb, hc⟩ := h.2 (by omega)
  have hz := hc (0 * 2) _ h0
  obtain ⟨b, off, spot⟩ := ad
  have hsp : spot = none := by simpa [Addr.add] using World.cell?_spot hz
  subst hsp
  obtain ⟨g0, g1⟩ := cellsO_get rs i (dAt_get (by omega))
  have k0 := hc _ _ g0
  have k1 := hc _ _ g1
  rw [add_lit] at k0 k1
  exact ⟨b, off, hA, hb, k0, by rwa [← Nat.add_assoc] at k1⟩
theorem RD.below (h : RD w B A n rs) (hb : Below B w w') : RD w' B A n rs := Reads.below h hb
theorem RD.more (h : RD w B A n rs) (hB : B ≤ B') : RD w B' A n rs := Reads.more h hB
theorem RD.next (h : RD w w.heap.size A n rs) (hb : Below w.heap.size w w') : RD w' w'.heap.size A n rs := (Reads.below h hb).more hb.size
theorem RD.none_ : RD w B A 0 [] := Reads.none_
end
end Go.Proofs.YtlkgoljpjeieiaaGreatDoor
