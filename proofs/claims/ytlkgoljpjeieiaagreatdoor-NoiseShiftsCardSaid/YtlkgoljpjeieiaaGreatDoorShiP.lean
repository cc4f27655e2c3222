/-
  NoiseShifts: the distributions of the turned tapes. No program.
-/
import Derived.Test.YtlkgoljpjeieiaaGreatDoorConP
set_option linter.unusedVariables false
set_option linter.unusedSimpArgs false
namespace Go.Proofs.YtlkgoljpjeieiaaGreatDoor

theorem back_dist {tape : List Int} (ht : ∀ t ∈ tape, -50 ≤ t ∧ t ≤ 50) (n : Nat) : dist17 tape.reverse n = dist17 tape n :=
  (dist17_perm ht (List.reverse_perm tape).symm n).symm
theorem neg_in {tape : List Int} (ht : ∀ t ∈ tape, -50 ≤ t ∧ t ≤ 50) : ∀ t ∈ tape.map (- ·), -50 ≤ t ∧ t ≤ 50 := fun t h => by
  obtain ⟨x, hx, rfl⟩ := List.mem_map.1 h
  have := ht x hx
  omega
theorem changed_dist {tape : List Int} (ht : ∀ t ∈ tape, -50 ≤ t ∧ t ≤ 50) (n : Nat) : dist17 (tape.reverse.map (- ·)) n = ((dist17 tape n).map fun p => (-p.1, p.2)).reverse := by
  rw [← dist17_neg ht]
  exact (dist17_perm (neg_in ht) ((List.reverse_perm tape).symm.map _) n).symm
theorem moved_dist {tape : List Int} {z : Int} (ht : ∀ t ∈ tape, -50 ≤ t ∧ t ≤ 50) (h' : ∀ t ∈ tape.reverse.map (· + z), -50 ≤ t ∧ t ≤ 50) (n : Nat) :
    dist17 (tape.reverse.map (· + z)) n = (dist17 tape n).map fun p => (p.1 + (n : Int) * z, p.2) := by
  have h2 : ∀ t ∈ tape.map (· + z), -50 ≤ t ∧ t ≤ 50 := fun t h => h' t (((List.reverse_perm tape).map _).mem_iff.2 h)
  rw [← dist17_shift ht h2]
  exact (dist17_perm h2 ((List.reverse_perm tape).symm.map _) n).symm
theorem dAt_eq {l : List (Int × Nat)} {k : Nat} {p : Int × Nat} (h : l[k]? = some p) : dAt l k = p := by
  unfold dAt
  rw [List.getD_eq_getElem?_getD, h]
  rfl
theorem dAt_map {l : List (Int × Nat)} (f : Int × Nat → Int × Nat) {k : Nat} (hk : k < l.length) : dAt (l.map f) k = f (dAt l k) :=
  dAt_eq (by rw [List.getElem?_map, dAt_get hk]; rfl)
theorem dAt_rev {l : List (Int × Nat)} (f : Int × Nat → Int × Nat) {k : Nat} (hk : k < l.length) : dAt (l.map f).reverse (l.length - 1 - k) = f (dAt l k) := by
  refine dAt_eq ?_
  rw [List.getElem?_reverse (by rw [List.length_map]; omega), List.length_map, show l.length - 1 - (l.length - 1 - k) = k by omega, List.getElem?_map, dAt_get hk]
  rfl
/-- Valid tapes: what a test of one says. -/
theorem valid17_of {tape : List Int} (h1 : 1 ≤ tape.length) (h9 : tape.length ≤ 9) (ht : ∀ t ∈ tape, -50 ≤ t ∧ t ≤ 50) : valid17 tape = true := by
  unfold valid17
  simp only [Bool.and_eq_true, decide_eq_true_eq, List.all_eq_true]
  exact ⟨⟨h1, h9⟩, ht⟩
theorem valid_back {tape : List Int} (h : valid17 tape = true) : valid17 tape.reverse = true := by
  obtain ⟨a, b, c⟩ := valid17_ok h
  exact valid17_of (by rwa [List.length_reverse]) (by rwa [List.length_reverse]) fun t ht => c t (List.mem_reverse.1 ht)
theorem valid_changed {tape : List Int} (h : valid17 tape = true) : valid17 (tape.reverse.map (- ·)) = true := by
  obtain ⟨a, b, c⟩ := valid17_ok (valid_back h)
  exact valid17_of (by rwa [List.length_map]) (by rwa [List.length_map]) (neg_in c)
/-- The offset that is appended next. -/
theorem rev_nth {tape : List Int} {k : Nat} (hk : k < tape.length) : tape.reverse.take (k + 1) = tape.reverse.take k ++ [nth tape (tape.length - 1 - k)] := by
  have hr : k < tape.reverse.length := by rw [List.length_reverse]; exact hk
  rw [List.take_succ_eq_append_getElem hr, List.getElem_reverse, nth_eq (by omega)]
end Go.Proofs.YtlkgoljpjeieiaaGreatDoor
