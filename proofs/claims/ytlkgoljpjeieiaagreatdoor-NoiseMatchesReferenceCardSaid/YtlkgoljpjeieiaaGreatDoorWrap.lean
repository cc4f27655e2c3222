/-
  Arithmetic of int: a wrap64 inside a sum, a difference or a product may be dropped. No program.
-/
import Derived.Test.YtlkgoljpjeieiaaGreatDoorBase
set_option linter.unusedVariables false
set_option linter.unusedSimpArgs false
namespace Go.Proofs.YtlkgoljpjeieiaaGreatDoor
open Go.RowKit

theorem W_eq {a b : Int} (h : ∃ k : Int, a - b = k * 18446744073709551616) : wrap64 a = wrap64 b := by
  obtain ⟨k, hk⟩ := h
  unfold wrap64
  have : a + 9223372036854775808 = (b + 9223372036854775808) + 18446744073709551616 * k := by omega
  rw [this, Int.add_mul_emod_self_left]
theorem W_at (a : Int) : ∃ k : Int, wrap64 a - a = k * 18446744073709551616 := by
  refine ⟨-((a + 9223372036854775808) / 18446744073709551616), ?_⟩
  unfold wrap64
  omega
theorem W_in {n : Int} (h : -9223372036854775808 ≤ n ∧ n ≤ 9223372036854775807) : wrap64 n = n := by unfold wrap64; omega
theorem W_bd (n : Int) : -9223372036854775808 ≤ wrap64 n ∧ wrap64 n ≤ 9223372036854775807 := by unfold wrap64; omega
theorem W_W (a : Int) : wrap64 (wrap64 a) = wrap64 a := W_in (W_bd a)
theorem W_add_l (a b : Int) : wrap64 (wrap64 a + b) = wrap64 (a + b) := by
  obtain ⟨k, hk⟩ := W_at a
  exact W_eq ⟨k, by omega⟩
theorem W_add_r (a b : Int) : wrap64 (a + wrap64 b) = wrap64 (a + b) := by
  obtain ⟨k, hk⟩ := W_at b
  exact W_eq ⟨k, by omega⟩
theorem W_sub_l (a b : Int) : wrap64 (wrap64 a - b) = wrap64 (a - b) := by
  obtain ⟨k, hk⟩ := W_at a
  exact W_eq ⟨k, by omega⟩
theorem W_sub_r (a b : Int) : wrap64 (a - wrap64 b) = wrap64 (a - b) := by
  obtain ⟨k, hk⟩ := W_at b
  exact W_eq ⟨-k, by omega⟩
theorem W_mul_l (a b : Int) : wrap64 (wrap64 a * b) = wrap64 (a * b) := by
  obtain ⟨k, hk⟩ := W_at a
  refine W_eq ⟨k * b, ?_⟩
  rw [← Int.sub_mul, hk, Int.mul_assoc, Int.mul_comm _ b, ← Int.mul_assoc]
theorem W_mul_r (a b : Int) : wrap64 (a * wrap64 b) = wrap64 (a * b) := by
  rw [Int.mul_comm, W_mul_l, Int.mul_comm]

/-- The sum as a loop of Go's computes it. -/
def wsum (xs : List Int) : Int := xs.foldl (fun a x => wrap64 (a + x)) 0
theorem wsum_snoc (xs : List Int) (x : Int) : wsum (xs ++ [x]) = wrap64 (wsum xs + x) := by simp [wsum]
theorem wsum_nil : wsum [] = 0 := rfl
theorem W_zero : wrap64 0 = 0 := W_in (by omega)
theorem sum_snoc (xs : List Int) (x : Int) : (xs ++ [x]).sum = xs.sum + x := by simp [List.sum_append]
theorem snoc_ind {α : Type} {p : List α → Prop} (l : List α) (h0 : p []) (h1 : ∀ l x, p l → p (l ++ [x])) : p l := by
  rw [← List.reverse_reverse l]
  induction l.reverse with
  | nil => exact h0
  | cons x l ih => rw [List.reverse_cons]; exact h1 _ _ ih
theorem wsum_eq (xs : List Int) : wsum xs = wrap64 xs.sum := by
  induction xs using snoc_ind with
  | h0 => rw [wsum_nil]; exact W_zero.symm
  | h1 l x ih => rw [wsum_snoc, ih, W_add_l, sum_snoc]
theorem sum_bd (xs : List Int) (M : Int) (h : ∀ x ∈ xs, 0 ≤ x ∧ x ≤ M) : 0 ≤ xs.sum ∧ xs.sum ≤ xs.length * M := by
  induction xs with
  | nil => simp
  | cons x xs ih =>
    have h1 := h x (by simp)
    have h2 := ih fun y hy => h y (by simp [hy])
    simp only [List.sum_cons, List.length_cons]
    rw [Int.natCast_add, Int.add_mul]
    omega
end Go.Proofs.YtlkgoljpjeieiaaGreatDoor
