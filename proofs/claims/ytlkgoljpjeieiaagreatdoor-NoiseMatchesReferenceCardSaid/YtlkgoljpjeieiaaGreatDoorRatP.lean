/-
  Quotients in lowest terms. No program.
-/
import Derived.Test.YtlkgoljpjeieiaaGreatDoorLimP
set_option linter.unusedVariables false
set_option linter.unusedSimpArgs false
namespace Go.Proofs.YtlkgoljpjeieiaaGreatDoor

/-- The quotient in lowest terms: numerator and denominator. -/
def low17 (s a : Nat) : Nat × Nat := if s = 0 then (0, 1) else (s / Nat.gcd s a, a / Nat.gcd s a)
theorem low17_den {s a : Nat} (ha : 0 < a) : 0 < (low17 s a).2 := by
  unfold low17
  split
  · decide
  · exact Nat.div_pos (Nat.le_of_dvd ha (Nat.gcd_dvd_right s a)) (Nat.gcd_pos_of_pos_right _ ha)
theorem low17_co {s a : Nat} (hs : s ≠ 0) (ha : 0 < a) : Nat.gcd (low17 s a).1 (low17 s a).2 = 1 := by
  unfold low17
  rw [if_neg hs]
  have h := Nat.gcd_div (m := s) (n := a) (k := Nat.gcd s a) (Nat.gcd_dvd_left s a) (Nat.gcd_dvd_right s a)
  show Nat.gcd (s / Nat.gcd s a) (a / Nat.gcd s a) = 1
  rw [h]
  exact Nat.div_self (Nat.gcd_pos_of_pos_right _ ha)
theorem low17_cross {s a : Nat} (ha : 0 < a) : (low17 s a).1 * a = s * (low17 s a).2 := by
  unfold low17
  split
  · rename_i h
    subst h
    simp
  · obtain ⟨x, hx⟩ := Nat.gcd_dvd_left s a
    obtain ⟨y, hy⟩ := Nat.gcd_dvd_right s a
    have hg := Nat.gcd_pos_of_pos_right s ha
    show s / Nat.gcd s a * a = s * (a / Nat.gcd s a)
    generalize Nat.gcd s a = g at *
    subst hx hy
    rw [Nat.mul_div_cancel_left _ hg, Nat.mul_div_cancel_left _ hg, Nat.mul_comm g x, Nat.mul_assoc]
theorem low17_num {s a : Nat} : (low17 s a).1 = 0 ↔ s = 0 ∨ (s ≠ 0 ∧ s / Nat.gcd s a = 0) := by
  unfold low17
  by_cases h : s = 0
  · simp [h]
  · simp [h]
theorem low17_le {s a : Nat} (hsa : s ≤ a) (ha : 0 < a) : (low17 s a).1 ≤ a ∧ (low17 s a).2 ≤ a := by
  unfold low17
  split
  · exact ⟨Nat.zero_le _, ha⟩
  · exact ⟨Nat.le_trans (Nat.div_le_self _ _) hsa, Nat.div_le_self _ _⟩
end Go.Proofs.YtlkgoljpjeieiaaGreatDoor
