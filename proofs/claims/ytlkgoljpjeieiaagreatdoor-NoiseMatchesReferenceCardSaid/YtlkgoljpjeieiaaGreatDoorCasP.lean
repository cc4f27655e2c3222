/-
  NoiseCases: the count of a value, and what the cases sum up to.
-/
import Derived.Test.YtlkgoljpjeieiaaGreatDoorTotM
set_option linter.unusedVariables false
set_option linter.unusedSimpArgs false
namespace Go.Proofs.YtlkgoljpjeieiaaGreatDoor

theorem cntL_dist {tape : List Int} (ht : ∀ t ∈ tape, -50 ≤ t ∧ t ≤ 50) (n : Nat) (v : Int) : cntL (dist17 tape n) v = (sums17 tape n).count v := by
  have hlen : (dist17 tape n).length = (supp17 tape n).length := by unfold dist17; rw [List.length_map]
  by_cases hv : v ∈ supp17 tape n
  · obtain ⟨k, hk, e⟩ := List.getElem_of_mem hv
    have hg : nth (supp17 tape n) k = v := by
      unfold nth
      rw [List.getD_eq_getElem?_getD, List.getElem?_eq_getElem hk]
      exact e
    have hkd : k < (dist17 tape n).length := by omega
    obtain ⟨q1, q2⟩ := dist_fst hkd
    rw [hg] at q1 q2
    rw [cntL_some hkd q1 fun j hj => ?_, q2]
    · rfl
    · rw [(dist_fst (by omega)).1, ← hg]
      have := List.pairwise_iff_getElem.1 (supp17_incr tape n) j k (by omega) hk hj
      have e1 : (supp17 tape n)[j] = nth (supp17 tape n) j := by
        unfold nth
        rw [List.getD_eq_getElem?_getD, List.getElem?_eq_getElem (by omega)]
        rfl
      rw [e1, e, ← hg] at this
      omega
  · rw [cntL_none fun j hj => ?_]
    · exact (List.count_eq_zero.2 fun h => hv ((supp17_mem ht).2 h)).symm
    · rw [(dist_fst hj).1]
      intro h
      apply hv
      rw [← h]
      unfold nth
      rw [List.getD_eq_getElem?_getD, List.getElem?_eq_getElem (by omega)]
      exact List.getElem_mem (by omega)
/-- How many of the first cases have a value as their sum. -/
def want17 (tape : List Int) (n : Nat) (v : Int) (c : Nat) : Nat := ((List.range c).filter fun c => decide (dig17 tape n c = v)).length
theorem want17_step (tape : List Int) (n : Nat) (v : Int) (c : Nat) : want17 tape n v (c + 1) = want17 tape n v c + if dig17 tape n c = v then 1 else 0 := by
  unfold want17
  rw [List.range_succ, List.filter_append, List.length_append]
  by_cases e : dig17 tape n c = v <;> simp [e]
theorem want17_all {tape : List Int} (ht : ∀ t ∈ tape, -50 ≤ t ∧ t ≤ 50) (n : Nat) (v : Int) : want17 tape n v (tape.length ^ n) = cntL (dist17 tape n) v := by
  rw [cntL_dist ht, ← cases17, count_range]
  rfl
theorem want17_le (tape : List Int) (n : Nat) (v : Int) (c : Nat) : want17 tape n v c ≤ c := by
  unfold want17
  exact Nat.le_trans (List.length_filter_le _ _) (by rw [List.length_range]; exact Nat.le_refl _)
theorem dig17_bd {tape : List Int} (ht : ∀ t ∈ tape, -50 ≤ t ∧ t ≤ 50) (hp : 1 ≤ tape.length) : ∀ (n c : Nat), -(50 * (n : Int)) ≤ dig17 tape n c ∧ dig17 tape n c ≤ 50 * n
  | 0, _ => by simp [dig17]
  | n + 1, c => by
    have h1 := dig17_bd ht hp n (c / tape.length)
    have h2 := nth_in ht (j := c % tape.length) (Nat.mod_lt _ hp)
    show _ ≤ nth tape (c % tape.length) + dig17 tape n (c / tape.length) ∧ nth tape (c % tape.length) + dig17 tape n (c / tape.length) ≤ _
    omega
end Go.Proofs.YtlkgoljpjeieiaaGreatDoor
