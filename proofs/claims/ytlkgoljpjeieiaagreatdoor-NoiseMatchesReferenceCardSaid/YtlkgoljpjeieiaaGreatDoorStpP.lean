/-
  Chapter 17: a step of the distribution, the values in any order. No program.
-/
import Derived.Test.YtlkgoljpjeieiaaGreatDoorNoiP
set_option linter.unusedVariables false
set_option linter.unusedSimpArgs false
namespace Go.Proofs.YtlkgoljpjeieiaaGreatDoor

/-- What has come together of the values that are no longer to come. -/
def part17 (tape : List Int) (n : Nat) (left : Int → Bool) (v : Int) : Nat := ((supp17 tape n).map fun k => if left k = true then 0 else (sums17 tape n).count k * tape.count (v - k)).sum
theorem part17_start {tape : List Int} {n : Nat} {left : Int → Bool} (h : ∀ k ∈ supp17 tape n, left k = true) (v : Int) : part17 tape n left v = 0 :=
  sum_zero _ fun k hk => if_pos (h k hk)
theorem part17_end {tape : List Int} (ht : ∀ t ∈ tape, -50 ≤ t ∧ t ≤ 50) {n : Nat} {left : Int → Bool} (h : ∀ k, left k = false) (v : Int) : part17 tape n left v = (sums17 tape (n + 1)).count v := by
  rw [count_succ tape n v (incr_nodup (supp17_incr tape n)) fun s hs => (supp17_mem ht).2 hs]
  unfold part17
  congr 1
  exact List.map_congr_left fun k _ => if_neg (by rw [h k]; decide)
theorem part17_step {tape : List Int} {n : Nat} {left left' : Int → Bool} {s : Int} (hs : s ∈ supp17 tape n) (hl : left s = true) (h : ∀ k, left' k = (left k && !decide (k = s))) (v : Int) :
    part17 tape n left' v = part17 tape n left v + (sums17 tape n).count s * tape.count (v - s) := by
  have h1 := one_of (f := fun k => (sums17 tape n).count k * tape.count (v - k)) (s := s) _ (incr_nodup (supp17_incr tape n))
  rw [if_pos hs] at h1
  unfold part17
  rw [← h1, ← sum_add2]
  congr 1
  refine List.map_congr_left fun k _ => ?_
  rw [h k]
  by_cases e : s = k
  · subst e
    simp [hl]
  · have e' : ¬ k = s := fun h => e h.symm
    simp [e, e']
theorem part17_le {tape : List Int} (ht : ∀ t ∈ tape, -50 ≤ t ∧ t ≤ 50) {n : Nat} (left : Int → Bool) (v : Int) : part17 tape n left v ≤ (sums17 tape (n + 1)).count v := by
  rw [← part17_end ht (left := fun _ => false) (fun _ => rfl) v]
  refine sum_le _ fun k _ => ?_
  split
  · exact Nat.zero_le _
  · simp
/-- The offsets of one value, the first j of them. -/
def inn17 (tape : List Int) (c : Nat) (s : Int) (j : Nat) (v : Int) : Nat := c * (tape.take j).count (v - s)
theorem inn17_zero (tape : List Int) (c : Nat) (s v : Int) : inn17 tape c s 0 v = 0 := by simp [inn17]
theorem inn17_full (tape : List Int) (c : Nat) (s v : Int) : inn17 tape c s tape.length v = c * tape.count (v - s) := by simp [inn17]
theorem inn17_step {tape : List Int} {j : Nat} (hj : j < tape.length) (c : Nat) (s v : Int) : inn17 tape c s (j + 1) v = inn17 tape c s j v + if v = s + nth tape j then c else 0 := by
  have hg : tape[j] = nth tape j := by
    unfold nth
    rw [List.getD_eq_getElem?_getD, List.getElem?_eq_getElem hj]
    rfl
  unfold inn17
  rw [List.take_succ_eq_append_getElem hj, List.count_append, hg, List.count_singleton]
  by_cases e : v = s + nth tape j
  · have e2 : nth tape j = v - s := by omega
    rw [if_pos e, if_pos (by simpa using e2), Nat.mul_add, Nat.mul_one]
  · have e2 : ¬ nth tape j = v - s := by omega
    rw [if_neg e, if_neg (by simpa using e2), Nat.add_zero, Nat.add_zero]
theorem inn17_le (tape : List Int) (c : Nat) (s : Int) (j : Nat) (v : Int) : inn17 tape c s j v ≤ c * tape.count (v - s) :=
  Nat.mul_le_mul_left _ (List.Sublist.count_le _ (List.take_sublist j tape))
/-- No number of the step is great. -/
theorem step17_bd {tape : List Int} (ht : ∀ t ∈ tape, -50 ≤ t ∧ t ≤ 50) (h9 : tape.length ≤ 9) {n : Nat} (hn : n + 1 ≤ 6) {left left' : Int → Bool} {s : Int} (hs : s ∈ supp17 tape n) (hl : left s = true)
    (h : ∀ k, left' k = (left k && !decide (k = s))) (j : Nat) (v : Int) : part17 tape n left v + inn17 tape ((sums17 tape n).count s) s j v ≤ 531441 := by
  have h1 := part17_step (tape := tape) (n := n) hs hl h v
  have h2 := inn17_le tape ((sums17 tape n).count s) s j v
  have h3 := part17_le ht (n := n) left' v
  have h4 := count_bd h9 hn v
  omega
end Go.Proofs.YtlkgoljpjeieiaaGreatDoor
