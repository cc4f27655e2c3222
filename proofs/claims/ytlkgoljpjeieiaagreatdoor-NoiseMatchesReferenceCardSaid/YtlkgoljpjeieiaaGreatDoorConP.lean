/-
  NoiseConvolves: the sum of the products. No program.
-/
import Derived.Test.YtlkgoljpjeieiaaGreatDoorCasP
set_option linter.unusedVariables false
set_option linter.unusedSimpArgs false
namespace Go.Proofs.YtlkgoljpjeieiaaGreatDoor

theorem supp_at {tape : List Int} (ht : ∀ t ∈ tape, -50 ≤ t ∧ t ≤ 50) {n k : Nat} (hk : k < (dist17 tape n).length) : (dAt (dist17 tape n) k).1 ∈ sums17 tape n := by
  have hl : k < (supp17 tape n).length := by
    unfold dist17 at hk
    rw [List.length_map] at hk
    exact hk
  rw [(dist_fst hk).1]
  refine (supp17_mem ht).1 ?_
  unfold nth
  rw [List.getD_eq_getElem?_getD, List.getElem?_eq_getElem hl]
  exact List.getElem_mem hl
/-- All sums of values are values. -/
theorem conv_pos {tape : List Int} (ht : ∀ t ∈ tape, -50 ≤ t ∧ t ≤ 50) {n m i k : Nat} (hi : i < (dist17 tape n).length) (hk : k < (dist17 tape m).length) :
    cntL (dist17 tape (n + m)) ((dAt (dist17 tape n) i).1 + (dAt (dist17 tape m) k).1) ≠ 0 := by
  rw [cntL_dist ht]
  have h1 := supp_at ht hi
  have h2 := supp_at ht hk
  have : (dAt (dist17 tape n) i).1 + (dAt (dist17 tape m) k).1 ∈ sums17 tape (n + m) := by
    rw [sums17_add]
    exact List.mem_flatMap.2 ⟨_, h1, List.mem_map.2 ⟨_, h2, rfl⟩⟩
  have := List.count_pos_iff.2 this
  omega
/-- What the first values contribute. -/
def convL (a b : List (Int × Nat)) (v : Int) (i : Nat) : Nat := ((a.take i).map fun p => cntL a p.1 * cntL b (v - p.1)).sum
theorem convL_step {a b : List (Int × Nat)} {v : Int} {i : Nat} (hi : i < a.length) : convL a b v (i + 1) = convL a b v i + cntL a (dAt a i).1 * cntL b (v - (dAt a i).1) := by
  unfold convL
  rw [take_snocO hi, List.map_append, List.sum_append]
  simp
theorem convL_le (a b : List (Int × Nat)) (v : Int) (i : Nat) : convL a b v i ≤ convL a b v a.length := by
  unfold convL
  have h : ((a.take i ++ a.drop i).map fun p => cntL a p.1 * cntL b (v - p.1)).sum = ((a.take i).map fun p => cntL a p.1 * cntL b (v - p.1)).sum + ((a.drop i).map fun p => cntL a p.1 * cntL b (v - p.1)).sum := by
    rw [List.map_append, List.sum_append]
  rw [List.take_append_drop] at h
  rw [List.take_length, h]
  omega
theorem convL_all {tape : List Int} (ht : ∀ t ∈ tape, -50 ≤ t ∧ t ≤ 50) (n m : Nat) (v : Int) : convL (dist17 tape n) (dist17 tape m) v (dist17 tape n).length = cntL (dist17 tape (n + m)) v := by
  rw [cntL_dist ht, count_add tape n m v (incr_nodup (supp17_incr tape n)) fun s hs => (supp17_mem ht).2 hs]
  unfold convL
  rw [List.take_length]
  simp only [cntL_dist ht]
  unfold dist17
  rw [List.map_map]
  rfl
theorem conv_bd {tape : List Int} (ht : ∀ t ∈ tape, -50 ≤ t ∧ t ≤ 50) (h9 : tape.length ≤ 9) {n m : Nat} (hn : n + m ≤ 6) (v : Int) (i : Nat) : convL (dist17 tape n) (dist17 tape m) v i ≤ 531441 := by
  refine Nat.le_trans (convL_le _ _ _ _) ?_
  rw [convL_all ht, cntL_dist ht]
  exact count_bd h9 hn v
theorem dist_len_le (tape : List Int) {n : Nat} (hn : n ≤ 6) : (dist17 tape n).length ≤ 601 := by
  unfold dist17 supp17
  rw [List.length_map]
  refine Nat.le_trans (List.length_filter_le _ _) ?_
  rw [List.length_map, List.length_range]
  omega
theorem dist_cnt_bd {tape : List Int} (ht : ∀ t ∈ tape, -50 ≤ t ∧ t ≤ 50) (h9 : tape.length ≤ 9) {n : Nat} (hn : n ≤ 6) : ∀ p ∈ dist17 tape n, p.2 < 1000000000 := fun p hp => by
  have : p.2 = (sums17 tape n).count p.1 := (dist_ord ht n).2.2 p hp
  have h2 := count_bd h9 hn p.1
  omega
theorem dist_val_bd {tape : List Int} (ht : ∀ t ∈ tape, -50 ≤ t ∧ t ≤ 50) {n : Nat} (hn : n ≤ 6) {k : Nat} (hk : k < (dist17 tape n).length) : -300 ≤ (dAt (dist17 tape n) k).1 ∧ (dAt (dist17 tape n) k).1 ≤ 300 := by
  have h := sums17_bd ht n _ (supp_at ht hk)
  have h1 : (n : Int) * 50 ≤ 300 := by omega
  omega
end Go.Proofs.YtlkgoljpjeieiaaGreatDoor
