/-
  The reference's Mul and Div of chapter 22.
-/
import Derived.Test.YtmelebfpkjnfdaaGreatDoorBndR
import Derived.Test.YtmelebfpkjnfdaaGreatDoorMeA
set_option linter.unusedVariables false
set_option linter.unusedSimpArgs false
namespace Go.Proofs.YtmelebfpkjnfdaaGreatDoor
open Go.RowKit Go.Deep
set_option maxHeartbeats 2000000 in
theorem refDiv_any (a b : Int) (w : World) (ha : -1000000000000 ≤ a ∧ a ≤ 1000000000000) : Calls Tryz.prog 86 #[.int .i64 a, .int .i64 b] w fun e w' => e = .returned (.int .i64 (divR a b)) ∧ w = w' := by
  have hd := tdiv_bdM a b ha
  obtain ⟨ha1, ha2⟩ := ha
  by_cases hb : b = 0
  · subst hb
    go_enter Tryz.func86, Tryz.ntmps86
    go_wp2
    go_ret
    exact ⟨rfl, rfl⟩
  · have hb' : (b == 0) = false := beq_eq_false_iff_ne.2 hb
    have HO : Hid (divR a b = if a.tmod b ≠ 0 ∧ (decide (a < 0) ≠ decide (b < 0)) then a.tdiv b - 1 else a.tdiv b) := by
      show _ = _
      unfold divR
      rw [if_neg hb]
    by_cases hm : a.tmod b = 0
    · have hm' : (a.tmod b != 0) = false := bne_eq_false_iff_eq.2 hm
      rw [if_neg (fun h => h.1 hm)] at HO
      clear hm
      go_enter Tryz.func86, Tryz.ntmps86
      go_wp2
      go_ret
      exact ⟨by rw [HO.out]; rfl, rfl⟩
    · have hm' : (a.tmod b != 0) = true := bne_iff_ne.2 hm
      by_cases hs : decide (a < 0) = decide (b < 0)
      · rw [if_neg (fun h => h.2 hs)] at HO
        have hs' : (decide (a < 0) == decide (b < 0)) = true := beq_iff_eq.2 hs
        clear hm hs
        go_enter Tryz.func86, Tryz.ntmps86
        go_wp2
        go_ret
        exact ⟨by rw [HO.out]; rfl, rfl⟩
      · rw [if_pos ⟨hm, hs⟩] at HO
        have hs' : (decide (a < 0) == decide (b < 0)) = false := beq_eq_false_iff_ne.2 hs
        clear hm hs
        go_enter Tryz.func86, Tryz.ntmps86
        go_wp2
        go_ret
        exact ⟨by rw [HO.out]; rfl, rfl⟩
theorem prod_fitR {a b : Int} (h : ¬ (0 < max a (-a) ∧ 1000000000000 / (max a (-a)) < max b (-b))) : -1000000000000 ≤ a * b ∧ a * b ≤ 1000000000000 := by
  by_cases h0 : 0 < max a (-a)
  · have h1 : max b (-b) ≤ 1000000000000 / (max a (-a)) := by
      have : ¬ (1000000000000 / (max a (-a)) < max b (-b)) := fun x => h ⟨h0, x⟩
      omega
    have h2 : max b (-b) * max a (-a) ≤ 1000000000000 := (Int.le_ediv_iff_mul_le h0).1 h1
    rcases Int.le_total 0 a with ha | ha <;> rcases Int.le_total 0 b with hb | hb
    · rw [Int.max_eq_left (by omega), Int.max_eq_left (by omega)] at h2
      have := Int.mul_nonneg ha hb
      rw [Int.mul_comm] at h2
      omega
    · rw [Int.max_eq_right (by omega), Int.max_eq_left (by omega), Int.neg_mul, Int.mul_comm] at h2
      have := Int.mul_nonneg ha (show 0 ≤ -b by omega)
      rw [Int.mul_neg] at this
      omega
    · rw [Int.max_eq_left (by omega), Int.max_eq_right (by omega), Int.mul_neg, Int.mul_comm] at h2
      have := Int.mul_nonneg (show 0 ≤ -a by omega) hb
      rw [Int.neg_mul] at this
      omega
    · rw [Int.max_eq_right (by omega), Int.max_eq_right (by omega), Int.neg_mul_neg, Int.mul_comm] at h2
      have := Int.mul_nonneg (show 0 ≤ -a by omega) (show 0 ≤ -b by omega)
      rw [Int.neg_mul_neg] at this
      omega
  · have : a = 0 := by omega
    subst this
    rw [Int.zero_mul]
    decide

set_option maxHeartbeats 2000000 in
theorem refMul_any (a b : Int) (w : World) (ha : -1000000000000 ≤ a ∧ a ≤ 1000000000000) (hb : -1000000000000 ≤ b ∧ b ≤ 1000000000000) : Calls Tryz.prog 85 #[.int .i64 a, .int .i64 b] w fun e w' => e = .returned (.int .i64 (mulR a b)) ∧ w = w' := by
  have HO : Hid (mulR a b = if absL a = 0 ∨ absL b ≤ (1000000000000 : Int).tdiv (absL a) then a * b else if decide (a < 0) ≠ decide (b < 0) then -1000000000001 else 1000000000001) := rfl
  have hA : absL a = max a (-a) := by unfold absL; omega
  have hB : absL b = max b (-b) := by unfold absL; omega
  have hA2 : absL a ≤ 1000000000000 ∧ 0 ≤ absL a := by unfold absL; omega
  have hB2 : absL b ≤ 1000000000000 ∧ 0 ≤ absL b := by unfold absL; omega
  have hA' : max a (-a) = absL a := hA.symm
  have hB' : max b (-b) = absL b := hB.symm
  have hfit : (absL a = 0 ∨ absL b ≤ (1000000000000 : Int).tdiv (absL a)) → -1000000000000 ≤ a * b ∧ a * b ≤ 1000000000000 := by
    intro h
    rcases h with h | h
    · have : a = 0 := by unfold absL at h; omega
      subst this
      simp
    · by_cases h0 : absL a = 0
      · have : a = 0 := by unfold absL at h0; omega
        subst this
        simp
      · refine prod_fitR (fun hh => ?_)
        rw [← hA, ← hB] at hh
        rw [Int.tdiv_eq_ediv_of_nonneg (by omega)] at h
        omega
  have htd : (1000000000000 : Int).tdiv (absL a) = 1000000000000 / absL a := Int.tdiv_eq_ediv_of_nonneg (by omega)
  rw [htd] at HO hfit
  have HFIT := hide hfit
  clear hfit hA hB htd
  by_cases h0 : absL a = 0
  · have h0' : (absL a == 0) = true := beq_iff_eq.2 h0
    rw [if_pos (.inl h0)] at HO
    have hf := HFIT.out (.inl h0)
    have hw : wrap64 (a * b) = a * b := W_in (by omega)
    clear h0
    go_enter Tryz.func85, Tryz.ntmps85
    go_wp2
    go_ret
    exact ⟨by rw [HO.out]; rfl, rfl⟩
  · have h0' : (absL a == 0) = false := beq_eq_false_iff_ne.2 h0
    by_cases h1 : absL b ≤ 1000000000000 / absL a
    · have h1' : decide (absL b ≤ 1000000000000 / absL a) = true := decide_eq_true h1
      rw [if_pos (.inr h1)] at HO
      have hf := HFIT.out (.inr h1)
      have hw : wrap64 (a * b) = a * b := W_in (by omega)
      clear h1
      go_enter Tryz.func85, Tryz.ntmps85
      go_wp2
      go_ret
      exact ⟨by rw [HO.out]; rfl, rfl⟩
    · have h1' : decide (absL b ≤ 1000000000000 / absL a) = false := decide_eq_false h1
      rw [if_neg (fun h => h.elim h0 h1)] at HO
      clear h1
      by_cases hs : decide (a < 0) = decide (b < 0)
      · rw [if_neg (fun h => h hs)] at HO
        have hs' : (decide (a < 0) == decide (b < 0)) = true := beq_iff_eq.2 hs
        clear hs
        go_enter Tryz.func85, Tryz.ntmps85
        go_wp2
        go_ret
        exact ⟨by rw [HO.out]; rfl, rfl⟩
      · rw [if_pos hs] at HO
        have hs' : (decide (a < 0) == decide (b < 0)) = false := beq_eq_false_iff_ne.2 hs
        clear hs
        go_enter Tryz.func85, Tryz.ntmps85
        go_wp2
        go_ret
        exact ⟨by rw [HO.out]; rfl, rfl⟩
end Go.Proofs.YtmelebfpkjnfdaaGreatDoor
