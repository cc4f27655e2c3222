/-
  Chapter 28: what Share computes, in plain Lean. No program.
-/
import Derived.Test.YteknmllcpemnoaaWrap
namespace Go.Proofs.Yteknmllcpemnoaa
open Go.RowKit

def outB (lo hi n : Int) : Bool := decide (n < lo) || decide (hi < n)
/-- Party i has a greater quotient than party k. -/
def befB (w s : List Int) (i k : Nat) : Bool := decide (nth w k * (nth s i + 1) < nth w i * (nth s k + 1))
def bestTo (w s : List Int) : Nat → Nat
  | 0 => 0
  | j + 1 => if befB w s j (bestTo w s j) then j else bestTo w s j
def best (w s : List Int) : Nat := bestTo w s w.length
def bump (s : List Int) (b : Nat) : List Int := s.set b (nth s b + 1)
def run (w : List Int) : Nat → List Int
  | 0 => List.replicate w.length 0
  | t + 1 => bump (run w t) (best w (run w t))
def badW (w : List Int) : Bool := w.any (outB 0 1000000000)
def shrE (total : Int) (w : List Int) : Int :=
  if decide (w.length < 1) || decide (200 < w.length) || badW w || decide (total < 0) || decide (720 < total) then 1
  else if w.all (fun x => decide (x = 0)) && decide (0 < total) then 10 else 0
def shrL (total : Int) (w : List Int) : List Int := if shrE total w = 0 then run w total.toNat else []

theorem bestTo_lt (w s : List Int) (j : Nat) (h : 0 < j) : bestTo w s j < j := by
  induction j with
  | zero => omega
  | succ j ih =>
    simp only [bestTo]
    split
    · omega
    · cases j with
      | zero => simp [bestTo]
      | succ j => have := ih (by omega); omega
theorem bestTo_le (w s : List Int) (j n : Nat) (h : j ≤ n) (hn : 0 < n) : bestTo w s j < n := by
  cases j with
  | zero => simpa [bestTo] using hn
  | succ j => have := bestTo_lt w s (j + 1) (by omega); omega
theorem best_lt (w s : List Int) (h : 0 < w.length) : best w s < w.length := bestTo_lt w s _ h
theorem run_len (w : List Int) (t : Nat) : (run w t).length = w.length := by
  induction t with
  | zero => simp [run]
  | succ t ih => simp [run, bump, ih]
theorem nth_rep (n k : Nat) : nth (List.replicate n 0) k = 0 := by
  simp only [nth, List.getD_eq_getElem?_getD, List.getElem?_replicate]
  split <;> rfl
theorem nth_set' {xs : List Int} {i j : Nat} {v : Int} (h : i < xs.length) : nth (xs.set i v) j = if i = j then v else nth xs j := by
  simp only [nth, List.getD_eq_getElem?_getD, List.getElem?_set]
  by_cases hij : i = j
  · subst hij; simp [h]
  · simp [hij]
theorem nth_bump {s : List Int} {b j : Nat} (h : b < s.length) : nth (bump s b) j = if b = j then nth s b + 1 else nth s j := nth_set' h
theorem run_bd (w : List Int) (hw : 0 < w.length) (t : Nat) (k : Nat) : 0 ≤ nth (run w t) k ∧ nth (run w t) k ≤ t := by
  induction t with
  | zero => simp [run, nth_rep]
  | succ t ih =>
    simp only [run]
    rw [nth_bump (by rw [run_len]; exact best_lt _ _ hw)]
    split
    · rename_i h; rw [h]; omega
    · omega
theorem badW_nth {w : List Int} (h : badW w = false) (k : Nat) : 0 ≤ nth w k ∧ nth w k ≤ 1000000000 := by
  rcases Nat.lt_or_ge k w.length with hk | hk
  · have := List.any_eq_false.1 h _ (nth_mem hk)
    simp [outB] at this
    omega
  · have : nth w k = 0 := by simp [nth, List.getElem?_eq_none hk]
    omega
theorem prod_bd {a b : Int} (h0 : 0 ≤ a) (h1 : a ≤ 1000000000) (h2 : 0 ≤ b) (h3 : b ≤ 1000) : 0 ≤ a * (b + 1) ∧ a * (b + 1) ≤ 1001000000000 := by
  constructor
  · exact Int.mul_nonneg h0 (by omega)
  · have := Int.mul_le_mul h1 (show b + 1 ≤ 1001 by omega) (by omega) (by omega)
    omega

/-- Quotients are compared crosswise: at most, then less. -/
theorem q_le_lt {a b c x y z : Int} (hx : 0 < x) (hy : 0 < y) (hz : 0 < z) (h1 : a * y ≤ b * x) (h2 : b * z < c * y) : a * z < c * x := by
  have e1 : a * y * z ≤ b * x * z := Int.mul_le_mul_of_nonneg_right h1 (by omega)
  have e2 : b * z * x < c * y * x := Int.mul_lt_mul_of_pos_right h2 hx
  have e3 : a * z * y < c * x * y := by
    rw [Int.mul_right_comm a z y, Int.mul_right_comm c x y]
    rw [Int.mul_right_comm b z x] at e2
    omega
  exact Int.lt_of_mul_lt_mul_right e3 (by omega)
theorem q_le_le {a b c x y z : Int} (hx : 0 < x) (hy : 0 < y) (hz : 0 < z) (h1 : a * y ≤ b * x) (h2 : b * z ≤ c * y) : a * z ≤ c * x := by
  have e1 : a * y * z ≤ b * x * z := Int.mul_le_mul_of_nonneg_right h1 (by omega)
  have e2 : b * z * x ≤ c * y * x := Int.mul_le_mul_of_nonneg_right h2 (by omega)
  have e3 : a * z * y ≤ c * x * y := by
    rw [Int.mul_right_comm a z y, Int.mul_right_comm c x y]
    rw [Int.mul_right_comm b z x] at e2
    omega
  exact Int.le_of_mul_le_mul_right e3 hy
theorem q_lt_le {a b c x y z : Int} (hx : 0 < x) (hy : 0 < y) (hz : 0 < z) (h1 : a * y < b * x) (h2 : b * z ≤ c * y) : a * z < c * x := by
  have e1 : a * y * z < b * x * z := Int.mul_lt_mul_of_pos_right h1 hz
  have e2 : b * z * x ≤ c * y * x := Int.mul_le_mul_of_nonneg_right h2 (by omega)
  have e3 : a * z * y < c * x * y := by
    rw [Int.mul_right_comm a z y, Int.mul_right_comm c x y]
    rw [Int.mul_right_comm b z x] at e2
    omega
  exact Int.lt_of_mul_lt_mul_right e3 (by omega)
/-- The best party's quotient is not less than any other's, and greater than those ahead of it. -/
theorem bestTo_max (w s : List Int) (hs : ∀ k, 0 ≤ nth s k) (j : Nat) : ∀ i, i < j →
    nth w i * (nth s (bestTo w s j) + 1) ≤ nth w (bestTo w s j) * (nth s i + 1) ∧ (i < bestTo w s j → nth w i * (nth s (bestTo w s j) + 1) < nth w (bestTo w s j) * (nth s i + 1)) := by
  have pos : ∀ k, 0 < nth s k + 1 := fun k => by have := hs k; omega
  induction j with
  | zero => intro i hi; omega
  | succ j ih =>
    intro i hi
    simp only [bestTo]
    by_cases hb : befB w s j (bestTo w s j) = true
    · rw [if_pos hb]
      simp only [befB, decide_eq_true_eq] at hb
      by_cases hij : i = j
      · subst hij
        exact ⟨Int.le_refl _, fun h => absurd h (by omega)⟩
      · have h1 := (ih i (by omega)).1
        have := q_le_lt (pos i) (pos _) (pos j) h1 hb
        exact ⟨by omega, fun _ => this⟩
    · rw [if_neg hb]
      simp only [befB, decide_eq_true_eq] at hb
      by_cases hij : i = j
      · subst hij
        refine ⟨by omega, fun h => ?_⟩
        rcases Nat.eq_zero_or_pos i with h0 | h0
        · subst h0; simp [bestTo] at h
        · have := bestTo_lt w s i h0; omega
      · exact ih i (by omega)
theorem best_max {w s : List Int} (hs : ∀ k, 0 ≤ nth s k) {i : Nat} (hi : i < w.length) :
    nth w i * (nth s (best w s) + 1) ≤ nth w (best w s) * (nth s i + 1) ∧ (i < best w s → nth w i * (nth s (best w s) + 1) < nth w (best w s) * (nth s i + 1)) := bestTo_max w s hs _ i hi
theorem nth_out {xs : List Int} {k : Nat} (h : ¬ k < xs.length) : nth xs k = 0 := by simp [nth, List.getElem?_eq_none (Nat.le_of_not_lt h)]
theorem best_zero {w s : List Int} (hw : badW w = false) (hs : ∀ k, 0 ≤ nth s k) : nth w (best w s) = 0 ↔ w.all (fun x => decide (x = 0)) = true := by
  constructor
  · intro h
    rw [List.all_eq_true]
    intro x hx
    obtain ⟨i, hi, rfl⟩ := List.getElem_of_mem hx
    have h1 := (best_max (w := w) hs hi).1
    rw [h, Int.zero_mul] at h1
    have h2 := badW_nth hw i
    have h3 := hs (best w s)
    rw [← nth_eq hi]
    rcases Int.lt_or_le 0 (nth w i) with h4 | h4
    · have := Int.mul_pos h4 (show 0 < nth s (best w s) + 1 by omega)
      omega
    · simp; omega
  · intro h
    rw [List.all_eq_true] at h
    rcases Nat.lt_or_ge (best w s) w.length with hk | hk
    · have := h _ (nth_mem hk)
      simpa using this
    · exact nth_out (by omega)
theorem bestTo_one (w s : List Int) : bestTo w s 1 = 0 := by have := bestTo_lt w s 1 (by omega); omega
end Go.Proofs.Yteknmllcpemnoaa
