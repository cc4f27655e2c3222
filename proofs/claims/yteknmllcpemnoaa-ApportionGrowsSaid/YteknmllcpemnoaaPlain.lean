/-
  Chapter 28: the plain laws of the method of greatest quotients. No program.
-/
import Derived.Test.YteknmllcpemnoaaModel
namespace Go.Proofs.Yteknmllcpemnoaa
open Go.RowKit

/-- Weights that are valid, the first one at least 1. -/
structure Good (w : List Int) : Prop where
  pos : 0 < w.length
  bad : badW w = false
  one : 1 ≤ nth w 0
theorem Good.nn {w : List Int} (h : Good w) (k : Nat) : 0 ≤ nth w k := (badW_nth h.bad k).1
theorem Good.seat0 {w : List Int} (h : Good w) (t k : Nat) : 0 ≤ nth (run w t) k := (run_bd w h.pos t k).1
theorem Good.best {w : List Int} (h : Good w) (t : Nat) : 0 < nth w (best w (run w t)) := by
  have h1 := h.nn (Proofs.Yteknmllcpemnoaa.best w (run w t))
  have h2 : ¬ nth w (Proofs.Yteknmllcpemnoaa.best w (run w t)) = 0 := fun e => by
    have := (best_zero h.bad (h.seat0 t)).1 e
    rw [List.all_eq_true] at this
    have := this _ (nth_mem h.pos)
    have := h.one
    simp at *
    omega
  omega
theorem Good.zero {w : List Int} (h : Good w) (t k : Nat) (hk : nth w k = 0) : nth (run w t) k = 0 := by
  induction t with
  | zero => simp [run, nth_rep]
  | succ t ih =>
    simp only [run]
    rw [nth_bump (by rw [run_len]; exact best_lt _ _ h.pos)]
    split
    · rename_i e
      have := h.best t
      rw [e] at this
      omega
    · exact ih
theorem run_out {w : List Int} {t k : Nat} (hk : ¬ k < w.length) : nth (run w t) k = 0 := nth_out (by rw [run_len]; exact hk)
theorem Good.lt {w : List Int} (h : Good w) {t k : Nat} (hk : 0 < nth (run w t) k) : k < w.length ∧ 0 < nth w k := by
  constructor
  · rcases Nat.lt_or_ge k w.length with h1 | h1
    · exact h1
    · rw [run_out (by omega)] at hk; omega
  · have h1 := h.nn k
    have h2 : ¬ nth w k = 0 := fun e => by rw [h.zero t k e] at hk; omega
    omega
/-- The quotient for the next seat of i is not greater than that of the last seat of k; if both are equal, k is ahead of i. -/
theorem Good.inv {w : List Int} (h : Good w) (t : Nat) : ∀ i k, i < w.length → i ≠ k → 0 < nth (run w t) k →
    nth w i * nth (run w t) k ≤ nth w k * (nth (run w t) i + 1) ∧ (nth w i * nth (run w t) k = nth w k * (nth (run w t) i + 1) → k < i) := by
  induction t with
  | zero => intro i k _ _ h0; simp [run, nth_rep] at h0
  | succ t ih =>
    intro i k hi hik h0
    have hb := best_lt w (run w t) h.pos
    have hbl : Proofs.Yteknmllcpemnoaa.best w (run w t) < (run w t).length := by rw [run_len]; exact hb
    simp only [run] at h0 ⊢
    rw [nth_bump hbl] at h0
    rw [nth_bump hbl, nth_bump hbl]
    by_cases hkb : Proofs.Yteknmllcpemnoaa.best w (run w t) = k
    · have hib : ¬ Proofs.Yteknmllcpemnoaa.best w (run w t) = i := fun e => hik (e.symm.trans hkb)
      rw [if_pos hkb, if_neg hib]
      have := best_max (w := w) (s := run w t) (h.seat0 t) hi
      rw [hkb] at this ⊢
      exact ⟨this.1, fun e => by
        rcases Nat.lt_or_ge i k with h1 | h1
        · have := this.2 h1; omega
        · omega⟩
    · rw [if_neg hkb] at h0 ⊢
      have old := ih i k hi hik h0
      by_cases hib : Proofs.Yteknmllcpemnoaa.best w (run w t) = i
      · rw [if_pos hib]
        rw [hib]
        have hwk := (h.lt h0).2
        have e1 : nth w k * (nth (run w t) i + 1 + 1) = nth w k * (nth (run w t) i + 1) + nth w k := by rw [Int.mul_add, Int.mul_one]
        rw [e1]
        exact ⟨by omega, fun e => by omega⟩
      · rw [if_neg hib]
        exact old
theorem sum_bump {s : List Int} {b : Nat} (hb : b < s.length) : (bump s b).sum = s.sum + 1 := by
  unfold bump
  induction s generalizing b with
  | nil => simp at hb
  | cons x xs ih =>
    cases b with
    | zero => simp only [List.set_cons_zero, List.sum_cons, nth, List.getD_cons_zero]; omega
    | succ b =>
      have := ih (b := b) (by simpa using hb)
      simp only [List.set_cons_succ, List.sum_cons, nth, List.getD_cons_succ] at this ⊢
      omega
theorem run_sum {w : List Int} (h : 0 < w.length) (t : Nat) : (run w t).sum = t := by
  induction t with
  | zero =>
    simp only [run]
    generalize w.length = n
    induction n with
    | zero => rfl
    | succ n ih => rw [List.replicate_succ, List.sum_cons, ih]; rfl
  | succ t ih =>
    rw [run, sum_bump (by rw [run_len]; exact best_lt _ _ h), ih]
    omega

/-! ### sums over two lists -/
def sumTo (f : Nat → Int) : Nat → Int
  | 0 => 0
  | k + 1 => sumTo f k + f k
theorem sumTo_nth (l : List Int) : sumTo (nth l) l.length = l.sum := by
  induction l using snoc_ind with
  | h0 => rfl
  | h1 l x ih =>
    rw [List.length_append, sum_snoc, ← ih]
    have e : ∀ k, k ≤ l.length → sumTo (nth (l ++ [x])) k = sumTo (nth l) k := by
      intro k
      induction k with
      | zero => intro _; rfl
      | succ k ihk =>
        intro hk
        simp only [sumTo]
        rw [ihk (by omega)]
        simp only [nth, List.getD_eq_getElem?_getD, List.getElem?_append_left (show k < l.length by omega)]
    show sumTo _ (l.length + 1) = _
    simp only [sumTo]
    rw [e _ (Nat.le_refl _)]
    congr 1
    simp [nth]
theorem sumTo_le {f g : Nat → Int} {n : Nat} (h : ∀ k, k < n → f k ≤ g k) : sumTo f n ≤ sumTo g n := by
  induction n with
  | zero => exact Int.le_refl _
  | succ n ih =>
    have := ih fun k hk => h k (by omega)
    have := h n (by omega)
    simp only [sumTo]
    omega
theorem sumTo_mul (f : Nat → Int) (c : Int) (n : Nat) : sumTo (fun k => c * f k) n = c * sumTo f n := by
  induction n with
  | zero => simp [sumTo]
  | succ n ih => simp only [sumTo, ih, Int.mul_add]
theorem sumTo_mul_r (f : Nat → Int) (c : Int) (n : Nat) : sumTo (fun k => f k * c) n = sumTo f n * c := by
  induction n with
  | zero => simp [sumTo]
  | succ n ih => simp only [sumTo, ih, Int.add_mul]
theorem sumTo_one {f g : Nat → Int} {n i : Nat} (hi : i < n) (h : ∀ k, k < n → k ≠ i → f k ≤ g k) : sumTo f n - f i ≤ sumTo g n - g i := by
  induction n with
  | zero => omega
  | succ n ih =>
    simp only [sumTo]
    by_cases e : i = n
    · subst e
      have := sumTo_le (f := f) (g := g) (n := i) fun k hk => h k (by omega) (by omega)
      omega
    · have := ih (by omega) fun k hk hne => h k (by omega) hne
      have := h n (by omega) (fun h => e h.symm)
      omega

/-- Each party has at least its part, rounded down. -/
theorem lower_quota {w : List Int} (h : Good w) (t i : Nat) (hi : i < w.length) : (t : Int) * nth w i / w.sum ≤ nth (run w t) i := by
  have hS : 0 < w.sum := by
    have : sumTo (fun _ => 0) w.length - 0 ≤ sumTo (nth w) w.length - nth w 0 := sumTo_one (f := fun _ => 0) (g := nth w) h.pos fun k _ _ => h.nn k
    have z : sumTo (fun _ => (0 : Int)) w.length = 0 := by
      generalize w.length = n
      induction n with
      | zero => rfl
      | succ n ih => simp only [sumTo, ih]; rfl
    rw [z, sumTo_nth] at this
    have := h.one
    omega
  have hw := h.nn i
  have hl := h.seat0 t i
  -- w_i * l_k ≤ w_k * (l_i + 1) for every other k
  have key : sumTo (fun k => nth w i * nth (run w t) k) w.length - nth w i * nth (run w t) i ≤ sumTo (fun k => nth w k * (nth (run w t) i + 1)) w.length - nth w i * (nth (run w t) i + 1) :=
    sumTo_one (f := fun k => nth w i * nth (run w t) k) (g := fun k => nth w k * (nth (run w t) i + 1)) hi fun k hk hne => by
      rcases Int.lt_or_le 0 (nth (run w t) k) with h0 | h0
      · exact (h.inv t i k hi (fun e => hne e.symm) h0).1
      · have e0 : nth (run w t) k = 0 := by have := h.seat0 t k; omega
        show nth w i * nth (run w t) k ≤ nth w k * (nth (run w t) i + 1)
        rw [e0, Int.mul_zero]
        exact Int.mul_nonneg (h.nn k) (by omega)
  rw [sumTo_mul, sumTo_mul_r, sumTo_nth] at key
  have e2 : sumTo (nth (run w t)) w.length = (t : Int) := by
    have := sumTo_nth (run w t)
    rw [run_len, run_sum h.pos] at this
    exact this
  rw [e2] at key
  have e3 : nth w i * (nth (run w t) i + 1) = nth w i * nth (run w t) i + nth w i := by rw [Int.mul_add, Int.mul_one]
  rw [e3] at key
  rw [Int.mul_comm (t : Int)]
  rcases Int.lt_or_le 0 (nth w i) with hp | hp
  · have : nth w i * (t : Int) < w.sum * (nth (run w t) i + 1) := by omega
    have := Int.ediv_lt_of_lt_mul hS (by rw [Int.mul_comm]; exact this)
    omega
  · have e0 : nth w i = 0 := by omega
    rw [e0, Int.zero_mul, Int.zero_ediv]
    exact hl

/-- Of two parties the one with the greater weight has at least as many seats; equal weights differ by at most one. -/
theorem order_ge {w : List Int} (h : Good w) (t i k : Nat) (hi : i < w.length) (hk : k < w.length) (hw : nth w k < nth w i) : nth (run w t) k ≤ nth (run w t) i := by
  rcases Int.lt_or_le (nth (run w t) i) (nth (run w t) k) with hlt | hle
  · exfalso
    have h0 := h.seat0 t i
    have hne : i ≠ k := fun e => by subst e; omega
    have inv := (h.inv t i k hi hne (by omega)).1
    have e1 : nth w i * (nth (run w t) i + 1) ≤ nth w i * nth (run w t) k := Int.mul_le_mul_of_nonneg_left (by omega) (h.nn i)
    have e2 : nth w k * (nth (run w t) i + 1) < nth w i * (nth (run w t) i + 1) := Int.mul_lt_mul_of_pos_right hw (by omega)
    omega
  · exact hle
theorem order_eq {w : List Int} (h : Good w) (t i k : Nat) (hi : i < w.length) (hk : k < w.length) (hw : nth w i = nth w k) : nth (run w t) i ≤ nth (run w t) k + 1 := by
  rcases Int.lt_or_le (nth (run w t) k + 1) (nth (run w t) i) with hlt | hle
  · exfalso
    have h0 := h.seat0 t k
    have hne : k ≠ i := fun e => by subst e; omega
    have inv := (h.inv t k i hk hne (by omega)).1
    have hp := (h.lt (t := t) (k := i) (by omega)).2
    rw [← hw] at inv
    have : nth w i * (nth (run w t) k + 1) < nth w i * nth (run w t) i := Int.mul_lt_mul_of_pos_left hlt hp
    omega
  · exact hle

/-- If a list has a greater number than another one with the same sum, it has a lesser one, too. -/
theorem lesser {f g : Nat → Int} {n i : Nat} (hi : i < n) (hs : sumTo f n = sumTo g n) (h : f i < g i) : ∃ j, j < n ∧ g j < f j := by
  refine Classical.byContradiction fun hc => ?_
  have : sumTo f n - f i ≤ sumTo g n - g i := sumTo_one hi fun k hk _ => by
    rcases Int.lt_or_le (g k) (f k) with h1 | h1
    · exact absurd ⟨k, hk, h1⟩ hc
    · exact h1
  omega
/-- One weight becomes greater: who gains is that party alone. -/
theorem grows_core {w v : List Int} (hw : Good w) (hv : Good v) (hl : v.length = w.length) {m : Nat} (hm : nth w m ≤ nth v m) (ho : ∀ k, k ≠ m → nth v k = nth w k) (t : Nat) {i j : Nat} (hi : i < w.length) (hj : j < w.length)
    (him : i ≠ m) (h1 : nth (run w t) i < nth (run v t) i) (h2 : nth (run v t) j < nth (run w t) j) : False := by
  have a0 := hw.seat0 t i
  have b0 := hv.seat0 t j
  have hij : i ≠ j := fun e => by subst e; omega
  have ia := hw.inv t i j hi hij (by omega)
  have ib := hv.inv t j i (by omega) (fun e => hij e.symm) (by omega)
  have hwj := (hw.lt (t := t) (k := j) (by omega)).2
  have hwi := hw.nn i
  rw [ho i him] at ib
  have hvj : nth w j ≤ nth v j := by
    by_cases e : j = m
    · subst e; exact hm
    · rw [ho j e]; exact Int.le_refl _
  -- w_j b_i ≤ v_j b_i ≤ w_i (b_j + 1) ≤ w_i a_j ≤ w_j (a_i + 1) ≤ w_j b_i
  have c1 : nth w j * nth (run v t) i ≤ nth v j * nth (run v t) i := Int.mul_le_mul_of_nonneg_right hvj (by omega)
  have c2 : nth w i * (nth (run v t) j + 1) ≤ nth w i * nth (run w t) j := Int.mul_le_mul_of_nonneg_left (by omega) hwi
  have c3 : nth w j * (nth (run w t) i + 1) ≤ nth w j * nth (run v t) i := Int.mul_le_mul_of_nonneg_left (by omega) (by omega)
  have e1 := ia.2 (by have := ia.1; have := ib.1; omega)
  have e2 := ib.2 (by have := ia.1; have := ib.1; omega)
  omega
theorem grows {w v : List Int} (hw : Good w) (hv : Good v) (hl : v.length = w.length) {m : Nat} (hmn : m < w.length) (hm : nth w m ≤ nth v m) (ho : ∀ k, k ≠ m → nth v k = nth w k) (t : Nat) :
    nth (run w t) m ≤ nth (run v t) m ∧ ∀ i, i < w.length → i ≠ m → nth (run v t) i ≤ nth (run w t) i := by
  have hs : sumTo (nth (run w t)) w.length = sumTo (nth (run v t)) w.length := by
    have e1 := sumTo_nth (run w t)
    have e2 := sumTo_nth (run v t)
    rw [run_len, run_sum hw.pos] at e1
    rw [run_len, run_sum hv.pos, hl] at e2
    rw [e1, e2]
  constructor
  · rcases Int.lt_or_le (nth (run v t) m) (nth (run w t) m) with h1 | h1
    · obtain ⟨i, hi, h2⟩ := lesser hmn hs.symm h1
      by_cases him : i = m
      · subst him; omega
      · exact (grows_core hw hv hl hm ho t hi hmn him h2 h1).elim
    · exact h1
  · intro i hi him
    rcases Int.lt_or_le (nth (run w t) i) (nth (run v t) i) with h1 | h1
    · obtain ⟨j, hj, h2⟩ := lesser hi hs h1
      exact (grows_core hw hv hl hm ho t hi hj him h1 h2).elim
    · exact h1

/-! ### scaled weights, further parties -/
theorem nth_app_l {xs ys : List Int} {k : Nat} (h : k < xs.length) : nth (xs ++ ys) k = nth xs k := by
  simp only [nth, List.getD_eq_getElem?_getD, List.getElem?_append_left h]
theorem nth_app_r {xs ys : List Int} {k : Nat} (h : ¬ k < xs.length) : nth (xs ++ ys) k = nth ys (k - xs.length) := by
  simp only [nth, List.getD_eq_getElem?_getD, List.getElem?_append_right (Nat.le_of_not_lt h)]
theorem nth_map_mul (xs : List Int) (f : Int) (k : Nat) : nth (xs.map (· * f)) k = nth xs k * f := by
  simp only [nth, List.getD_eq_getElem?_getD, List.getElem?_map]
  cases xs[k]? <;> simp
def scaleL (w : List Int) (f : Int) (z : Nat) : List Int := w.map (· * f) ++ List.replicate z 0
theorem scaleL_len (w : List Int) (f : Int) (z : Nat) : (scaleL w f z).length = w.length + z := by simp [scaleL]
theorem scaleL_nth {w : List Int} (f : Int) (z k : Nat) : nth (scaleL w f z) k = nth w k * f := by
  unfold scaleL
  by_cases h : k < w.length
  · rw [nth_app_l (by simpa using h), nth_map_mul]
  · rw [nth_app_r (by simpa using h), nth_rep, nth_out h, Int.zero_mul]
theorem zeros_nth {s : List Int} (z k : Nat) : nth (s ++ List.replicate z 0) k = nth s k := by
  by_cases h : k < s.length
  · rw [nth_app_l h]
  · rw [nth_app_r h, nth_rep, nth_out h]
theorem befB_scale {w s : List Int} {f : Int} (hf : 0 < f) (z i k : Nat) : befB (scaleL w f z) (s ++ List.replicate z 0) i k = befB w s i k := by
  simp only [befB, scaleL_nth, zeros_nth]
  rw [Bool.eq_iff_iff, decide_eq_true_eq, decide_eq_true_eq, Int.mul_right_comm, Int.mul_right_comm (nth w i)]
  exact ⟨fun h => Int.lt_of_mul_lt_mul_right h (by omega), fun h => Int.mul_lt_mul_of_pos_right h hf⟩
theorem bestTo_scale {w s : List Int} {f : Int} (hf : 0 < f) (z j : Nat) : bestTo (scaleL w f z) (s ++ List.replicate z 0) j = bestTo w s j := by
  induction j with
  | zero => rfl
  | succ j ih => simp only [bestTo, ih, befB_scale hf]
theorem bestTo_past {w s : List Int} (hw : badW w = false) (hs : ∀ k, 0 ≤ nth s k) (d : Nat) : bestTo w s (w.length + d) = best w s := by
  induction d with
  | zero => rfl
  | succ d ih =>
    show bestTo w s (w.length + d + 1) = _
    simp only [bestTo, ih]
    have : befB w s (w.length + d) (best w s) = false := by
      simp only [befB, decide_eq_false_iff_not]
      rw [nth_out (show ¬ w.length + d < w.length by omega), Int.zero_mul]
      have := Int.mul_nonneg (badW_nth hw (best w s)).1 (show 0 ≤ nth s (w.length + d) + 1 by have := hs (w.length + d); omega)
      omega
    rw [this]; rfl
theorem run_scale {w : List Int} (h : Good w) {f : Int} (hf : 0 < f) (z t : Nat) : run (scaleL w f z) t = run w t ++ List.replicate z 0 := by
  induction t with
  | zero => simp only [run, scaleL_len, List.replicate_append_replicate]
  | succ t ih =>
    simp only [run, ih]
    have hb : best (scaleL w f z) (run w t ++ List.replicate z 0) = best w (run w t) := by
      unfold best
      rw [bestTo_scale hf, scaleL_len, bestTo_past h.bad (h.seat0 t)]
      rfl
    rw [hb]
    unfold bump
    rw [zeros_nth, List.set_append_left _ _ (by rw [run_len]; exact best_lt _ _ h.pos)]
end Go.Proofs.Yteknmllcpemnoaa
