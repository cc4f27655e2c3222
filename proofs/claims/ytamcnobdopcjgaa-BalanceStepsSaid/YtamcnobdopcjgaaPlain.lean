/-
  Chapter 26: the plain laws of balances and charges. No program.
-/
import Derived.Test.YtamcnobdopcjgaaLists
namespace Go.Proofs.Ytamcnobdopcjgaa
open Go.RowKit

theorem balN_eq (xs ys : List Int) (p : Int) : balN xs ys p = wrap64 (nth xs p.toNat * ys.sum - nth ys p.toNat * xs.sum) := by
  simp only [balN, wsum_eq, W_mul_r, W_sub_l, W_sub_r]
theorem map_nth (xs : List Int) : (List.range xs.length).map (nth xs) = xs := by
  apply List.ext_getElem
  · simp
  · intro i h1 h2
    simp [nth, List.getElem?_eq_getElem h2]
theorem sum_map_mul (l : List Nat) (f : Nat → Int) (c : Int) : (l.map fun i => f i * c).sum = (l.map f).sum * c := by
  induction l with
  | nil => simp
  | cons a l ih => simp only [List.map_cons, List.sum_cons, ih, Int.add_mul]
theorem sum_map_sub (l : List Nat) (f g : Nat → Int) : (l.map fun i => f i - g i).sum = (l.map f).sum - (l.map g).sum := by
  induction l with
  | nil => simp
  | cons a l ih => simp only [List.map_cons, List.sum_cons, ih]; omega
theorem W_sum_map (l : List Nat) (f : Nat → Int) : wrap64 (l.map fun i => wrap64 (f i)).sum = wrap64 (l.map f).sum := by
  induction l with
  | nil => rfl
  | cons a l ih =>
    simp only [List.map_cons, List.sum_cons, W_add_l]
    rw [← W_add_r, ih, W_add_r]

/-- The balances add up to 0. -/
theorem zero_sum {xs ys : List Int} (h : ys.length = xs.length) : wsum (allL xs ys xs.length) = 0 := by
  rw [wsum_eq]
  unfold allL
  have : (fun (i : Nat) => balN xs ys (i : Int)) = fun i => wrap64 (nth xs i * ys.sum - nth ys i * xs.sum) := by
    funext i; rw [balN_eq, Int.toNat_natCast]
  rw [this, W_sum_map, sum_map_sub, sum_map_mul, sum_map_mul, map_nth]
  rw [show (List.range xs.length).map (nth ys) = ys by rw [← h]; exact map_nth ys]
  rw [Int.mul_comm xs.sum, Int.sub_self]
  exact W_zero

theorem nth_set {xs : List Int} {i j : Nat} {v : Int} (h : i < xs.length) : nth (xs.set i v) j = if i = j then v else nth xs j := by
  simp only [nth, List.getD_eq_getElem?_getD, List.getElem?_set]
  by_cases hij : i = j
  · subst hij; simp [h]
  · simp [hij]
theorem sum_set {xs : List Int} {i : Nat} {v : Int} (h : i < xs.length) : (xs.set i v).sum = xs.sum - nth xs i + v := by
  induction xs generalizing i with
  | nil => simp at h
  | cons x xs ih =>
    cases i with
    | zero => simp only [List.set_cons_zero, List.sum_cons, nth, List.getD_cons_zero]; omega
    | succ i =>
      simp only [List.set_cons_succ, List.sum_cons, ih (by simpa using h), nth, List.getD_cons_succ]
      omega

/-- The sum of the other shares, as the statement's loop computes it. -/
def restW (xs : List Int) (p : Int) (k : Nat) : Int := wsum (((List.range k).filter fun (i : Nat) => (i : Int) != p).map (nth xs))
theorem restW_zero (xs : List Int) (p : Int) : restW xs p 0 = 0 := rfl
theorem restW_skip {xs : List Int} {p : Int} {k : Nat} (h : ((k : Int) != p) = false) : restW xs p (k + 1) = restW xs p k := by
  simp only [restW, List.range_succ, List.filter_append]
  simp [h]
theorem restW_add {xs : List Int} {p : Int} {k : Nat} (h : ((k : Int) != p) = true) : restW xs p (k + 1) = wrap64 (restW xs p k + nth xs k) := by
  simp only [restW, List.range_succ, List.filter_append, List.map_append]
  simp only [List.filter_cons, h, if_true, List.filter_nil, List.map_cons, List.map_nil, wsum_snoc]
theorem rest_sum (xs : List Int) (p k : Nat) (hp : p < k) : (((List.range k).filter fun (i : Nat) => (i : Int) != (p : Int)).map (nth xs)).sum = ((List.range k).map (nth xs)).sum - nth xs p := by
  induction k with
  | zero => omega
  | succ k ih =>
    rw [List.range_succ, List.filter_append, List.map_append, List.map_append, List.sum_append, List.sum_append]
    by_cases hk : p = k
    · subst hk
      have : ((List.range p).filter fun (i : Nat) => (i : Int) != (p : Int)) = List.range p := by
        apply List.filter_eq_self.2
        intro a ha
        have := List.mem_range.1 ha
        rw [bne_iff_ne]; omega
      rw [this]
      simp
    · rw [ih (by omega)]
      have : ((k : Int) != (p : Int)) = true := by rw [bne_iff_ne]; omega
      simp only [List.filter_cons, this, if_true, List.filter_nil, List.map_cons, List.map_nil, List.sum_cons, List.sum_nil]
      omega
theorem restW_all (xs : List Int) (p : Nat) (hp : p < xs.length) : restW xs (p : Int) xs.length = wrap64 (xs.sum - nth xs p) := by
  rw [restW, wsum_eq, rest_sum xs p _ hp, map_nth]

/-- Charging lowers the partner's balance by the slots times the sum of the other shares. -/
theorem charge_one {xs ys : List Int} {p : Nat} {s : Int} (h : ys.length = xs.length) (hp : p < xs.length) :
    balN xs (ys.set p (nth ys p + s)) (p : Int) = wrap64 (balN xs ys (p : Int) - wrap64 (s * restW xs (p : Int) xs.length)) := by
  rw [balN_eq, balN_eq, restW_all xs p hp, W_mul_r, W_sub_l, W_sub_r, Int.toNat_natCast, sum_set (by omega), nth_set (by omega), if_pos rfl]
  congr 1
  rw [show ys.sum - nth ys p + (nth ys p + s) = ys.sum + s by omega, Int.mul_add, Int.add_mul, Int.mul_sub, Int.mul_comm (nth xs p) s]
  omega
/-- .. and raises that of another one by the slots times its share. -/
theorem charge_two {xs ys : List Int} {p q : Nat} {s : Int} (h : ys.length = xs.length) (hp : p < xs.length) (hne : p ≠ q) :
    balN xs (ys.set p (nth ys p + s)) (q : Int) = wrap64 (balN xs ys (q : Int) + wrap64 (s * nth xs q)) := by
  rw [balN_eq, balN_eq, W_add_l, W_add_r, Int.toNat_natCast, sum_set (by omega), nth_set (by omega), if_neg hne]
  congr 1
  rw [show ys.sum - nth ys p + (nth ys p + s) = ys.sum + s by omega, Int.mul_add, Int.mul_comm (nth xs q) s]
  omega

theorem any_set_false {ys : List Int} {p : Nat} {v lo hi : Int} (h : ys.any (outB lo hi) = false) (hv : outB lo hi v = false) : (ys.set p v).any (outB lo hi) = false := by
  rw [List.any_eq_false] at h ⊢
  intro x hx
  rcases List.mem_or_eq_of_mem_set hx with hx | rfl
  · exact h x hx
  · simp [hv]
theorem vld_set {xs ys : List Int} {p : Nat} {v : Int} (h : vldB xs ys = true) (h0 : 0 ≤ v) (h1 : v ≤ 1000000) : vldB xs (ys.set p v) = true := by
  simp only [vldB, Bool.and_eq_true, Bool.not_eq_true', List.length_set] at h ⊢
  exact ⟨h.1, any_set_false h.2 (by simp [outB]; omega)⟩

theorem nth_times {xs : List Int} {k : Int} {i : Nat} : nth (timesL xs k) i = wrap64 (nth xs i * k) := by
  simp only [nth, timesL, List.getD_eq_getElem?_getD, List.getElem?_map]
  cases xs[i]? with
  | none => simp [W_zero]
  | some x => simp
theorem sum_times (xs : List Int) (k : Int) : wrap64 (timesL xs k).sum = wrap64 (xs.sum * k) := by
  induction xs with
  | nil => simp [timesL]
  | cons x xs ih =>
    simp only [timesL, List.map_cons, List.sum_cons, W_add_l] at ih ⊢
    rw [← W_add_r, ih, W_add_r, Int.add_mul]
theorem bal_times (xs ys : List Int) (k m : Int) (p : Int) : balN (timesL xs k) (timesL ys m) p = wrap64 (balN xs ys p * (k * m)) := by
  rw [balN_eq, balN_eq, W_mul_l, nth_times, nth_times]
  rw [← W_sub_l, ← W_sub_r, W_mul_l, W_mul_l, W_sub_l, W_sub_r]
  rw [← W_sub_l, ← W_sub_r, ← W_mul_r, ← W_mul_r (nth ys p.toNat * m), sum_times, sum_times, W_mul_r, W_mul_r, W_sub_l, W_sub_r]
  congr 1
  rw [Int.sub_mul]
  congr 1
  · rw [Int.mul_assoc, Int.mul_assoc, ← Int.mul_assoc k, Int.mul_comm k, Int.mul_assoc]
  · rw [Int.mul_assoc, Int.mul_assoc, ← Int.mul_assoc m, Int.mul_comm m, Int.mul_assoc, Int.mul_comm m k]
theorem all_times (xs ys : List Int) (k m : Int) (n : Nat) : allL (timesL xs k) (timesL ys m) n = timesL (allL xs ys n) (k * m) := by
  simp only [allL, timesL, List.map_map]
  apply List.map_congr_left
  intro i _
  exact bal_times xs ys k m i
theorem bal_fair (xs : List Int) (f : Int) (p : Int) : balN xs (timesL xs f) p = 0 := by
  rw [balN_eq, nth_times]
  rw [← W_sub_r, W_mul_l, W_sub_r, ← W_sub_l, ← W_mul_r, sum_times, W_mul_r, W_sub_l]
  rw [show nth xs p.toNat * (xs.sum * f) - nth xs p.toNat * f * xs.sum = 0 by rw [Int.mul_assoc, Int.mul_comm f]; omega]
  exact W_zero
theorem all_fair (xs : List Int) (f : Int) (n : Nat) : ∀ k, nth (allL xs (timesL xs f) n) k = 0 := by
  intro k
  simp only [nth, allL, List.getD_eq_getElem?_getD, List.getElem?_map]
  cases (List.range n)[k]? with
  | none => rfl
  | some i => simp [bal_fair]
end Go.Proofs.Ytamcnobdopcjgaa
