/-
  The reference's Valid of an expression, in plain words: the stack of roots as a row that grows, the depths beside it. No program.
-/
import Derived.Test.YtkomgidcgepknaaGreatDoorValP
set_option linter.unusedVariables false
set_option linter.unusedSimpArgs false
namespace Go.Proofs.YtkomgidcgepknaaGreatDoor

/-- The roots, oldest first. -/
def rootsL (os : List (Nat × Nat)) : List Int := os.reverse.map fun x => (x.1 : Int)
theorem rootsL_len (os : List (Nat × Nat)) : (rootsL os).length = os.length := by simp [rootsL]
theorem rootsL_get {os : List (Nat × Nat)} {n j : Nat} (hn : n ≤ os.length) (hj : j < n) : (rootsL os).getD (os.length - n + j) 0 = ((os.getD (n - 1 - j) (0, 0)).1 : Int) := by
  unfold rootsL
  rw [List.getD_eq_getElem?_getD, List.getElem?_map, List.getElem?_reverse (by omega), List.getD_eq_getElem?_getD]
  rw [show os.length - 1 - (os.length - n + j) = n - 1 - j from by omega, List.getElem?_eq_getElem (by omega)]
  rfl
theorem rootsL_drop (os : List (Nat × Nat)) (n : Nat) : (rootsL os).take (os.length - n) = rootsL (os.drop n) := by
  unfold rootsL
  rw [← List.map_take, List.take_reverse]
  by_cases h : n ≤ os.length
  · rw [show os.length - (os.length - n) = n from by omega]
  · rw [show os.length - (os.length - n) = os.length from by omega, List.drop_of_length_le (Nat.le_refl _), List.drop_of_length_le (by omega)]
theorem rootsL_cons (x : Nat × Nat) (os : List (Nat × Nat)) : rootsL (x :: os) = rootsL os ++ [(x.1 : Int)] := by
  unfold rootsL
  rw [List.reverse_cons, List.map_append]
  rfl
/-- The depths of the last j of the n roots on top. -/
def lastD (os : List (Nat × Nat)) (n j : Nat) : Nat := deepest ((os.take n).drop (n - j)) + 1
theorem lastD_zero (os : List (Nat × Nat)) (n : Nat) : lastD os n 0 = 1 := by
  unfold lastD
  rw [Nat.sub_zero, List.drop_of_length_le (by rw [List.length_take]; omega)]
  rfl
theorem lastD_next {os : List (Nat × Nat)} {n j : Nat} (hn : n ≤ os.length) (hj : j < n) : lastD os n (j + 1) = max (lastD os n j) ((os.getD (n - 1 - j) (0, 0)).2 + 1) := by
  unfold lastD
  have hl : n - (j + 1) < (os.take n).length := by rw [List.length_take]; omega
  rw [List.drop_eq_getElem_cons hl, show n - (j + 1) + 1 = n - j from by omega]
  show max ((os.take n)[n - (j + 1)]).2 _ + 1 = _
  have : (os.take n)[n - (j + 1)] = os.getD (n - 1 - j) (0, 0) := by
    rw [List.getElem_take, List.getD_eq_getElem?_getD]
    simp only [show n - (j + 1) = n - 1 - j from by omega]
    rw [List.getElem?_eq_getElem (by omega)]
    rfl
  rw [this]
  omega
theorem lastD_all (os : List (Nat × Nat)) (n : Nat) : lastD os n n = deepest (os.take n) + 1 := by
  unfold lastD
  rw [Nat.sub_self, List.drop_zero]
/-- Do the kids lie as the n roots on top? -/
theorem kids_match {ks : List Int} {os : List (Nat × Nat)} (hn : ks.length ≤ os.length) (h : ∀ j, j < ks.length → ks.getD j 0 = ((os.getD (ks.length - 1 - j) (0, 0)).1 : Int)) : ks.reverse = (os.take ks.length).map (fun x => (x.1 : Int)) := by
  refine List.ext_getElem (by simp [hn]) fun i h1 h2 => ?_
  rw [List.length_reverse] at h1
  rw [List.getElem_reverse, List.getElem_map, List.getElem_take]
  have := h (ks.length - 1 - i) (by omega)
  rw [show ks.length - 1 - (ks.length - 1 - i) = i from by omega, List.getD_eq_getElem?_getD, List.getElem?_eq_getElem (by omega), List.getD_eq_getElem?_getD, List.getElem?_eq_getElem (by omega)] at this
  exact this
theorem kids_differ {ks : List Int} {os : List (Nat × Nat)} {j : Nat} (hn : ks.length ≤ os.length) (hj : j < ks.length) (h : ks.getD j 0 ≠ ((os.getD (ks.length - 1 - j) (0, 0)).1 : Int)) : ks.reverse ≠ (os.take ks.length).map (fun x => (x.1 : Int)) := by
  intro he
  refine h ?_
  have h1 : ks.reverse[ks.length - 1 - j]? = ((os.take ks.length).map (fun x => (x.1 : Int)))[ks.length - 1 - j]? := by rw [he]
  rw [List.getElem?_reverse (by omega), show ks.length - 1 - (ks.length - 1 - j) = j from by omega, List.getElem?_map, List.getElem?_take_of_lt (by omega)] at h1
  rw [List.getElem?_eq_getElem hj, List.getElem?_eq_getElem (by omega)] at h1
  rw [List.getD_eq_getElem?_getD, List.getElem?_eq_getElem hj, List.getD_eq_getElem?_getD, List.getElem?_eq_getElem (by omega)]
  exact Option.some.inj h1
theorem scanN_succ (e : List Nod) (n : Nat) : scanN e (n + 1) = match scanN e n with
    | none => none
    | some os => if formedL (nodAt e n) = true ∧ (nodAt e n).kids.length ≤ os.length ∧ (nodAt e n).kids.reverse = (os.take (nodAt e n).kids.length).map (fun x => (x.1 : Int))
        then some ((n, deepest (os.take (nodAt e n).kids.length) + 1) :: os.drop (nodAt e n).kids.length) else none := rfl
theorem scan_none {e : List Nod} {n : Nat} (h : scanN e n = none) : ∀ m, n ≤ m → scanN e m = none
  | 0, hm => by
    obtain rfl : n = 0 := by omega
    exact h
  | m + 1, hm => by
    by_cases hn : n = m + 1
    · rw [← hn]; exact h
    · rw [scanN_succ, scan_none h m (by omega)]
theorem validR_none {e : List Nod} {n : Nat} (hn : n ≤ e.length) (h : scanN e n = none) : validL e = false := by
  rw [valid_eq]
  unfold validR
  rw [scan_none h e.length hn]
  simp
theorem validR_some {e : List Nod} (h1 : 1 ≤ e.length) (h2 : e.length ≤ 300) {os : List (Nat × Nat)} (h : scanN e e.length = some os) : validL e = (decide (os.length = 1) && decide ((os.getD 0 (0, 0)).2 ≤ 40)) := by
  rw [valid_eq]
  unfold validR
  rw [h, decide_eq_true h1, decide_eq_true h2]
  match os with
  | [] => rfl
  | [x] => simp
  | _ :: _ :: _ => simp
end Go.Proofs.YtkomgidcgepknaaGreatDoor
