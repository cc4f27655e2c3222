/-
  The reference of chapter 22: the bounds of a node, whatever its operator.
-/
import Derived.Test.YtkomgidcgepknaaGreatDoorValP
import Derived.Test.YtkomgidcgepknaaGreatDoorBndP
import Derived.Test.YtkomgidcgepknaaGreatDoorBnds
import Derived.Test.YtkomgidcgepknaaGreatDoorExpG
set_option linter.unusedVariables false
set_option linter.unusedSimpArgs false
namespace Go.Proofs.YtkomgidcgepknaaGreatDoor

/-- The roots, oldest first. -/
def rootsL (os : List (Nat × Nat)) : List Int := os.reverse.map fun x => (x.1 : Int)
theorem rootsL_len (os : List (Nat × Nat)) : (rootsL os).length = os.length := by simp [rootsL]
theorem rootsL_get {os : List (Nat × Nat)} {n j : Nat} (hn : n ≤ os.length) (hj : j < n) : (rootsL os).getD (os.length - n + j) 0 = ((os.getD (n - 1 - j) (0, 0)).1 : Int) := by
  unfold rootsL
  rw [List.getD_eq_getElem?_getD, List.getElem?_map, List.getElem?_reverse (by omega), List.getD_eq_getElem?_getD]
  rw [show os.length - 1 - (os.length - n + j) = n - 1 - j from by omega, List.getElem?_eq_getElem (by omega)]
  rfl
theorem rootsL_drop (os : List (Nat × Nat)) (n : Nat) : (rootsL os).take (os.length - n) = rootsL (os.drop n) := by
  unfold rootsL
  rw [← List.map_take, List.take_reverse]
  by_cases h : n ≤ os.length
  · rw [show os.length - (os.length - n) = n from by omega]
  · rw [show os.length - (os.length - n) = os.length from by omega, List.drop_of_length_le (Nat.le_refl _), List.drop_of_length_le (by omega)]
theorem rootsL_cons (x : Nat × Nat) (os : List (Nat × Nat)) : rootsL (x :: os) = rootsL os ++ [(x.1 : Int)] := by
  unfold rootsL
  rw [List.reverse_cons, List.map_append]
  rfl
/-- The depths of the last j of the n roots on top. -/
def lastD (os : List (Nat × Nat)) (n j : Nat) : Nat := deepest ((os.take n).drop (n - j)) + 1
theorem lastD_zero (os : List (Nat × Nat)) (n : Nat) : lastD os n 0 = 1 := by
  unfold lastD
  rw [Nat.sub_zero, List.drop_of_length_le (by rw [List.length_take]; omega)]
  rfl
theorem lastD_next {os : List (Nat × Nat)} {n j : Nat} (hn : n ≤ os.length) (hj : j < n) : lastD os n (j + 1) = max (lastD os n j) ((os.getD (n - 1 - j) (0, 0)).2 + 1) := by
  unfold lastD
  have hl : n - (j + 1) < (os.take n).length := by rw [List.length_take]; omega
  rw [List.drop_eq_getElem_cons hl, show n - (j + 1) + 1 = n - j from by omega]
  show max ((os.take n)[n - (j + 1)]).2 _ + 1 = _
  have : (os.take n)[n - (j + 1)] = os.getD (n - 1 - j) (0, 0) := by
    rw [List.getElem_take, List.getD_eq_getElem?_getD]
    simp only [show n - (j + 1) = n - 1 - j from by omega]
    rw [List.getElem?_eq_getElem (by omega)]
    rfl
  rw [this]
  omega
theorem lastD_all (os : List (Nat × Nat)) (n : Nat) : lastD os n n = deepest (os.take n) + 1 := by
  unfold lastD
  rw [Nat.sub_self, List.drop_zero]
/-- Do the kids lie as the n roots on top? -/
theorem kids_match {ks : List Int} {os : List (Nat × Nat)} (hn : ks.length ≤ os.length) (h : ∀ j, j < ks.length → ks.getD j 0 = ((os.getD (ks.length - 1 - j) (0, 0)).1 : Int)) : ks.reverse = (os.take ks.length).map (fun x => (x.1 : Int)) := by
  refine List.ext_getElem (by simp [hn]) fun i h1 h2 => ?_
  rw [List.length_reverse] at h1
  rw [List.getElem_reverse, List.getElem_map, List.getElem_take]
  have := h (ks.length - 1 - i) (by omega)
  rw [show ks.length - 1 - (ks.length - 1 - i) = i from by omega, List.getD_eq_getElem?_getD, List.getElem?_eq_getElem (by omega), List.getD_eq_getElem?_getD, List.getElem?_eq_getElem (by omega)] at this
  exact this
theorem kids_differ {ks : List Int} {os : List (Nat × Nat)} {j : Nat} (hn : ks.length ≤ os.length) (hj : j < ks.length) (h : ks.getD j 0 ≠ ((os.getD (ks.length - 1 - j) (0, 0)).1 : Int)) : ks.reverse ≠ (os.take ks.length).map (fun x => (x.1 : Int)) := by
  intro he
  refine h ?_
  have h1 : ks.reverse[ks.length - 1 - j]? = ((os.take ks.length).map (fun x => (x.1 : Int)))[ks.length - 1 - j]? := by rw [he]
  rw [List.getElem?_reverse (by omega), show ks.length - 1 - (ks.length - 1 - j) = j from by omega, List.getElem?_map, List.getElem?_take_of_lt (by omega)] at h1
  rw [List.getElem?_eq_getElem hj, List.getElem?_eq_getElem (by omega)] at h1
  rw [List.getD_eq_getElem?_getD, List.getElem?_eq_getElem hj, List.getD_eq_getElem?_getD, List.getElem?_eq_getElem (by omega)]
  exact Option.some.inj h1
theorem scanN_succ (e : List Nod) (n : Nat) : scanN e (n + 1) = match scanN e n with
    | none => none
    | some os => if formedL (nodAt e n) = true ∧ (nodAt e n).kids.length ≤ os.length ∧ (nodAt e n).kids.reverse = (os.take (nodAt e n).kids.length).map (fun x => (x.1 : Int))
        then some ((n, deepest (os.take (nodAt e n).kids.length) + 1) :: os.drop (nodAt e n).kids.length) else none := rfl
theorem scan_none {e : List Nod} {n : Nat} (h : scanN e n = none) : ∀ m, n ≤ m → scanN e m = none
  | 0, hm => by
    obtain rfl : n = 0 := by omega
    exact h
  | m + 1, hm => by
    by_cases hn : n = m + 1
    · rw [← hn]; exact h
    · rw [scanN_succ, scan_none h m (by omega)]
theorem validR_none {e : List Nod} {n : Nat} (hn : n ≤ e.length) (h : scanN e n = none) : validL e = false := by
  rw [valid_eq]
  unfold validR
  rw [scan_none h e.length hn]
  simp
theorem validR_some {e : List Nod} (h1 : 1 ≤ e.length) (h2 : e.length ≤ 300) {os : List (Nat × Nat)} (h : scanN e e.length = some os) : validL e = (decide (os.length = 1) && decide ((os.getD 0 (0, 0)).2 ≤ 40)) := by
  rw [valid_eq]
  unfold validR
  rw [h, decide_eq_true h1, decide_eq_true h2]
  match os with
  | [] => rfl
  | [x] => simp
  | _ :: _ :: _ => simp
end Go.Proofs.YtkomgidcgepknaaGreatDoor

set_option linter.unusedVariables false
set_option linter.unusedSimpArgs false
namespace Go.Proofs.YtkomgidcgepknaaGreatDoor

def absL (a : Int) : Int := max a (0 - a)
def mulR (a b : Int) : Int := if absL a = 0 ∨ absL b ≤ MB.tdiv (absL a) then a * b else if decide (a < 0) ≠ decide (b < 0) then 0 - MB - 1 else MB + 1
def divR (a b : Int) : Int := if b = 0 then 0 else if a.tmod b ≠ 0 ∧ decide (a < 0) ≠ decide (b < 0) then a.tdiv b - 1 else a.tdiv b
/-- What the reference adds for a node. -/
def candR (op : Int) (x y z : Int × Int) : List Int :=
  if op = 3 then [x.1 + y.1, x.2 + y.2]
  else if op = 4 then [x.1 - y.2, x.2 - y.1]
  else if op = 12 then [0 - x.1, 0 - x.2]
  else if op = 5 then [mulR x.1 y.1, mulR x.2 y.1, mulR x.1 y.2, mulR x.2 y.2]
  else if op = 6 then
    (if y.1 ≤ 0 ∧ 0 ≤ y.2 then [0] ++ (if y.1 < 0 then [divR x.1 y.1, divR x.2 y.1, divR x.1 (0 - 1), divR x.2 (0 - 1)] else []) ++ (if 0 < y.2 then [divR x.1 1, divR x.2 1, divR x.1 y.2, divR x.2 y.2] else [])
     else [divR x.1 y.1, divR x.2 y.1, divR x.1 y.2, divR x.2 y.2])
  else if op = 7 then [min x.1 y.1, min x.2 y.2]
  else if op = 8 then [max x.1 y.1, max x.2 y.2]
  else if op = 9 then (if 0 < x.2 then [y.1, y.2] else []) ++ (if x.1 ≤ 0 then [z.1, z.2] else [])
  else if op = 10 then (if x.1 < y.2 then [1] else []) ++ (if y.1 ≤ x.2 then [0] else [])
  else if op = 11 then (if max x.1 y.1 ≤ min x.2 y.2 then [1] else []) ++ (if x.1 ≠ x.2 ∨ y.1 ≠ y.2 ∨ x.1 ≠ y.1 then [0] else [])
  else []
def nodeR (op : Int) (x y z : Int × Int) : Int × Int := hullL (candR op x y z)
theorem hull_eq {l m : List Int} (hl : l ≠ []) (hm : m ≠ []) (h1 : ∀ n ∈ l, n ∈ m) (h2 : ∀ n ∈ m, n ∈ l) : hullL l = hullL m := by
  obtain ⟨a1, a2⟩ := hull_mem hl
  obtain ⟨b1, b2⟩ := hull_mem hm
  have c1 := hull_in (h1 _ a1)
  have c2 := hull_in (h1 _ a2)
  have d1 := hull_in (h2 _ b1)
  have d2 := hull_in (h2 _ b2)
  apply Prod.ext <;> omega
theorem hull_two {a b : Int} (h : a ≤ b) : hullL [a, b] = (a, b) := by
  show (min a b, max a b) = (a, b)
  apply Prod.ext
  · show min a b = a; omega
  · show max a b = b; omega
theorem hull_two' {a b : Int} (h : b ≤ a) : hullL [a, b] = (b, a) := by
  show (min a b, max a b) = (b, a)
  apply Prod.ext
  · show min a b = b; omega
  · show max a b = a; omega
theorem div_R (a b : Int) : divR a b = overL a b := rfl
/-- A product that stays within the bounds is the same for both; otherwise both are beyond them. -/
theorem mul_R {a b : Int} (ha : beyondL a = false) (hb : beyondL b = false) :
    (mulR a b = timesL a b ∧ beyondL (a * b) = false) ∨ (MB < a * b ∧ mulR a b = MB + 1 ∧ MB < timesL a b) ∨ (a * b < -MB ∧ mulR a b = -MB - 1 ∧ timesL a b < -MB) := by
  have key : (absL a = 0 ∨ absL b ≤ MB.tdiv (absL a)) ↔ (-MB ≤ a * b ∧ a * b ≤ MB) := by
    have hA : 0 ≤ absL a := by unfold absL; omega
    have hB : 0 ≤ absL b := by unfold absL; omega
    have hab : absL a * absL b = max (a * b) (-(a * b)) := by
      have ca : absL a = a ∧ 0 ≤ a ∨ absL a = -a ∧ a ≤ 0 := by unfold absL; omega
      have cb : absL b = b ∧ 0 ≤ b ∨ absL b = -b ∧ b ≤ 0 := by unfold absL; omega
      rcases ca with ⟨e1, s1⟩ | ⟨e1, s1⟩ <;> rcases cb with ⟨e2, s2⟩ | ⟨e2, s2⟩ <;> rw [e1, e2]
      · have := Int.mul_nonneg s1 s2; omega
      · have := Int.mul_nonneg s1 (show 0 ≤ -b by omega); rw [Int.mul_neg] at this ⊢; omega
      · have := Int.mul_nonneg (show 0 ≤ -a by omega) s2; rw [Int.neg_mul] at this ⊢; omega
      · have := Int.mul_nonneg (show 0 ≤ -a by omega) (show 0 ≤ -b by omega); rw [Int.neg_mul_neg] at this ⊢; omega
    have hm : (-MB ≤ a * b ∧ a * b ≤ MB) ↔ absL a * absL b ≤ MB := by rw [hab]; omega
    rw [hm]
    by_cases h0 : absL a = 0
    · rw [h0, Int.zero_mul]
      exact ⟨fun _ => by unfold MB; omega, fun _ => .inl rfl⟩
    · have hpos : 0 < absL a := by omega
      rw [Int.tdiv_eq_ediv_of_nonneg (by unfold MB; omega), Int.le_ediv_iff_mul_le hpos, Int.mul_comm]
      exact ⟨fun h => h.resolve_left h0, .inr⟩
  unfold mulR
  by_cases hk : absL a = 0 ∨ absL b ≤ MB.tdiv (absL a)
  · rw [if_pos hk]
    have hr := key.1 hk
    exact .inl ⟨(times_of hr).symm, beyond_not.2 hr⟩
  · rw [if_neg hk]
    have hr : ¬ (-MB ≤ a * b ∧ a * b ≤ MB) := fun h => hk (key.2 h)
    right
    rcases Int.lt_trichotomy (a * b) 0 with hs | hs | hs
    · right
      have hd : decide (a < 0) ≠ decide (b < 0) := by
        intro e
        rw [decide_eq_decide] at e
        rcases Int.le_total 0 a with h1 | h1
        · have h2 : 0 ≤ b := by omega
          have := Int.mul_nonneg h1 h2
          omega
        · by_cases h3 : a = 0
          · subst h3; simp at hs
          · have h2 : b ≤ 0 := by omega
            have := Int.mul_nonneg_of_nonpos_of_nonpos h1 h2
            omega
      rw [if_pos hd]
      have h5 : a * b < -MB := by omega
      refine ⟨h5, by omega, ?_⟩
      unfold timesL
      have : MB = 1000000000000 := rfl
      split
      · omega
      · split <;> omega
    · exfalso; apply hr; rw [hs]; unfold MB; omega
    · left
      have hd : ¬ decide (a < 0) ≠ decide (b < 0) := by
        rw [Decidable.not_not, decide_eq_decide]
        constructor
        · intro h1
          rcases Int.lt_or_le b 0 with h2 | h2
          · exact h2
          · have := Int.mul_nonpos_of_nonpos_of_nonneg (show a ≤ 0 by omega) h2
            omega
        · intro h1
          rcases Int.lt_or_le a 0 with h2 | h2
          · exact h2
          · have := Int.mul_nonpos_of_nonneg_of_nonpos h2 (show b ≤ 0 by omega)
            omega
      rw [if_neg hd]
      have h5 : MB < a * b := by omega
      refine ⟨h5, rfl, ?_⟩
      unfold timesL
      have : MB = 1000000000000 := rfl
      split
      · omega
      · split <;> omega

/-- The reference's node and the program's: alike, or both beyond the bounds. -/
theorem node_R {op : Int} {x y z : Int × Int} (hx : x.1 ≤ x.2) (hy : y.1 ≤ y.2) (hz : z.1 ≤ z.2) (hop : 3 ≤ op ∧ op ≤ 12)
    (bx : beyondL x.1 = false ∧ beyondL x.2 = false) (hb : beyondL y.1 = false ∧ beyondL y.2 = false) :
    nodeR op x y z = nodeB op x y z ∨ ((beyondL (nodeR op x y z).1 || beyondL (nodeR op x y z).2) = true ∧ (beyondL (nodeB op x y z).1 || beyondL (nodeB op x y z).2) = true) := by
  unfold nodeR candR nodeB
  by_cases e3 : op = 3
  · simp only [if_pos e3]; left; exact hull_two (by omega)
  simp only [if_neg e3]
  by_cases e4 : op = 4
  · simp only [if_pos e4]; left; exact hull_two (by omega)
  simp only [if_neg e4]
  by_cases e12 : op = 12
  · subst e12
    simp only [Int.reduceEq, if_true, if_false]
    left
    rw [hull_two' (by omega), Int.zero_sub, Int.zero_sub]
  simp only [if_neg e12]
  by_cases e5 : op = 5
  · simp only [if_pos e5]
    have m11 := mul_R bx.1 hb.1
    have m12 := mul_R bx.1 hb.2
    have m21 := mul_R bx.2 hb.1
    have m22 := mul_R bx.2 hb.2
    by_cases hall : mulR x.1 y.1 = timesL x.1 y.1 ∧ mulR x.1 y.2 = timesL x.1 y.2 ∧ mulR x.2 y.1 = timesL x.2 y.1 ∧ mulR x.2 y.2 = timesL x.2 y.2
    · left
      rw [hall.1, hall.2.1, hall.2.2.1, hall.2.2.2]
      refine hull_eq (by simp) (by simp) ?_ ?_ <;> (intro n hn; simp only [List.mem_cons, List.not_mem_nil, or_false] at hn ⊢; omega)
    · right
      have some : ∃ a b, ((a, b) = (x.1, y.1) ∨ (a, b) = (x.1, y.2) ∨ (a, b) = (x.2, y.1) ∨ (a, b) = (x.2, y.2)) ∧ ((MB < mulR a b ∧ MB < timesL a b) ∨ (mulR a b < -MB ∧ timesL a b < -MB)) := by
        have wit : ∀ a b, ((mulR a b = timesL a b ∧ beyondL (a * b) = false) ∨ (MB < a * b ∧ mulR a b = MB + 1 ∧ MB < timesL a b) ∨ (a * b < -MB ∧ mulR a b = -MB - 1 ∧ timesL a b < -MB)) → mulR a b ≠ timesL a b → ((MB < mulR a b ∧ MB < timesL a b) ∨ (mulR a b < -MB ∧ timesL a b < -MB)) := by
          intro a b h hne
          rcases h with h | h | h
          · exact absurd h.1 hne
          · left; omega
          · right; omega
        by_cases h1 : mulR x.1 y.1 = timesL x.1 y.1
        · by_cases h2 : mulR x.1 y.2 = timesL x.1 y.2
          · by_cases h3 : mulR x.2 y.1 = timesL x.2 y.1
            · exact ⟨x.2, y.2, by simp, wit _ _ m22 (fun h4 => hall ⟨h1, h2, h3, h4⟩)⟩
            · exact ⟨x.2, y.1, by simp, wit _ _ m21 h3⟩
          · exact ⟨x.1, y.2, by simp, wit _ _ m12 h2⟩
        · exact ⟨x.1, y.1, by simp, wit _ _ m11 h1⟩
      obtain ⟨a, b, hab, hbig⟩ := some
      have i1 : mulR a b ∈ [mulR x.1 y.1, mulR x.2 y.1, mulR x.1 y.2, mulR x.2 y.2] := by
        rcases hab with h | h | h | h <;> (injection h with h1 h2; subst h1 h2; simp)
      have i2 : timesL a b ∈ [timesL x.1 y.1, timesL x.1 y.2, timesL x.2 y.1, timesL x.2 y.2] := by
        rcases hab with h | h | h | h <;> (injection h with h1 h2; subst h1 h2; simp)
      have j1 := hull_in i1
      have j2 := hull_in i2
      generalize hullL [mulR x.1 y.1, mulR x.2 y.1, mulR x.1 y.2, mulR x.2 y.2] = H1 at j1 ⊢
      generalize hullL [timesL x.1 y.1, timesL x.1 y.2, timesL x.2 y.1, timesL x.2 y.2] = H2 at j2 ⊢
      unfold beyondL
      simp only [Bool.or_eq_true, decide_eq_true_eq]
      omega
  simp only [if_neg e5]
  left
  by_cases e6 : op = 6
  · simp only [if_pos e6, div_R]
    unfold divBy
    by_cases hzr : y.1 ≤ 0 ∧ 0 ≤ y.2
    · rw [if_pos hzr, if_pos hzr]
      have o0 : ∀ a, overL a 0 = 0 := fun a => rfl
      have q1 : (0 : Int) - 1 = -1 := by decide
      rw [q1]
      by_cases h1 : y.1 < 0
      · have e1 : max (-1) y.1 = -1 := by omega
        rw [if_pos h1, e1]
        by_cases h2 : 0 < y.2
        · have e2 : min 1 y.2 = 1 := by omega
          rw [if_pos h2, e2]
          refine hull_eq (by simp) (by simp) ?_ ?_ <;> (intro n hn; simp only [List.flatMap_cons, List.flatMap_nil, List.cons_append, List.nil_append, List.append_nil, List.mem_cons, List.not_mem_nil, or_false, o0] at hn ⊢; omega)
        · have e2 : y.2 = 0 := by omega
          rw [if_neg h2, e2]
          refine hull_eq (by simp) (by simp) ?_ ?_ <;> (intro n hn; simp only [List.flatMap_cons, List.flatMap_nil, List.cons_append, List.nil_append, List.append_nil, List.mem_cons, List.not_mem_nil, or_false, o0, show min (1 : Int) 0 = 0 by decide] at hn ⊢; omega)
      · have e1 : y.1 = 0 := by omega
        rw [if_neg h1, e1]
        by_cases h2 : 0 < y.2
        · have e2 : min 1 y.2 = 1 := by omega
          rw [if_pos h2, e2]
          refine hull_eq (by simp) (by simp) ?_ ?_ <;> (intro n hn; simp only [List.flatMap_cons, List.flatMap_nil, List.cons_append, List.nil_append, List.append_nil, List.mem_cons, List.not_mem_nil, or_false, o0, show max (-1 : Int) 0 = 0 by decide] at hn ⊢; omega)
        · have e2 : y.2 = 0 := by omega
          rw [if_neg h2, e2]
          refine hull_eq (by simp) (by simp) ?_ ?_ <;> (intro n hn; simp only [List.flatMap_cons, List.flatMap_nil, List.cons_append, List.nil_append, List.append_nil, List.mem_cons, List.not_mem_nil, or_false, o0, show max (-1 : Int) 0 = 0 by decide, show min (1 : Int) 0 = 0 by decide] at hn ⊢; omega)
    · rw [if_neg hzr, if_neg hzr]
      rfl
  simp only [if_neg e6]
  by_cases e7 : op = 7
  · simp only [if_pos e7]; exact hull_two (by omega)
  simp only [if_neg e7]
  by_cases e8 : op = 8
  · simp only [if_pos e8]; exact hull_two (by omega)
  simp only [if_neg e8]
  by_cases e9 : op = 9
  · simp only [if_pos e9]
    by_cases g1 : 0 < x.1
    · rw [if_pos g1, if_pos (by omega), if_neg (by omega), List.append_nil]
      exact hull_two hy
    · rw [if_neg g1, if_pos (show x.1 ≤ 0 by omega)]
      by_cases g2 : x.2 ≤ 0
      · rw [if_pos g2, if_neg (by omega), List.nil_append]
        exact hull_two hz
      · rw [if_neg g2, if_pos (by omega)]
        rfl
  simp only [if_neg e9]
  by_cases e10 : op = 10
  · simp only [if_pos e10]
    unfold flagsL
    by_cases m : x.1 < y.2 <;> by_cases k : y.1 ≤ x.2 <;> simp [m, k] <;> rfl
  simp only [if_neg e10]
  have e11 : op = 11 := by omega
  simp only [if_pos e11]
  unfold flagsL
  by_cases m : max x.1 y.1 ≤ min x.2 y.2 <;> by_cases k : x.1 ≠ x.2 ∨ y.1 ≠ y.2 ∨ x.1 ≠ y.1
  all_goals
    have k' : (decide (x.1 ≠ x.2) || decide (y.1 ≠ y.2) || decide (x.1 ≠ y.1)) = decide (x.1 ≠ x.2 ∨ y.1 ≠ y.2 ∨ x.1 ≠ y.1) := by
      rw [Bool.eq_iff_iff]; simp only [Bool.or_eq_true, decide_eq_true_eq]; omega
    rw [k']
    simp only [m, k, if_true, if_false, decide_true, decide_false, List.append_nil, List.nil_append]
    rfl
end Go.Proofs.YtkomgidcgepknaaGreatDoor

set_option linter.unusedVariables false
set_option linter.unusedSimpArgs false
namespace Go.Proofs.YtkomgidcgepknaaGreatDoor

def ordS (s : Int × Int) : Prop := s.1 ≤ s.2
theorem cand_ne {op : Int} {x y z : Int × Int} (hx : ordS x) (hy : ordS y) (hop : 3 ≤ op ∧ op ≤ 12) : candR op x y z ≠ [] := by
  unfold ordS at hx hy
  have : op = 3 ∨ op = 4 ∨ op = 5 ∨ op = 6 ∨ op = 7 ∨ op = 8 ∨ op = 9 ∨ op = 10 ∨ op = 11 ∨ op = 12 := by omega
  unfold candR
  rcases this with rfl | rfl | rfl | rfl | rfl | rfl | rfl | rfl | rfl | rfl
  · simp
  · simp
  · simp
  · rw [if_neg (by decide), if_neg (by decide), if_neg (by decide), if_neg (by decide), if_pos rfl]
    split <;> simp
  · simp
  · simp
  · rw [if_neg (by decide), if_neg (by decide), if_neg (by decide), if_neg (by decide), if_neg (by decide), if_neg (by decide), if_neg (by decide), if_pos rfl]
    by_cases h : 0 < x.2
    · rw [if_pos h]; simp
    · rw [if_neg h, if_pos (by omega)]; simp
  · rw [if_neg (by decide), if_neg (by decide), if_neg (by decide), if_neg (by decide), if_neg (by decide), if_neg (by decide), if_neg (by decide), if_neg (by decide), if_pos rfl]
    by_cases h : x.1 < y.2
    · rw [if_pos h]; simp
    · rw [if_neg h, if_pos (by omega)]; simp
  · rw [if_neg (by decide), if_neg (by decide), if_neg (by decide), if_neg (by decide), if_neg (by decide), if_neg (by decide), if_neg (by decide), if_neg (by decide), if_neg (by decide), if_pos rfl]
    by_cases h : max x.1 y.1 ≤ min x.2 y.2
    · rw [if_pos h]; simp
    · rw [if_neg h, if_pos (by omega)]; simp
  · simp
theorem hull_ord {l : List Int} (h : l ≠ []) : ordS (hullL l) := by
  have := hull_in (hull_mem h).1
  exact this.2
theorem nodeR_ord {op : Int} {x y z : Int × Int} (hx : ordS x) (hy : ordS y) (hop : 3 ≤ op ∧ op ≤ 12) : ordS (nodeR op x y z) := hull_ord (cand_ne hx hy hop)
/-- The reference's step at an operator. -/
theorem step_R {l : List Rng} {all : List (Int × Int)} {x : Nod} (ho : ∀ j, ordS (spanAt all j)) (hb : ∀ j, inS (spanAt all j)) (hop : 3 ≤ x.op ∧ x.op ≤ 12) :
    stepB l all x = if (decide ((nodeR x.op (spanAt all (kidAt x 0)) (spanAt all (kidAt x 1)) (spanAt all (kidAt x 2))).1 < -1000000000000) || decide (1000000000000 < (nodeR x.op (spanAt all (kidAt x 0)) (spanAt all (kidAt x 1)) (spanAt all (kidAt x 2))).2)) = true then .error 9
      else .ok (nodeR x.op (spanAt all (kidAt x 0)) (spanAt all (kidAt x 1)) (spanAt all (kidAt x 2))) := by
  have h0 := ho (kidAt x 0)
  have h1 := ho (kidAt x 1)
  have h2 := ho (kidAt x 2)
  have b0 := hb (kidAt x 0)
  have b1 := hb (kidAt x 1)
  have hn := node_R (op := x.op) h0 h1 h2 hop ⟨inB_beyond.2 b0.1, inB_beyond.2 b0.2⟩ ⟨inB_beyond.2 b1.1, inB_beyond.2 b1.2⟩
  have hr : ordS (nodeR x.op (spanAt all (kidAt x 0)) (spanAt all (kidAt x 1)) (spanAt all (kidAt x 2))) := nodeR_ord h0 h1 hop
  unfold stepB
  rw [if_neg (by omega), if_neg (by omega)]
  generalize nodeR x.op (spanAt all (kidAt x 0)) (spanAt all (kidAt x 1)) (spanAt all (kidAt x 2)) = r at hn hr ⊢
  generalize nodeB x.op (spanAt all (kidAt x 0)) (spanAt all (kidAt x 1)) (spanAt all (kidAt x 2)) = s at hn ⊢
  have hiff : (beyondL r.1 || beyondL r.2) = (decide (r.1 < -1000000000000) || decide (1000000000000 < r.2)) := by
    unfold ordS at hr
    unfold beyondL MB
    rw [Bool.eq_iff_iff]
    simp only [Bool.or_eq_true, decide_eq_true_eq]
    omega
  rw [← hiff]
  rcases hn with rfl | ⟨h3, h4⟩
  · rfl
  · rw [if_pos h3, if_pos h4]
theorem look_ord {l : List Rng} (hl : validRs l = true) {t : ByteArray} {s : Int × Int} (h : look l t = some s) : ordS s := by
  induction l with
  | nil => cases h
  | cons r l ih =>
    unfold validRs at hl
    simp only [Bool.and_eq_true] at hl
    obtain ⟨⟨h1, h2⟩, _⟩ := hl
    unfold look at h
    rw [List.find?_cons] at h
    cases hd : decide (r.name = t)
    · rw [hd] at h
      exact ih h1 h
    · rw [hd] at h
      injection h with h
      subst h
      unfold okR at h2
      simp only [Bool.and_eq_true, decide_eq_true_eq] at h2
      exact h2.2
theorem step_ord {l : List Rng} (hl : validRs l = true) {all : List (Int × Int)} {x : Nod} (hx : nodeOk x) (ho : ∀ j, ordS (spanAt all j)) (hb : ∀ j, inS (spanAt all j)) {s : Int × Int} (h : stepB l all x = .ok s) : ordS s := by
  by_cases h1 : x.op = 1
  · unfold stepB at h
    rw [if_pos h1] at h
    injection h with h
    subst h
    exact Int.le_refl _
  · by_cases h2 : x.op = 2
    · unfold stepB at h
      rw [if_neg h1, if_pos h2] at h
      cases hk : look l x.name with
      | none => rw [hk] at h; cases h
      | some u =>
        rw [hk] at h
        injection h with h
        subst h
        exact look_ord hl hk
    · have hop : 3 ≤ x.op ∧ x.op ≤ 12 := by have := hx.1; have := hx.2.1; omega
      rw [step_R ho hb hop] at h
      split at h
      · cases h
      · injection h with h
        subst h
        exact nodeR_ord (ho _) (ho _) hop
theorem spans_snoc {all : List (Int × Int)} (h : ∀ s ∈ all, ordS s ∧ inS s) : (∀ j, ordS (spanAt all j)) ∧ ∀ j, inS (spanAt all j) := by
  refine ⟨fun j => ?_, fun j => span_in (fun s hs => (h s hs).2) j⟩
  unfold spanAt
  by_cases hj : j.toNat < all.length
  · rw [List.getD_eq_getElem?_getD, List.getElem?_eq_getElem hj]
    exact (h _ (List.getElem_mem hj)).1
  · rw [List.getD_eq_getElem?_getD, List.getElem?_eq_none (by omega)]
    exact Int.le_refl _
theorem go_ord {l : List Rng} (hl : validRs l = true) : ∀ (e : List Nod) (all all' : List (Int × Int)), (∀ s ∈ all, ordS s ∧ inS s) → (∀ x ∈ e, nodeOk x) → goB l all e = .ok all' → ∀ s ∈ all', ordS s ∧ inS s
  | [], all, all', h, _, hg => by
    injection hg with hg
    subst hg
    exact h
  | x :: e, all, all', h, hx, hg => by
    have hg' : (match stepB l all x with | Except.error r => Except.error r | Except.ok s => goB l (all ++ [s]) e) = .ok all' := hg
    cases hs : stepB l all x with
    | error r => rw [hs] at hg'; cases hg'
    | ok s =>
      rw [hs] at hg'
      have hsp := spans_snoc h
      refine go_ord hl e _ _ (fun y hy => ?_) (fun y hy => hx y (by simp [hy])) hg'
      rcases List.mem_append.1 hy with hy | hy
      · exact h y hy
      · rw [List.mem_singleton.1 hy]
        exact ⟨step_ord hl (hx x (by simp)) hsp.1 hsp.2 hs, step_in hl (hx x (by simp)) hs⟩
/-- The last of the ranges with the name, of the first j. -/
def lookJ (l : List Rng) (t : ByteArray) : Nat → Option (Int × Int)
  | 0 => none
  | j + 1 => if (l.getD j ⟨ByteArray.empty, 0, 0⟩).name = t then some ((l.getD j ⟨ByteArray.empty, 0, 0⟩).low, (l.getD j ⟨ByteArray.empty, 0, 0⟩).high) else lookJ l t j
theorem lookJ_none {l : List Rng} {t : ByteArray} : ∀ n, (∀ i, i < n → (l.getD i ⟨ByteArray.empty, 0, 0⟩).name ≠ t) → lookJ l t n = none
  | 0, _ => rfl
  | n + 1, h => by
    unfold lookJ
    rw [if_neg (h n (by omega))]
    exact lookJ_none n fun i hi => h i (by omega)
theorem lookJ_hit {l : List Rng} {t : ByteArray} {j : Nat} : ∀ n : Nat, j < n → (l.getD j ⟨ByteArray.empty, 0, 0⟩).name = t → (∀ i, j < i → i < n → (l.getD i ⟨ByteArray.empty, 0, 0⟩).name ≠ t) → lookJ l t n = some ((l.getD j ⟨ByteArray.empty, 0, 0⟩).low, (l.getD j ⟨ByteArray.empty, 0, 0⟩).high)
  | 0, h, _, _ => absurd h (by omega)
  | n + 1, h, hn, hr => by
    unfold lookJ
    by_cases hj : j = n
    · subst hj
      rw [if_pos hn]
    · rw [if_neg (hr n (by omega) (by omega))]
      exact lookJ_hit n (by omega) hn fun i h1 h2 => hr i h1 (by omega)
theorem lookJ_cons (r : Rng) (l : List Rng) (t : ByteArray) : ∀ n, n ≤ l.length → lookJ (r :: l) t (n + 1) = match lookJ l t n with | some s => some s | none => if r.name = t then some (r.low, r.high) else none
  | 0, _ => by
    show (if _ = t then _ else none) = _
    rfl
  | n + 1, h => by
    have ih := lookJ_cons r l t n (by omega)
    show (if ((r :: l).getD (n + 1) _).name = t then _ else lookJ (r :: l) t (n + 1)) = _
    rw [ih]
    show (if (l.getD n ⟨ByteArray.empty, 0, 0⟩).name = t then some ((l.getD n ⟨ByteArray.empty, 0, 0⟩).low, (l.getD n ⟨ByteArray.empty, 0, 0⟩).high) else _) = (match (if (l.getD n ⟨ByteArray.empty, 0, 0⟩).name = t then some ((l.getD n ⟨ByteArray.empty, 0, 0⟩).low, (l.getD n ⟨ByteArray.empty, 0, 0⟩).high) else lookJ l t n) with | some s => some s | none => if r.name = t then some (r.low, r.high) else none)
    by_cases hn : (l.getD n ⟨ByteArray.empty, 0, 0⟩).name = t
    · rw [if_pos hn, if_pos hn]
    · rw [if_neg hn, if_neg hn]
theorem lookJ_eq : ∀ {l : List Rng}, validRs l = true → ∀ t, lookJ l t l.length = look l t
  | [], _, t => rfl
  | r :: l, hv, t => by
    unfold validRs at hv
    simp only [Bool.and_eq_true] at hv
    rw [List.length_cons, lookJ_cons r l t l.length (Nat.le_refl _), lookJ_eq hv.1.1 t]
    unfold look
    rw [List.find?_cons]
    by_cases hr : r.name = t
    · rw [decide_eq_true hr]
      have : l.find? (fun r => decide (r.name = t)) = none := List.find?_eq_none.2 fun x hx => by
        have := of_decide_eq_true (List.all_eq_true.1 hv.2 x hx)
        rw [hr] at this
        simpa using this
      rw [this]
      simp [hr]
    · rw [decide_eq_false hr]
      dsimp only
      cases l.find? (fun r => decide (r.name = t)) with
      | none => simp [hr]
      | some x => rfl
end Go.Proofs.YtkomgidcgepknaaGreatDoor

set_option linter.unusedVariables false
set_option linter.unusedSimpArgs false
namespace Go.Proofs.YtkomgidcgepknaaGreatDoor
open Go.RowKit Go.Deep

/-- A range of integers that grows. -/
structure Grow where
  lo : Int
  hi : Int
  some : Bool
def Grow.none_ : Grow := ⟨0, 0, false⟩
def Grow.add (s : Grow) (n : Int) : Grow := ⟨if s.some = false ∨ n < s.lo then n else s.lo, if s.some = false ∨ s.hi < n then n else s.hi, true⟩
def Grow.cells (s : Grow) : Array Value := #[.int .i64 s.lo, .int .i64 s.hi, .bool s.some]
def growL (l : List Int) : Grow := l.foldl Grow.add Grow.none_
theorem grow_fold : ∀ (l : List Int) (a b : Int), a ≤ b → l.foldl Grow.add ⟨a, b, true⟩ = ⟨(l.foldl (fun h n => (min h.1 n, max h.2 n)) (a, b)).1, (l.foldl (fun h n => (min h.1 n, max h.2 n)) (a, b)).2, true⟩
  | [], a, b, _ => rfl
  | x :: l, a, b, h => by
    show l.foldl Grow.add (Grow.add ⟨a, b, true⟩ x) = _
    have e : Grow.add ⟨a, b, true⟩ x = ⟨min a x, max b x, true⟩ := by
      unfold Grow.add
      dsimp only
      congr 1
      · by_cases h1 : x < a
        · rw [if_pos (.inr h1)]; omega
        · rw [if_neg (by simp [h1])]; omega
      · by_cases h1 : b < x
        · rw [if_pos (.inr h1)]; omega
        · rw [if_neg (by simp [h1])]; omega
    rw [e, grow_fold l _ _ (by omega)]
    rfl
theorem grow_hull {l : List Int} (h : l ≠ []) : growL l = ⟨(hullL l).1, (hullL l).2, true⟩ := by
  match l, h with
  | x :: l, _ =>
    show l.foldl Grow.add (Grow.add Grow.none_ x) = _
    have e : Grow.add Grow.none_ x = ⟨x, x, true⟩ := by
      unfold Grow.add Grow.none_
      simp
    rw [e, grow_fold l x x (Int.le_refl _)]
    rfl

theorem ite_eq_or {b : Bool} {p : Prop} [Decidable p] (x y : Int) : (if b = false ∨ p then x else y) = (if (!b || decide p) = true then x else y) := by
  cases b <;> simp

set_option maxHeartbeats 2000000 in
set_option maxRecDepth 20000 in
theorem refAdd_any (s : Grow) (n : Int) (g : Nat) (w : World) (h : Blk w g 154 s.cells) :
    Calls Tryz.prog 148 #[.pointer (some ⟨g, 0, none⟩), .int .i64 n] w fun e w' => e = .returned (.tuple #[]) ∧ Blk w' g 154 (s.add n).cells ∧ KeptBut g w w' := by
  obtain ⟨lo, hi, b⟩ := s
  unfold Grow.cells at h
  dsimp only at h
  have c0 : w.cell? ⟨g, 0, none⟩ = some (.int .i64 lo) := h.cell 0
  have c1 : w.cell? ⟨g, 1, none⟩ = some (.int .i64 hi) := h.cell 1
  have c2 : w.cell? ⟨g, 2, none⟩ = some (.bool b) := h.cell 2
  have f0 := h.frozen 0
  have f1 := h.frozen 1
  have f2 := h.frozen 2
  have HB := hide h
  have HS : Hid (Grow.add ⟨lo, hi, b⟩ n = ⟨if (!b || decide (n < lo)) = true then n else lo, if (!b || decide (hi < n)) = true then n else hi, true⟩) := by
    show _ = _
    unfold Grow.add
    dsimp only
    rw [ite_eq_or, ite_eq_or]
  clear h
  cases b
  · have R := hide (((HB.out.set_ 0 (.int .i64 n)).set_ 1 (.int .i64 n)).set_ 2 (.bool true))
    have K := hide ((((KeptBut.refl g w).set 0 (.int .i64 n)).set 1 (.int .i64 n)).set 2 (.bool true))
    go_enter Tryz.func148, Tryz.ntmps148
    go_wp2
    go_end0
    exact ⟨rfl, by rw [HS.out]; exact R.out, K.out⟩
  · cases d1 : decide (n < lo)
    · cases d2 : decide (hi < n)
      · rw [d1, d2] at HS
        have R := hide (HB.out.set_ 2 (.bool true))
        have K := hide ((KeptBut.refl g w).set 2 (.bool true))
        go_enter Tryz.func148, Tryz.ntmps148
        go_wp2
        go_end0
        exact ⟨rfl, by rw [HS.out]; exact R.out, K.out⟩
      · rw [d1, d2] at HS
        have R := hide ((HB.out.set_ 1 (.int .i64 n)).set_ 2 (.bool true))
        have K := hide (((KeptBut.refl g w).set 1 (.int .i64 n)).set 2 (.bool true))
        go_enter Tryz.func148, Tryz.ntmps148
        go_wp2
        go_end0
        exact ⟨rfl, by rw [HS.out]; exact R.out, K.out⟩
    · cases d2 : decide (hi < n)
      · rw [d1, d2] at HS
        have R := hide ((HB.out.set_ 0 (.int .i64 n)).set_ 2 (.bool true))
        have K := hide (((KeptBut.refl g w).set 0 (.int .i64 n)).set 2 (.bool true))
        go_enter Tryz.func148, Tryz.ntmps148
        go_wp2
        go_end0
        exact ⟨rfl, by rw [HS.out]; exact R.out, K.out⟩
      · rw [d1, d2] at HS
        have R := hide (((HB.out.set_ 0 (.int .i64 n)).set_ 1 (.int .i64 n)).set_ 2 (.bool true))
        have K := hide ((((KeptBut.refl g w).set 0 (.int .i64 n)).set 1 (.int .i64 n)).set 2 (.bool true))
        go_enter Tryz.func148, Tryz.ntmps148
        go_wp2
        go_end0
        exact ⟨rfl, by rw [HS.out]; exact R.out, K.out⟩

set_option maxHeartbeats 2000000 in
theorem refDiv_any (a b : Int) (w : World) (ha : -1000000000000 ≤ a ∧ a ≤ 1000000000000) : Calls Tryz.prog 142 #[.int .i64 a, .int .i64 b] w fun e w' => e = .returned (.int .i64 (divR a b)) ∧ w = w' := by
  have hd := tdiv_bd a b ha
  obtain ⟨ha1, ha2⟩ := ha
  by_cases hb : b = 0
  · subst hb
    go_enter Tryz.func142, Tryz.ntmps142
    go_wp2
    go_ret
    exact ⟨rfl, rfl⟩
  · have hb' : (b == 0) = false := beq_eq_false_iff_ne.2 hb
    have HO : Hid (divR a b = if a.tmod b ≠ 0 ∧ (decide (a < 0) ≠ decide (b < 0)) then a.tdiv b - 1 else a.tdiv b) := by
      show _ = _
      unfold divR
      rw [if_neg hb]
    by_cases hm : a.tmod b = 0
    · have hm' : (a.tmod b != 0) = false := bne_eq_false_iff_eq.2 hm
      rw [if_neg (fun h => h.1 hm)] at HO
      clear hm
      go_enter Tryz.func142, Tryz.ntmps142
      go_wp2
      go_ret
      exact ⟨by rw [HO.out]; rfl, rfl⟩
    · have hm' : (a.tmod b != 0) = true := bne_iff_ne.2 hm
      by_cases hs : decide (a < 0) = decide (b < 0)
      · rw [if_neg (fun h => h.2 hs)] at HO
        have hs' : (decide (a < 0) == decide (b < 0)) = true := beq_iff_eq.2 hs
        clear hm hs
        go_enter Tryz.func142, Tryz.ntmps142
        go_wp2
        go_ret
        exact ⟨by rw [HO.out]; rfl, rfl⟩
      · rw [if_pos ⟨hm, hs⟩] at HO
        have hs' : (decide (a < 0) == decide (b < 0)) = false := beq_eq_false_iff_ne.2 hs
        clear hm hs
        go_enter Tryz.func142, Tryz.ntmps142
        go_wp2
        go_ret
        exact ⟨by rw [HO.out]; rfl, rfl⟩
theorem prod_fitR {a b : Int} (h : ¬ (0 < max a (-a) ∧ 1000000000000 / (max a (-a)) < max b (-b))) : -1000000000000 ≤ a * b ∧ a * b ≤ 1000000000000 := by
  by_cases h0 : 0 < max a (-a)
  · have h1 : max b (-b) ≤ 1000000000000 / (max a (-a)) := by
      have : ¬ (1000000000000 / (max a (-a)) < max b (-b)) := fun x => h ⟨h0, x⟩
      omega
    have h2 : max b (-b) * max a (-a) ≤ 1000000000000 := (Int.le_ediv_iff_mul_le h0).1 h1
    rcases Int.le_total 0 a with ha | ha <;> rcases Int.le_total 0 b with hb | hb
    · rw [Int.max_eq_left (by omega), Int.max_eq_left (by omega)] at h2
      have := Int.mul_nonneg ha hb
      rw [Int.mul_comm] at h2
      omega
    · rw [Int.max_eq_right (by omega), Int.max_eq_left (by omega), Int.neg_mul, Int.mul_comm] at h2
      have := Int.mul_nonneg ha (show 0 ≤ -b by omega)
      rw [Int.mul_neg] at this
      omega
    · rw [Int.max_eq_left (by omega), Int.max_eq_right (by omega), Int.mul_neg, Int.mul_comm] at h2
      have := Int.mul_nonneg (show 0 ≤ -a by omega) hb
      rw [Int.neg_mul] at this
      omega
    · rw [Int.max_eq_right (by omega), Int.max_eq_right (by omega), Int.neg_mul_neg, Int.mul_comm] at h2
      have := Int.mul_nonneg (show 0 ≤ -a by omega) (show 0 ≤ -b by omega)
      rw [Int.neg_mul_neg] at this
      omega
  · have : a = 0 := by omega
    subst this
    rw [Int.zero_mul]
    decide

set_option maxHeartbeats 2000000 in
theorem refMul_any (a b : Int) (w : World) (ha : -1000000000000 ≤ a ∧ a ≤ 1000000000000) (hb : -1000000000000 ≤ b ∧ b ≤ 1000000000000) : Calls Tryz.prog 141 #[.int .i64 a, .int .i64 b] w fun e w' => e = .returned (.int .i64 (mulR a b)) ∧ w = w' := by
  have HO : Hid (mulR a b = if absL a = 0 ∨ absL b ≤ (1000000000000 : Int).tdiv (absL a) then a * b else if decide (a < 0) ≠ decide (b < 0) then -1000000000001 else 1000000000001) := rfl
  have hA : absL a = max a (-a) := by unfold absL; omega
  have hB : absL b = max b (-b) := by unfold absL; omega
  have hA2 : absL a ≤ 1000000000000 ∧ 0 ≤ absL a := by unfold absL; omega
  have hB2 : absL b ≤ 1000000000000 ∧ 0 ≤ absL b := by unfold absL; omega
  have hA' : max a (-a) = absL a := hA.symm
  have hB' : max b (-b) = absL b := hB.symm
  have hfit : (absL a = 0 ∨ absL b ≤ (1000000000000 : Int).tdiv (absL a)) → -1000000000000 ≤ a * b ∧ a * b ≤ 1000000000000 := by
    intro h
    rcases h with h | h
    · have : a = 0 := by unfold absL at h; omega
      subst this
      simp
    · by_cases h0 : absL a = 0
      · have : a = 0 := by unfold absL at h0; omega
        subst this
        simp
      · refine prod_fitR (fun hh => ?_)
        rw [← hA, ← hB] at hh
        rw [Int.tdiv_eq_ediv_of_nonneg (by omega)] at h
        omega
  have htd : (1000000000000 : Int).tdiv (absL a) = 1000000000000 / absL a := Int.tdiv_eq_ediv_of_nonneg (by omega)
  rw [htd] at HO hfit
  have HFIT := hide hfit
  clear hfit hA hB htd
  by_cases h0 : absL a = 0
  · have h0' : (absL a == 0) = true := beq_iff_eq.2 h0
    rw [if_pos (.inl h0)] at HO
    have hf := HFIT.out (.inl h0)
    have hw : wrap64 (a * b) = a * b := W_in (by omega)
    clear h0
    go_enter Tryz.func141, Tryz.ntmps141
    go_wp2
    go_ret
    exact ⟨by rw [HO.out]; rfl, rfl⟩
  · have h0' : (absL a == 0) = false := beq_eq_false_iff_ne.2 h0
    by_cases h1 : absL b ≤ 1000000000000 / absL a
    · have h1' : decide (absL b ≤ 1000000000000 / absL a) = true := decide_eq_true h1
      rw [if_pos (.inr h1)] at HO
      have hf := HFIT.out (.inr h1)
      have hw : wrap64 (a * b) = a * b := W_in (by omega)
      clear h1
      go_enter Tryz.func141, Tryz.ntmps141
      go_wp2
      go_ret
      exact ⟨by rw [HO.out]; rfl, rfl⟩
    · have h1' : decide (absL b ≤ 1000000000000 / absL a) = false := decide_eq_false h1
      rw [if_neg (fun h => h.elim h0 h1)] at HO
      clear h1
      by_cases hs : decide (a < 0) = decide (b < 0)
      · rw [if_neg (fun h => h hs)] at HO
        have hs' : (decide (a < 0) == decide (b < 0)) = true := beq_iff_eq.2 hs
        clear hs
        go_enter Tryz.func141, Tryz.ntmps141
        go_wp2
        go_ret
        exact ⟨by rw [HO.out]; rfl, rfl⟩
      · rw [if_pos hs] at HO
        have hs' : (decide (a < 0) == decide (b < 0)) = false := beq_eq_false_iff_ne.2 hs
        clear hs
        go_enter Tryz.func141, Tryz.ntmps141
        go_wp2
        go_ret
        exact ⟨by rw [HO.out]; rfl, rfl⟩
end Go.Proofs.YtkomgidcgepknaaGreatDoor

/-
  The reference of chapter 22: the bounds of a node.
-/
set_option linter.unusedVariables false
set_option linter.unusedSimpArgs false
namespace Go.Proofs.YtkomgidcgepknaaGreatDoor
open Go.RowKit Go.Deep

set_option maxHeartbeats 2000000 in
set_option maxRecDepth 20000 in
theorem refDivide_any (s : Grow) (x1 x2 y : Int) (g : Nat) (w : World) (h : Blk w g 154 s.cells) (h1 : inB x1) (h2 : inB x2) :
    Calls Tryz.prog 149 #[.pointer (some ⟨g, 0, none⟩), .agg #[.int .i64 x1, .int .i64 x2], .int .i64 y] w fun e w' => e = .returned (.tuple #[]) ∧ Blk w' g 154 ((s.add (divR x1 y)).add (divR x2 y)).cells ∧ KeptBut g w w' := by
  have hg := h.lt
  have hB1 : Blk (w.alloc (Obj.cells #[.int .i64 x1, .int .i64 x2] 81)) w.heap.size 81 #[.int .i64 x1, .int .i64 x2] := Blk.new _ _ _
  have hk1 : KeptBut g w (w.alloc (Obj.cells #[.int .i64 x1, .int .i64 x2] 81)) := KeptBut.of_below ((Below.refl _ _).alloc (Nat.le_refl _) _)
  have hG := hide (h.alloc (Obj.cells #[.int .i64 x1, .int .i64 x2] 81))
  clear h
  go_enter Tryz.func149, Tryz.ntmps149
  go_upto_region 1 with (fail)
  generalize w.alloc (Obj.cells #[.int .i64 x1, .int .i64 x2] 81) = w1 at hB1 hk1 hG ⊢
  have c0 : w1.cell? ⟨w.heap.size, 0, none⟩ = some (.int .i64 x1) := hB1.cell 0
  have HB1 := hide hB1
  have HK1 := hide hk1
  clear hB1 hk1
  go_wp2_with fail
  refine (refDiv_any x1 y w1 h1).mono ?_
  rintro en w2 ⟨rfl, rfl⟩
  go_wp2_with fail
  refine (refAdd_any s (divR x1 y) g w1 hG.out).mono ?_
  rintro en w2 ⟨rfl, hb2, hk2⟩
  have HB2 := hide (hk2.blk HB1.out (by omega))
  have HG2 := hide hb2
  have HK2 := hide (HK1.out.trans hk2)
  have c1 : w2.cell? ⟨w.heap.size, 1, none⟩ = some (.int .i64 x2) := HB2.out.cell 1
  clear hb2 hk2 c0
  go_wp2_with fail
  refine (refDiv_any x2 y w2 h2).mono ?_
  rintro en w3 ⟨rfl, rfl⟩
  go_wp2_with fail
  refine (refAdd_any (s.add (divR x1 y)) (divR x2 y) g w2 HG2.out).mono ?_
  rintro en w3 ⟨rfl, hb3, hk3⟩
  have HG3 := hide hb3
  have HK3 := hide (HK2.out.trans hk3)
  clear hb3 hk3
  go_wp2
  go_end0
  exact ⟨rfl, HG3.out, HK3.out⟩

/-- What a range that grew reads as. -/
def growV (s : Grow) : Value := .agg s.cells

/-- The state of the reference's node: the range so far, and the result's cells. -/
structure NodeSt (w : World) (s : Grow) (w' : World) : Prop where
  own : Blk w' (w.heap.size + 1) 154 s.cells
  res : Blk w' w.heap.size 154 Grow.none_.cells
  bel : Below w.heap.size w w'
theorem NodeSt.step {w w1 w2 : World} {s s' : Grow} (h : NodeSt w s w1) (hb : Blk w2 (w.heap.size + 1) 154 s'.cells) (hk : KeptBut (w.heap.size + 1) w1 w2) : NodeSt w s' w2 :=
  ⟨hb, hk.blk h.res (by omega), h.bel.trans (hk.below (B := w.heap.size) (by omega) h.bel.size)⟩
theorem NodeSt.drewN {w w1 : World} {s : Grow} (h : NodeSt w s w1) (n : Nat) : NodeSt w s (w1.drewN n) := ⟨h.own, h.res, below_drewN h.bel n⟩
theorem NodeSt.drew {w w1 : World} {s : Grow} (h : NodeSt w s w1) : NodeSt w s w1.drew := ⟨h.own, h.res, h.bel.drew⟩
theorem NodeSt.more {w w1 w2 : World} {s : Grow} (h : NodeSt w s w1) (hb : Below w1.heap.size w1 w2) : NodeSt w s w2 := ⟨h.own.below hb h.own.lt, h.res.below hb h.res.lt, h.bel.trans (hb.mono h.bel.size)⟩
theorem NodeSt.start (w : World) : NodeSt w Grow.none_ ((w.alloc (Obj.cells #[.int .i64 0, .int .i64 0, .bool false] 154)).alloc (Obj.cells #[.int .i64 0, .int .i64 0, .bool false] 154)) := by
  refine ⟨?_, ?_, ?_⟩
  · have := Blk.new (w.alloc (Obj.cells #[.int .i64 0, .int .i64 0, .bool false] 154)) 154 #[.int .i64 0, .int .i64 0, .bool false]
    rw [World.size_alloc] at this
    exact this
  · exact (Blk.new w 154 #[.int .i64 0, .int .i64 0, .bool false]).alloc _
  · exact ((Below.refl _ _).alloc (Nat.le_refl _) _).alloc (by rw [World.size_alloc]; omega) _
theorem NodeSt.put {w w1 : World} {a b : Int} {c : Bool} (h : NodeSt w ⟨a, b, c⟩ w1) :
    Blk (((w1.setCell ⟨w.heap.size, 0, none⟩ (.int .i64 a)).setCell ⟨w.heap.size, 1, none⟩ (.int .i64 b)).setCell ⟨w.heap.size, 2, none⟩ (.bool c)) w.heap.size 154 #[.int .i64 a, .int .i64 b, .bool c] ∧
    Below w.heap.size w (((w1.setCell ⟨w.heap.size, 0, none⟩ (.int .i64 a)).setCell ⟨w.heap.size, 1, none⟩ (.int .i64 b)).setCell ⟨w.heap.size, 2, none⟩ (.bool c)) :=
  ⟨((h.res.set_ 0 (.int .i64 a)).set_ 1 (.int .i64 b)).set_ 2 (.bool c), ((h.bel.setCell (p := ⟨w.heap.size, 0, none⟩) (Nat.le_refl _) _).setCell (p := ⟨w.heap.size, 1, none⟩) (Nat.le_refl _) _).setCell (p := ⟨w.heap.size, 2, none⟩) (Nat.le_refl _) _⟩
theorem refMul_still (a b : Int) (w : World) (ha : -1000000000000 ≤ a ∧ a ≤ 1000000000000) (hb : -1000000000000 ≤ b ∧ b ≤ 1000000000000) :
    Calls Tryz.prog 141 #[.int .i64 a, .int .i64 b] w fun e w' => e = .returned (.int .i64 (mulR a b)) ∧ w' = w := (refMul_any a b w ha hb).mono fun _ _ h => ⟨h.1, h.2.symm⟩
end Go.Proofs.YtkomgidcgepknaaGreatDoor

set_option linter.unusedVariables false
set_option linter.unusedSimpArgs false
namespace Go.Proofs.YtkomgidcgepknaaGreatDoor
open Go.RowKit Go.Deep

set_option maxHeartbeats 4000000 in
set_option maxRecDepth 20000 in
theorem refNode3 (A : Option Addr) (n c : Nat) (x y : Int × Int) (w : World) (h : RSp w w.heap.size A n [x, y]) (hx : inS x) (hy : inS y) :
    Calls Tryz.prog 106 #[.int .i64 3, .slice A n c] w fun e w' => e = .returned (growV (growL [x.1 + y.1, x.2 + y.2])) ∧ Below w.heap.size w w' := by
  obtain rfl : 2 = n := h.len
  obtain ⟨b, off, rfl, hb, a0, a1, a2, _, a3⟩ := h.two
  obtain ⟨x1, x2⟩ := x
  obtain ⟨y1, y2⟩ := y
  obtain ⟨⟨p0a, p0b⟩, p0c, p0d⟩ := hx
  obtain ⟨⟨p1a, p1b⟩, p1c, p1d⟩ := hy
  dsimp only at p0a p0b p0c p0d p1a p1b p1c p1d ⊢
  obtain ⟨R, hR⟩ : ∃ R, growL [x1 + y1, x2 + y2] = R := ⟨_, rfl⟩
  rw [hR]
  have HRR := hide hR
  clear hR
  have HC : Hid (∀ wq : World, Below w.heap.size w wq → wq.cell? ⟨b, off, none⟩ = some (.int .i64 x1) ∧ wq.cell? ⟨b, off + 1, none⟩ = some (.int .i64 x2) ∧ wq.cell? ⟨b, off + 2, none⟩ = some (.int .i64 y1) ∧ wq.cell? ⟨b, off + 3, none⟩ = some (.int .i64 y2)) := hide (fun wq hq => ⟨(hq.cell (p := ⟨b, off, none⟩) hb).trans a0, (hq.cell (p := ⟨b, off + 1, none⟩) hb).trans a1, (hq.cell (p := ⟨b, off + 2, none⟩) hb).trans a2, (hq.cell (p := ⟨b, off + 3, none⟩) hb).trans a3⟩)
  clear a0 a1 a2 a3 h
  have HN0 := hide (NodeSt.start w)
  go_enter Tryz.func106, Tryz.ntmps106
  go_upto_region 4 with (fail)
  generalize (w.alloc (Obj.cells #[.int .i64 0, .int .i64 0, .bool false] 154)).alloc (Obj.cells #[.int .i64 0, .int .i64 0, .bool false] 154) = w0 at HN0 ⊢
  obtain ⟨e0, e1, e2, e3⟩ := HC.out w0 HN0.out.bel
  go_still_tail 9, (by kernel_rfl)
  change wpList _ _ _ _ _ w0.drew
  have HD0 := hide HN0.out.drew
  generalize w0.drew = wd0 at HD0 ⊢
  go_wp2_with fail
  refine (refAdd_any _ _ _ _ HD0.out.own).mono ?_
  rintro en w1 ⟨rfl, hb', hk'⟩
  have HN1 := hide (HD0.out.step hb' hk')
  clear hb' hk'
  clear e0 e1 e2 e3
  obtain ⟨e0, e1, e2, e3⟩ := HC.out w1 HN1.out.bel
  go_upto_region 5 with (fail)
  go_still_tail 9, (by kernel_rfl)
  change wpList _ _ _ _ _ w1.drew
  have HD1 := hide HN1.out.drew
  generalize w1.drew = wd1 at HD1 ⊢
  go_wp2_with fail
  refine (refAdd_any _ _ _ _ HD1.out.own).mono ?_
  rintro en w2 ⟨rfl, hb', hk'⟩
  have HN2 := hide (HD1.out.step hb' hk')
  clear hb' hk'
  clear e0 e1 e2 e3
  obtain ⟨e0, e1, e2, e3⟩ := HC.out w2 HN2.out.bel
  have HF : Hid (NodeSt w (growL [x1 + y1, x2 + y2]) w2) := HN2
  clear e0 e1 e2 e3
  obtain ⟨s, hs⟩ : ∃ s, growL [x1 + y1, x2 + y2] = s := ⟨_, rfl⟩
  rw [hs] at HF
  have HS := hide hs
  clear hs
  obtain ⟨lo, hi, sm⟩ := s
  have c0 : w2.cell? ⟨w.heap.size + 1, 0, none⟩ = some (.int .i64 lo) := HF.out.own.cell 0
  have c1 : w2.cell? ⟨w.heap.size + 1, 1, none⟩ = some (.int .i64 hi) := HF.out.own.cell 1
  have c2 : w2.cell? ⟨w.heap.size + 1, 2, none⟩ = some (.bool sm) := HF.out.own.cell 2
  have r0 : w2.cell? ⟨w.heap.size, 0, none⟩ = some (.int .i64 0) := HF.out.res.cell 0
  have r1 : w2.cell? ⟨w.heap.size, 1, none⟩ = some (.int .i64 0) := HF.out.res.cell 1
  have r2 : w2.cell? ⟨w.heap.size, 2, none⟩ = some (.bool false) := HF.out.res.cell 2
  have f0 := HF.out.res.frozen 0
  have f1 := HF.out.res.frozen 1
  have f2 := HF.out.res.frozen 2
  have HP := hide HF.out.put
  go_wp2
  generalize ((w2.setCell ⟨w.heap.size, 0, none⟩ (.int .i64 lo)).setCell ⟨w.heap.size, 1, none⟩ (.int .i64 hi)).setCell ⟨w.heap.size, 2, none⟩ (.bool sm) = w9 at HP ⊢
  have d0 : w9.cell? ⟨w.heap.size, 0, none⟩ = some (.int .i64 lo) := HP.out.1.cell 0
  have d1 : w9.cell? ⟨w.heap.size, 1, none⟩ = some (.int .i64 hi) := HP.out.1.cell 1
  have d2 : w9.cell? ⟨w.heap.size, 2, none⟩ = some (.bool sm) := HP.out.1.cell 2
  exact bodyPost_ret (v := .agg #[.int .i64 lo, .int .i64 hi, .bool sm]) (by simp [results, Tryz.results106, go_sem, d0, d1, d2]) rfl ⟨by rw [← HRR.out, HS.out]; rfl, HP.out.2⟩
set_option maxHeartbeats 4000000 in
set_option maxRecDepth 20000 in
theorem refNode4 (A : Option Addr) (n c : Nat) (x y : Int × Int) (w : World) (h : RSp w w.heap.size A n [x, y]) (hx : inS x) (hy : inS y) :
    Calls Tryz.prog 106 #[.int .i64 4, .slice A n c] w fun e w' => e = .returned (growV (growL [x.1 - y.2, x.2 - y.1])) ∧ Below w.heap.size w w' := by
  obtain rfl : 2 = n := h.len
  obtain ⟨b, off, rfl, hb, a0, a1, a2, _, a3⟩ := h.two
  obtain ⟨x1, x2⟩ := x
  obtain ⟨y1, y2⟩ := y
  obtain ⟨⟨p0a, p0b⟩, p0c, p0d⟩ := hx
  obtain ⟨⟨p1a, p1b⟩, p1c, p1d⟩ := hy
  dsimp only at p0a p0b p0c p0d p1a p1b p1c p1d ⊢
  obtain ⟨R, hR⟩ : ∃ R, growL [x1 - y2, x2 - y1] = R := ⟨_, rfl⟩
  rw [hR]
  have HRR := hide hR
  clear hR
  have HC : Hid (∀ wq : World, Below w.heap.size w wq → wq.cell? ⟨b, off, none⟩ = some (.int .i64 x1) ∧ wq.cell? ⟨b, off + 1, none⟩ = some (.int .i64 x2) ∧ wq.cell? ⟨b, off + 2, none⟩ = some (.int .i64 y1) ∧ wq.cell? ⟨b, off + 3, none⟩ = some (.int .i64 y2)) := hide (fun wq hq => ⟨(hq.cell (p := ⟨b, off, none⟩) hb).trans a0, (hq.cell (p := ⟨b, off + 1, none⟩) hb).trans a1, (hq.cell (p := ⟨b, off + 2, none⟩) hb).trans a2, (hq.cell (p := ⟨b, off + 3, none⟩) hb).trans a3⟩)
  clear a0 a1 a2 a3 h
  have HN0 := hide (NodeSt.start w)
  go_enter Tryz.func106, Tryz.ntmps106
  go_upto_region 7 with (fail)
  generalize (w.alloc (Obj.cells #[.int .i64 0, .int .i64 0, .bool false] 154)).alloc (Obj.cells #[.int .i64 0, .int .i64 0, .bool false] 154) = w0 at HN0 ⊢
  obtain ⟨e0, e1, e2, e3⟩ := HC.out w0 HN0.out.bel
  go_still_tail 9, (by kernel_rfl)
  change wpList _ _ _ _ _ w0.drew
  have HD0 := hide HN0.out.drew
  generalize w0.drew = wd0 at HD0 ⊢
  go_wp2_with fail
  refine (refAdd_any _ _ _ _ HD0.out.own).mono ?_
  rintro en w1 ⟨rfl, hb', hk'⟩
  have HN1 := hide (HD0.out.step hb' hk')
  clear hb' hk'
  clear e0 e1 e2 e3
  obtain ⟨e0, e1, e2, e3⟩ := HC.out w1 HN1.out.bel
  go_upto_region 8 with (fail)
  go_still_tail 9, (by kernel_rfl)
  change wpList _ _ _ _ _ w1.drew
  have HD1 := hide HN1.out.drew
  generalize w1.drew = wd1 at HD1 ⊢
  go_wp2_with fail
  refine (refAdd_any _ _ _ _ HD1.out.own).mono ?_
  rintro en w2 ⟨rfl, hb', hk'⟩
  have HN2 := hide (HD1.out.step hb' hk')
  clear hb' hk'
  clear e0 e1 e2 e3
  obtain ⟨e0, e1, e2, e3⟩ := HC.out w2 HN2.out.bel
  have HF : Hid (NodeSt w (growL [x1 - y2, x2 - y1]) w2) := HN2
  clear e0 e1 e2 e3
  obtain ⟨s, hs⟩ : ∃ s, growL [x1 - y2, x2 - y1] = s := ⟨_, rfl⟩
  rw [hs] at HF
  have HS := hide hs
  clear hs
  obtain ⟨lo, hi, sm⟩ := s
  have c0 : w2.cell? ⟨w.heap.size + 1, 0, none⟩ = some (.int .i64 lo) := HF.out.own.cell 0
  have c1 : w2.cell? ⟨w.heap.size + 1, 1, none⟩ = some (.int .i64 hi) := HF.out.own.cell 1
  have c2 : w2.cell? ⟨w.heap.size + 1, 2, none⟩ = some (.bool sm) := HF.out.own.cell 2
  have r0 : w2.cell? ⟨w.heap.size, 0, none⟩ = some (.int .i64 0) := HF.out.res.cell 0
  have r1 : w2.cell? ⟨w.heap.size, 1, none⟩ = some (.int .i64 0) := HF.out.res.cell 1
  have r2 : w2.cell? ⟨w.heap.size, 2, none⟩ = some (.bool false) := HF.out.res.cell 2
  have f0 := HF.out.res.frozen 0
  have f1 := HF.out.res.frozen 1
  have f2 := HF.out.res.frozen 2
  have HP := hide HF.out.put
  go_wp2
  generalize ((w2.setCell ⟨w.heap.size, 0, none⟩ (.int .i64 lo)).setCell ⟨w.heap.size, 1, none⟩ (.int .i64 hi)).setCell ⟨w.heap.size, 2, none⟩ (.bool sm) = w9 at HP ⊢
  have d0 : w9.cell? ⟨w.heap.size, 0, none⟩ = some (.int .i64 lo) := HP.out.1.cell 0
  have d1 : w9.cell? ⟨w.heap.size, 1, none⟩ = some (.int .i64 hi) := HP.out.1.cell 1
  have d2 : w9.cell? ⟨w.heap.size, 2, none⟩ = some (.bool sm) := HP.out.1.cell 2
  exact bodyPost_ret (v := .agg #[.int .i64 lo, .int .i64 hi, .bool sm]) (by simp [results, Tryz.results106, go_sem, d0, d1, d2]) rfl ⟨by rw [← HRR.out, HS.out]; rfl, HP.out.2⟩
set_option maxHeartbeats 4000000 in
set_option maxRecDepth 20000 in
theorem refNode7 (A : Option Addr) (n c : Nat) (x y : Int × Int) (w : World) (h : RSp w w.heap.size A n [x, y]) (hx : inS x) (hy : inS y) :
    Calls Tryz.prog 106 #[.int .i64 7, .slice A n c] w fun e w' => e = .returned (growV (growL [min x.1 y.1, min x.2 y.2])) ∧ Below w.heap.size w w' := by
  obtain rfl : 2 = n := h.len
  obtain ⟨b, off, rfl, hb, a0, a1, a2, _, a3⟩ := h.two
  obtain ⟨x1, x2⟩ := x
  obtain ⟨y1, y2⟩ := y
  obtain ⟨⟨p0a, p0b⟩, p0c, p0d⟩ := hx
  obtain ⟨⟨p1a, p1b⟩, p1c, p1d⟩ := hy
  dsimp only at p0a p0b p0c p0d p1a p1b p1c p1d ⊢
  obtain ⟨R, hR⟩ : ∃ R, growL [min x1 y1, min x2 y2] = R := ⟨_, rfl⟩
  rw [hR]
  have HRR := hide hR
  clear hR
  have HC : Hid (∀ wq : World, Below w.heap.size w wq → wq.cell? ⟨b, off, none⟩ = some (.int .i64 x1) ∧ wq.cell? ⟨b, off + 1, none⟩ = some (.int .i64 x2) ∧ wq.cell? ⟨b, off + 2, none⟩ = some (.int .i64 y1) ∧ wq.cell? ⟨b, off + 3, none⟩ = some (.int .i64 y2)) := hide (fun wq hq => ⟨(hq.cell (p := ⟨b, off, none⟩) hb).trans a0, (hq.cell (p := ⟨b, off + 1, none⟩) hb).trans a1, (hq.cell (p := ⟨b, off + 2, none⟩) hb).trans a2, (hq.cell (p := ⟨b, off + 3, none⟩) hb).trans a3⟩)
  clear a0 a1 a2 a3 h
  have HN0 := hide (NodeSt.start w)
  go_enter Tryz.func106, Tryz.ntmps106
  go_upto_region 30 with (fail)
  generalize (w.alloc (Obj.cells #[.int .i64 0, .int .i64 0, .bool false] 154)).alloc (Obj.cells #[.int .i64 0, .int .i64 0, .bool false] 154) = w0 at HN0 ⊢
  obtain ⟨e0, e1, e2, e3⟩ := HC.out w0 HN0.out.bel
  go_still_tail 9, (by kernel_rfl)
  change wpList _ _ _ _ _ w0.drew
  have HD0 := hide HN0.out.drew
  generalize w0.drew = wd0 at HD0 ⊢
  go_wp2_with fail
  refine (refAdd_any _ _ _ _ HD0.out.own).mono ?_
  rintro en w1 ⟨rfl, hb', hk'⟩
  have HN1 := hide (HD0.out.step hb' hk')
  clear hb' hk'
  clear e0 e1 e2 e3
  obtain ⟨e0, e1, e2, e3⟩ := HC.out w1 HN1.out.bel
  go_upto_region 31 with (fail)
  go_still_tail 9, (by kernel_rfl)
  change wpList _ _ _ _ _ w1.drew
  have HD1 := hide HN1.out.drew
  generalize w1.drew = wd1 at HD1 ⊢
  go_wp2_with fail
  refine (refAdd_any _ _ _ _ HD1.out.own).mono ?_
  rintro en w2 ⟨rfl, hb', hk'⟩
  have HN2 := hide (HD1.out.step hb' hk')
  clear hb' hk'
  clear e0 e1 e2 e3
  obtain ⟨e0, e1, e2, e3⟩ := HC.out w2 HN2.out.bel
  have HF : Hid (NodeSt w (growL [min x1 y1, min x2 y2]) w2) := HN2
  clear e0 e1 e2 e3
  obtain ⟨s, hs⟩ : ∃ s, growL [min x1 y1, min x2 y2] = s := ⟨_, rfl⟩
  rw [hs] at HF
  have HS := hide hs
  clear hs
  obtain ⟨lo, hi, sm⟩ := s
  have c0 : w2.cell? ⟨w.heap.size + 1, 0, none⟩ = some (.int .i64 lo) := HF.out.own.cell 0
  have c1 : w2.cell? ⟨w.heap.size + 1, 1, none⟩ = some (.int .i64 hi) := HF.out.own.cell 1
  have c2 : w2.cell? ⟨w.heap.size + 1, 2, none⟩ = some (.bool sm) := HF.out.own.cell 2
  have r0 : w2.cell? ⟨w.heap.size, 0, none⟩ = some (.int .i64 0) := HF.out.res.cell 0
  have r1 : w2.cell? ⟨w.heap.size, 1, none⟩ = some (.int .i64 0) := HF.out.res.cell 1
  have r2 : w2.cell? ⟨w.heap.size, 2, none⟩ = some (.bool false) := HF.out.res.cell 2
  have f0 := HF.out.res.frozen 0
  have f1 := HF.out.res.frozen 1
  have f2 := HF.out.res.frozen 2
  have HP := hide HF.out.put
  go_wp2
  generalize ((w2.setCell ⟨w.heap.size, 0, none⟩ (.int .i64 lo)).setCell ⟨w.heap.size, 1, none⟩ (.int .i64 hi)).setCell ⟨w.heap.size, 2, none⟩ (.bool sm) = w9 at HP ⊢
  have d0 : w9.cell? ⟨w.heap.size, 0, none⟩ = some (.int .i64 lo) := HP.out.1.cell 0
  have d1 : w9.cell? ⟨w.heap.size, 1, none⟩ = some (.int .i64 hi) := HP.out.1.cell 1
  have d2 : w9.cell? ⟨w.heap.size, 2, none⟩ = some (.bool sm) := HP.out.1.cell 2
  exact bodyPost_ret (v := .agg #[.int .i64 lo, .int .i64 hi, .bool sm]) (by simp [results, Tryz.results106, go_sem, d0, d1, d2]) rfl ⟨by rw [← HRR.out, HS.out]; rfl, HP.out.2⟩
set_option maxHeartbeats 4000000 in
set_option maxRecDepth 20000 in
theorem refNode8 (A : Option Addr) (n c : Nat) (x y : Int × Int) (w : World) (h : RSp w w.heap.size A n [x, y]) (hx : inS x) (hy : inS y) :
    Calls Tryz.prog 106 #[.int .i64 8, .slice A n c] w fun e w' => e = .returned (growV (growL [max x.1 y.1, max x.2 y.2])) ∧ Below w.heap.size w w' := by
  obtain rfl : 2 = n := h.len
  obtain ⟨b, off, rfl, hb, a0, a1, a2, _, a3⟩ := h.two
  obtain ⟨x1, x2⟩ := x
  obtain ⟨y1, y2⟩ := y
  obtain ⟨⟨p0a, p0b⟩, p0c, p0d⟩ := hx
  obtain ⟨⟨p1a, p1b⟩, p1c, p1d⟩ := hy
  dsimp only at p0a p0b p0c p0d p1a p1b p1c p1d ⊢
  obtain ⟨R, hR⟩ : ∃ R, growL [max x1 y1, max x2 y2] = R := ⟨_, rfl⟩
  rw [hR]
  have HRR := hide hR
  clear hR
  have HC : Hid (∀ wq : World, Below w.heap.size w wq → wq.cell? ⟨b, off, none⟩ = some (.int .i64 x1) ∧ wq.cell? ⟨b, off + 1, none⟩ = some (.int .i64 x2) ∧ wq.cell? ⟨b, off + 2, none⟩ = some (.int .i64 y1) ∧ wq.cell? ⟨b, off + 3, none⟩ = some (.int .i64 y2)) := hide (fun wq hq => ⟨(hq.cell (p := ⟨b, off, none⟩) hb).trans a0, (hq.cell (p := ⟨b, off + 1, none⟩) hb).trans a1, (hq.cell (p := ⟨b, off + 2, none⟩) hb).trans a2, (hq.cell (p := ⟨b, off + 3, none⟩) hb).trans a3⟩)
  clear a0 a1 a2 a3 h
  have HN0 := hide (NodeSt.start w)
  go_enter Tryz.func106, Tryz.ntmps106
  go_upto_region 33 with (fail)
  generalize (w.alloc (Obj.cells #[.int .i64 0, .int .i64 0, .bool false] 154)).alloc (Obj.cells #[.int .i64 0, .int .i64 0, .bool false] 154) = w0 at HN0 ⊢
  obtain ⟨e0, e1, e2, e3⟩ := HC.out w0 HN0.out.bel
  go_still_tail 9, (by kernel_rfl)
  change wpList _ _ _ _ _ w0.drew
  have HD0 := hide HN0.out.drew
  generalize w0.drew = wd0 at HD0 ⊢
  go_wp2_with fail
  refine (refAdd_any _ _ _ _ HD0.out.own).mono ?_
  rintro en w1 ⟨rfl, hb', hk'⟩
  have HN1 := hide (HD0.out.step hb' hk')
  clear hb' hk'
  clear e0 e1 e2 e3
  obtain ⟨e0, e1, e2, e3⟩ := HC.out w1 HN1.out.bel
  go_upto_region 34 with (fail)
  go_still_tail 9, (by kernel_rfl)
  change wpList _ _ _ _ _ w1.drew
  have HD1 := hide HN1.out.drew
  generalize w1.drew = wd1 at HD1 ⊢
  go_wp2_with fail
  refine (refAdd_any _ _ _ _ HD1.out.own).mono ?_
  rintro en w2 ⟨rfl, hb', hk'⟩
  have HN2 := hide (HD1.out.step hb' hk')
  clear hb' hk'
  clear e0 e1 e2 e3
  obtain ⟨e0, e1, e2, e3⟩ := HC.out w2 HN2.out.bel
  have HF : Hid (NodeSt w (growL [max x1 y1, max x2 y2]) w2) := HN2
  clear e0 e1 e2 e3
  obtain ⟨s, hs⟩ : ∃ s, growL [max x1 y1, max x2 y2] = s := ⟨_, rfl⟩
  rw [hs] at HF
  have HS := hide hs
  clear hs
  obtain ⟨lo, hi, sm⟩ := s
  have c0 : w2.cell? ⟨w.heap.size + 1, 0, none⟩ = some (.int .i64 lo) := HF.out.own.cell 0
  have c1 : w2.cell? ⟨w.heap.size + 1, 1, none⟩ = some (.int .i64 hi) := HF.out.own.cell 1
  have c2 : w2.cell? ⟨w.heap.size + 1, 2, none⟩ = some (.bool sm) := HF.out.own.cell 2
  have r0 : w2.cell? ⟨w.heap.size, 0, none⟩ = some (.int .i64 0) := HF.out.res.cell 0
  have r1 : w2.cell? ⟨w.heap.size, 1, none⟩ = some (.int .i64 0) := HF.out.res.cell 1
  have r2 : w2.cell? ⟨w.heap.size, 2, none⟩ = some (.bool false) := HF.out.res.cell 2
  have f0 := HF.out.res.frozen 0
  have f1 := HF.out.res.frozen 1
  have f2 := HF.out.res.frozen 2
  have HP := hide HF.out.put
  go_wp2
  generalize ((w2.setCell ⟨w.heap.size, 0, none⟩ (.int .i64 lo)).setCell ⟨w.heap.size, 1, none⟩ (.int .i64 hi)).setCell ⟨w.heap.size, 2, none⟩ (.bool sm) = w9 at HP ⊢
  have d0 : w9.cell? ⟨w.heap.size, 0, none⟩ = some (.int .i64 lo) := HP.out.1.cell 0
  have d1 : w9.cell? ⟨w.heap.size, 1, none⟩ = some (.int .i64 hi) := HP.out.1.cell 1
  have d2 : w9.cell? ⟨w.heap.size, 2, none⟩ = some (.bool sm) := HP.out.1.cell 2
  exact bodyPost_ret (v := .agg #[.int .i64 lo, .int .i64 hi, .bool sm]) (by simp [results, Tryz.results106, go_sem, d0, d1, d2]) rfl ⟨by rw [← HRR.out, HS.out]; rfl, HP.out.2⟩
set_option maxHeartbeats 4000000 in
set_option maxRecDepth 20000 in
theorem refNode12 (A : Option Addr) (n c : Nat) (x : Int × Int) (w : World) (h : RSp w w.heap.size A n [x]) (hx : inS x) :
    Calls Tryz.prog 106 #[.int .i64 12, .slice A n c] w fun e w' => e = .returned (growV (growL [-x.1, -x.2])) ∧ Below w.heap.size w w' := by
  obtain rfl : 1 = n := h.len
  obtain ⟨b, off, rfl, hb, a0, a1⟩ := h.at_ (i := 0) (by omega)
  rw [Nat.zero_mul, Nat.add_zero] at a0 a1
  obtain ⟨x1, x2⟩ := x
  obtain ⟨⟨p0a, p0b⟩, p0c, p0d⟩ := hx
  dsimp only at p0a p0b p0c p0d ⊢
  obtain ⟨R, hR⟩ : ∃ R, growL [-x1, -x2] = R := ⟨_, rfl⟩
  rw [hR]
  have HRR := hide hR
  clear hR
  have HC : Hid (∀ wq : World, Below w.heap.size w wq → wq.cell? ⟨b, off, none⟩ = some (.int .i64 x1) ∧ wq.cell? ⟨b, off + 1, none⟩ = some (.int .i64 x2)) := hide (fun wq hq => ⟨(hq.cell (p := ⟨b, off, none⟩) hb).trans a0, (hq.cell (p := ⟨b, off + 1, none⟩) hb).trans a1⟩)
  clear a0 a1 h
  have HN0 := hide (NodeSt.start w)
  go_enter Tryz.func106, Tryz.ntmps106
  go_upto_region 10 with (fail)
  generalize (w.alloc (Obj.cells #[.int .i64 0, .int .i64 0, .bool false] 154)).alloc (Obj.cells #[.int .i64 0, .int .i64 0, .bool false] 154) = w0 at HN0 ⊢
  obtain ⟨e0, e1⟩ := HC.out w0 HN0.out.bel
  go_wp2_with fail
  refine (refAdd_any _ _ _ _ HN0.out.own).mono ?_
  rintro en w1 ⟨rfl, hb', hk'⟩
  have HN1 := hide (HN0.out.step hb' hk')
  clear hb' hk'
  clear e0 e1
  obtain ⟨e0, e1⟩ := HC.out w1 HN1.out.bel
  go_wp2_with fail
  refine (refAdd_any _ _ _ _ HN1.out.own).mono ?_
  rintro en w2 ⟨rfl, hb', hk'⟩
  have HN2 := hide (HN1.out.step hb' hk')
  clear hb' hk'
  clear e0 e1
  obtain ⟨e0, e1⟩ := HC.out w2 HN2.out.bel
  have HF : Hid (NodeSt w (growL [-x1, -x2]) w2) := HN2
  clear e0 e1
  obtain ⟨s, hs⟩ : ∃ s, growL [-x1, -x2] = s := ⟨_, rfl⟩
  rw [hs] at HF
  have HS := hide hs
  clear hs
  obtain ⟨lo, hi, sm⟩ := s
  have c0 : w2.cell? ⟨w.heap.size + 1, 0, none⟩ = some (.int .i64 lo) := HF.out.own.cell 0
  have c1 : w2.cell? ⟨w.heap.size + 1, 1, none⟩ = some (.int .i64 hi) := HF.out.own.cell 1
  have c2 : w2.cell? ⟨w.heap.size + 1, 2, none⟩ = some (.bool sm) := HF.out.own.cell 2
  have r0 : w2.cell? ⟨w.heap.size, 0, none⟩ = some (.int .i64 0) := HF.out.res.cell 0
  have r1 : w2.cell? ⟨w.heap.size, 1, none⟩ = some (.int .i64 0) := HF.out.res.cell 1
  have r2 : w2.cell? ⟨w.heap.size, 2, none⟩ = some (.bool false) := HF.out.res.cell 2
  have f0 := HF.out.res.frozen 0
  have f1 := HF.out.res.frozen 1
  have f2 := HF.out.res.frozen 2
  have HP := hide HF.out.put
  go_wp2
  generalize ((w2.setCell ⟨w.heap.size, 0, none⟩ (.int .i64 lo)).setCell ⟨w.heap.size, 1, none⟩ (.int .i64 hi)).setCell ⟨w.heap.size, 2, none⟩ (.bool sm) = w9 at HP ⊢
  have d0 : w9.cell? ⟨w.heap.size, 0, none⟩ = some (.int .i64 lo) := HP.out.1.cell 0
  have d1 : w9.cell? ⟨w.heap.size, 1, none⟩ = some (.int .i64 hi) := HP.out.1.cell 1
  have d2 : w9.cell? ⟨w.heap.size, 2, none⟩ = some (.bool sm) := HP.out.1.cell 2
  exact bodyPost_ret (v := .agg #[.int .i64 lo, .int .i64 hi, .bool sm]) (by simp [results, Tryz.results106, go_sem, d0, d1, d2]) rfl ⟨by rw [← HRR.out, HS.out]; rfl, HP.out.2⟩
end Go.Proofs.YtkomgidcgepknaaGreatDoor

/-
  The reference of chapter 22: the bounds of a node, operator by operator.
-/
set_option linter.unusedVariables false
set_option linter.unusedSimpArgs false
namespace Go.Proofs.YtkomgidcgepknaaGreatDoor
open Go.RowKit Go.Deep

set_option maxHeartbeats 4000000 in
set_option maxRecDepth 20000 in
theorem refNode9 (A : Option Addr) (n c : Nat) (x y z : Int × Int) (w : World) (h : RSp w w.heap.size A n [x, y, z]) (hx : inS x) (hy : inS y) (hz : inS z) :
    Calls Tryz.prog 106 #[.int .i64 9, .slice A n c] w fun e w' => e = .returned (growV (growL ((if 0 < x.2 then [y.1, y.2] else []) ++ (if x.1 ≤ 0 then [z.1, z.2] else [])))) ∧ Below w.heap.size w w' := by
  obtain rfl : 3 = n := h.len
  obtain ⟨b, off, rfl, hb, a0, a1, a2, _, a3⟩ := h.two
  obtain ⟨b', off', hA', _, a4, a5⟩ := h.at_ (i := 2) (by omega)
  obtain ⟨rfl, rfl⟩ : b = b' ∧ off = off' := by
    injection hA' with h
    injection h with h1 h2
    exact ⟨h1, h2⟩
  clear hA'
  obtain ⟨x1, x2⟩ := x
  obtain ⟨y1, y2⟩ := y
  obtain ⟨z1, z2⟩ := z
  obtain ⟨⟨p0a, p0b⟩, p0c, p0d⟩ := hx
  obtain ⟨⟨p1a, p1b⟩, p1c, p1d⟩ := hy
  obtain ⟨⟨p2a, p2b⟩, p2c, p2d⟩ := hz
  dsimp only at p0a p0b p0c p0d p1a p1b p1c p1d p2a p2b p2c p2d ⊢
  obtain ⟨R, hR⟩ : ∃ R, growL ((if 0 < x2 then [y1, y2] else []) ++ (if x1 ≤ 0 then [z1, z2] else [])) = R := ⟨_, rfl⟩
  rw [hR]
  have HRR := hide hR
  clear hR
  have HC : Hid (∀ wq : World, Below w.heap.size w wq → wq.cell? ⟨b, off, none⟩ = some (.int .i64 x1) ∧ wq.cell? ⟨b, off + 1, none⟩ = some (.int .i64 x2) ∧ wq.cell? ⟨b, off + 2, none⟩ = some (.int .i64 y1) ∧ wq.cell? ⟨b, off + 3, none⟩ = some (.int .i64 y2) ∧ wq.cell? ⟨b, off + 4, none⟩ = some (.int .i64 z1) ∧ wq.cell? ⟨b, off + 5, none⟩ = some (.int .i64 z2)) := hide (fun wq hq => ⟨(hq.cell (p := ⟨b, off, none⟩) hb).trans a0, (hq.cell (p := ⟨b, off + 1, none⟩) hb).trans a1, (hq.cell (p := ⟨b, off + 2, none⟩) hb).trans a2, (hq.cell (p := ⟨b, off + 3, none⟩) hb).trans a3, (hq.cell (p := ⟨b, off + 4, none⟩) hb).trans a4, (hq.cell (p := ⟨b, off + 5, none⟩) hb).trans a5⟩)
  clear a0 a1 a2 a3 a4 a5 h
  have HN0 := hide (NodeSt.start w)
  go_enter Tryz.func106, Tryz.ntmps106
  go_upto_region 36 with (fail)
  generalize (w.alloc (Obj.cells #[.int .i64 0, .int .i64 0, .bool false] 154)).alloc (Obj.cells #[.int .i64 0, .int .i64 0, .bool false] 154) = w0 at HN0 ⊢
  obtain ⟨e0, e1, e2, e3, e4, e5⟩ := HC.out w0 HN0.out.bel
  cases d1 : decide (0 < x2)
  · cases d2 : decide (x1 ≤ 0)
    · have HR : Hid (((if 0 < x2 then [y1, y2] else []) ++ (if x1 ≤ 0 then [z1, z2] else [])) = ([] : List Int)) := by
        show _ = _
        simp [of_decide_eq_false d1, of_decide_eq_false d2]
      have HF : Hid (NodeSt w (growL []) w0) := HN0
      obtain ⟨s, hs⟩ : ∃ s, growL [] = s := ⟨_, rfl⟩
      rw [hs] at HF
      have HS := hide hs
      clear hs
      obtain ⟨lo, hi, sm⟩ := s
      have c0 : w0.cell? ⟨w.heap.size + 1, 0, none⟩ = some (.int .i64 lo) := HF.out.own.cell 0
      have c1 : w0.cell? ⟨w.heap.size + 1, 1, none⟩ = some (.int .i64 hi) := HF.out.own.cell 1
      have c2 : w0.cell? ⟨w.heap.size + 1, 2, none⟩ = some (.bool sm) := HF.out.own.cell 2
      have r0 : w0.cell? ⟨w.heap.size, 0, none⟩ = some (.int .i64 0) := HF.out.res.cell 0
      have r1 : w0.cell? ⟨w.heap.size, 1, none⟩ = some (.int .i64 0) := HF.out.res.cell 1
      have r2 : w0.cell? ⟨w.heap.size, 2, none⟩ = some (.bool false) := HF.out.res.cell 2
      have f0 := HF.out.res.frozen 0
      have f1 := HF.out.res.frozen 1
      have f2 := HF.out.res.frozen 2
      have HP := hide HF.out.put
      go_wp2
      generalize ((w0.setCell ⟨w.heap.size, 0, none⟩ (.int .i64 lo)).setCell ⟨w.heap.size, 1, none⟩ (.int .i64 hi)).setCell ⟨w.heap.size, 2, none⟩ (.bool sm) = w9 at HP ⊢
      have d0 : w9.cell? ⟨w.heap.size, 0, none⟩ = some (.int .i64 lo) := HP.out.1.cell 0
      have d1 : w9.cell? ⟨w.heap.size, 1, none⟩ = some (.int .i64 hi) := HP.out.1.cell 1
      have d2 : w9.cell? ⟨w.heap.size, 2, none⟩ = some (.bool sm) := HP.out.1.cell 2
      exact bodyPost_ret (v := .agg #[.int .i64 lo, .int .i64 hi, .bool sm]) (by simp [results, Tryz.results106, go_sem, d0, d1, d2]) rfl ⟨by rw [← HRR.out, HR.out, HS.out]; rfl, HP.out.2⟩
    · have HR : Hid (((if 0 < x2 then [y1, y2] else []) ++ (if x1 ≤ 0 then [z1, z2] else [])) = ([z1, z2] : List Int)) := by
        show _ = _
        simp [of_decide_eq_false d1, of_decide_eq_true d2]
      go_wp2_with fail
      refine (refAdd_any _ _ _ _ HN0.out.own).mono ?_
      rintro en w1x ⟨rfl, hb', hk'⟩
      have HN1 := hide (HN0.out.step hb' hk')
      clear hb' hk'
      clear e0 e1 e2 e3 e4 e5
      obtain ⟨e0, e1, e2, e3, e4, e5⟩ := HC.out w1x HN1.out.bel
      go_wp2_with fail
      refine (refAdd_any _ _ _ _ HN1.out.own).mono ?_
      rintro en w2x ⟨rfl, hb', hk'⟩
      have HN2 := hide (HN1.out.step hb' hk')
      clear hb' hk'
      clear e0 e1 e2 e3 e4 e5
      obtain ⟨e0, e1, e2, e3, e4, e5⟩ := HC.out w2x HN2.out.bel
      have HF : Hid (NodeSt w (growL [z1, z2]) w2x) := HN2
      obtain ⟨s, hs⟩ : ∃ s, growL [z1, z2] = s := ⟨_, rfl⟩
      rw [hs] at HF
      have HS := hide hs
      clear hs
      obtain ⟨lo, hi, sm⟩ := s
      have c0 : w2x.cell? ⟨w.heap.size + 1, 0, none⟩ = some (.int .i64 lo) := HF.out.own.cell 0
      have c1 : w2x.cell? ⟨w.heap.size + 1, 1, none⟩ = some (.int .i64 hi) := HF.out.own.cell 1
      have c2 : w2x.cell? ⟨w.heap.size + 1, 2, none⟩ = some (.bool sm) := HF.out.own.cell 2
      have r0 : w2x.cell? ⟨w.heap.size, 0, none⟩ = some (.int .i64 0) := HF.out.res.cell 0
      have r1 : w2x.cell? ⟨w.heap.size, 1, none⟩ = some (.int .i64 0) := HF.out.res.cell 1
      have r2 : w2x.cell? ⟨w.heap.size, 2, none⟩ = some (.bool false) := HF.out.res.cell 2
      have f0 := HF.out.res.frozen 0
      have f1 := HF.out.res.frozen 1
      have f2 := HF.out.res.frozen 2
      have HP := hide HF.out.put
      go_wp2
      generalize ((w2x.setCell ⟨w.heap.size, 0, none⟩ (.int .i64 lo)).setCell ⟨w.heap.size, 1, none⟩ (.int .i64 hi)).setCell ⟨w.heap.size, 2, none⟩ (.bool sm) = w9 at HP ⊢
      have d0 : w9.cell? ⟨w.heap.size, 0, none⟩ = some (.int .i64 lo) := HP.out.1.cell 0
      have d1 : w9.cell? ⟨w.heap.size, 1, none⟩ = some (.int .i64 hi) := HP.out.1.cell 1
      have d2 : w9.cell? ⟨w.heap.size, 2, none⟩ = some (.bool sm) := HP.out.1.cell 2
      exact bodyPost_ret (v := .agg #[.int .i64 lo, .int .i64 hi, .bool sm]) (by simp [results, Tryz.results106, go_sem, d0, d1, d2]) rfl ⟨by rw [← HRR.out, HR.out, HS.out]; rfl, HP.out.2⟩
  · cases d2 : decide (x1 ≤ 0)
    · have HR : Hid (((if 0 < x2 then [y1, y2] else []) ++ (if x1 ≤ 0 then [z1, z2] else [])) = ([y1, y2] : List Int)) := by
        show _ = _
        simp [of_decide_eq_true d1, of_decide_eq_false d2]
      go_wp2_with fail
      refine (refAdd_any _ _ _ _ HN0.out.own).mono ?_
      rintro en w1x ⟨rfl, hb', hk'⟩
      have HN1 := hide (HN0.out.step hb' hk')
      clear hb' hk'
      clear e0 e1 e2 e3 e4 e5
      obtain ⟨e0, e1, e2, e3, e4, e5⟩ := HC.out w1x HN1.out.bel
      go_wp2_with fail
      refine (refAdd_any _ _ _ _ HN1.out.own).mono ?_
      rintro en w2x ⟨rfl, hb', hk'⟩
      have HN2 := hide (HN1.out.step hb' hk')
      clear hb' hk'
      clear e0 e1 e2 e3 e4 e5
      obtain ⟨e0, e1, e2, e3, e4, e5⟩ := HC.out w2x HN2.out.bel
      have HF : Hid (NodeSt w (growL [y1, y2]) w2x) := HN2
      obtain ⟨s, hs⟩ : ∃ s, growL [y1, y2] = s := ⟨_, rfl⟩
      rw [hs] at HF
      have HS := hide hs
      clear hs
      obtain ⟨lo, hi, sm⟩ := s
      have c0 : w2x.cell? ⟨w.heap.size + 1, 0, none⟩ = some (.int .i64 lo) := HF.out.own.cell 0
      have c1 : w2x.cell? ⟨w.heap.size + 1, 1, none⟩ = some (.int .i64 hi) := HF.out.own.cell 1
      have c2 : w2x.cell? ⟨w.heap.size + 1, 2, none⟩ = some (.bool sm) := HF.out.own.cell 2
      have r0 : w2x.cell? ⟨w.heap.size, 0, none⟩ = some (.int .i64 0) := HF.out.res.cell 0
      have r1 : w2x.cell? ⟨w.heap.size, 1, none⟩ = some (.int .i64 0) := HF.out.res.cell 1
      have r2 : w2x.cell? ⟨w.heap.size, 2, none⟩ = some (.bool false) := HF.out.res.cell 2
      have f0 := HF.out.res.frozen 0
      have f1 := HF.out.res.frozen 1
      have f2 := HF.out.res.frozen 2
      have HP := hide HF.out.put
      go_wp2
      generalize ((w2x.setCell ⟨w.heap.size, 0, none⟩ (.int .i64 lo)).setCell ⟨w.heap.size, 1, none⟩ (.int .i64 hi)).setCell ⟨w.heap.size, 2, none⟩ (.bool sm) = w9 at HP ⊢
      have d0 : w9.cell? ⟨w.heap.size, 0, none⟩ = some (.int .i64 lo) := HP.out.1.cell 0
      have d1 : w9.cell? ⟨w.heap.size, 1, none⟩ = some (.int .i64 hi) := HP.out.1.cell 1
      have d2 : w9.cell? ⟨w.heap.size, 2, none⟩ = some (.bool sm) := HP.out.1.cell 2
      exact bodyPost_ret (v := .agg #[.int .i64 lo, .int .i64 hi, .bool sm]) (by simp [results, Tryz.results106, go_sem, d0, d1, d2]) rfl ⟨by rw [← HRR.out, HR.out, HS.out]; rfl, HP.out.2⟩
    · have HR : Hid (((if 0 < x2 then [y1, y2] else []) ++ (if x1 ≤ 0 then [z1, z2] else [])) = ([y1, y2, z1, z2] : List Int)) := by
        show _ = _
        simp [of_decide_eq_true d1, of_decide_eq_true d2]
      go_wp2_with fail
      refine (refAdd_any _ _ _ _ HN0.out.own).mono ?_
      rintro en w1x ⟨rfl, hb', hk'⟩
      have HN1 := hide (HN0.out.step hb' hk')
      clear hb' hk'
      clear e0 e1 e2 e3 e4 e5
      obtain ⟨e0, e1, e2, e3, e4, e5⟩ := HC.out w1x HN1.out.bel
      go_wp2_with fail
      refine (refAdd_any _ _ _ _ HN1.out.own).mono ?_
      rintro en w2x ⟨rfl, hb', hk'⟩
      have HN2 := hide (HN1.out.step hb' hk')
      clear hb' hk'
      clear e0 e1 e2 e3 e4 e5
      obtain ⟨e0, e1, e2, e3, e4, e5⟩ := HC.out w2x HN2.out.bel
      go_wp2_with fail
      refine (refAdd_any _ _ _ _ HN2.out.own).mono ?_
      rintro en w3x ⟨rfl, hb', hk'⟩
      have HN3 := hide (HN2.out.step hb' hk')
      clear hb' hk'
      clear e0 e1 e2 e3 e4 e5
      obtain ⟨e0, e1, e2, e3, e4, e5⟩ := HC.out w3x HN3.out.bel
      go_wp2_with fail
      refine (refAdd_any _ _ _ _ HN3.out.own).mono ?_
      rintro en w4x ⟨rfl, hb', hk'⟩
      have HN4 := hide (HN3.out.step hb' hk')
      clear hb' hk'
      clear e0 e1 e2 e3 e4 e5
      obtain ⟨e0, e1, e2, e3, e4, e5⟩ := HC.out w4x HN4.out.bel
      have HF : Hid (NodeSt w (growL [y1, y2, z1, z2]) w4x) := HN4
      obtain ⟨s, hs⟩ : ∃ s, growL [y1, y2, z1, z2] = s := ⟨_, rfl⟩
      rw [hs] at HF
      have HS := hide hs
      clear hs
      obtain ⟨lo, hi, sm⟩ := s
      have c0 : w4x.cell? ⟨w.heap.size + 1, 0, none⟩ = some (.int .i64 lo) := HF.out.own.cell 0
      have c1 : w4x.cell? ⟨w.heap.size + 1, 1, none⟩ = some (.int .i64 hi) := HF.out.own.cell 1
      have c2 : w4x.cell? ⟨w.heap.size + 1, 2, none⟩ = some (.bool sm) := HF.out.own.cell 2
      have r0 : w4x.cell? ⟨w.heap.size, 0, none⟩ = some (.int .i64 0) := HF.out.res.cell 0
      have r1 : w4x.cell? ⟨w.heap.size, 1, none⟩ = some (.int .i64 0) := HF.out.res.cell 1
      have r2 : w4x.cell? ⟨w.heap.size, 2, none⟩ = some (.bool false) := HF.out.res.cell 2
      have f0 := HF.out.res.frozen 0
      have f1 := HF.out.res.frozen 1
      have f2 := HF.out.res.frozen 2
      have HP := hide HF.out.put
      go_wp2
      generalize ((w4x.setCell ⟨w.heap.size, 0, none⟩ (.int .i64 lo)).setCell ⟨w.heap.size, 1, none⟩ (.int .i64 hi)).setCell ⟨w.heap.size, 2, none⟩ (.bool sm) = w9 at HP ⊢
      have d0 : w9.cell? ⟨w.heap.size, 0, none⟩ = some (.int .i64 lo) := HP.out.1.cell 0
      have d1 : w9.cell? ⟨w.heap.size, 1, none⟩ = some (.int .i64 hi) := HP.out.1.cell 1
      have d2 : w9.cell? ⟨w.heap.size, 2, none⟩ = some (.bool sm) := HP.out.1.cell 2
      exact bodyPost_ret (v := .agg #[.int .i64 lo, .int .i64 hi, .bool sm]) (by simp [results, Tryz.results106, go_sem, d0, d1, d2]) rfl ⟨by rw [← HRR.out, HR.out, HS.out]; rfl, HP.out.2⟩
set_option maxHeartbeats 4000000 in
set_option maxRecDepth 20000 in
theorem refNode10 (A : Option Addr) (n c : Nat) (x y : Int × Int) (w : World) (h : RSp w w.heap.size A n [x, y]) (hx : inS x) (hy : inS y) :
    Calls Tryz.prog 106 #[.int .i64 10, .slice A n c] w fun e w' => e = .returned (growV (growL ((if x.1 < y.2 then [1] else []) ++ (if y.1 ≤ x.2 then [0] else [])))) ∧ Below w.heap.size w w' := by
  obtain rfl : 2 = n := h.len
  obtain ⟨b, off, rfl, hb, a0, a1, a2, _, a3⟩ := h.two
  obtain ⟨x1, x2⟩ := x
  obtain ⟨y1, y2⟩ := y
  obtain ⟨⟨p0a, p0b⟩, p0c, p0d⟩ := hx
  obtain ⟨⟨p1a, p1b⟩, p1c, p1d⟩ := hy
  dsimp only at p0a p0b p0c p0d p1a p1b p1c p1d ⊢
  obtain ⟨R, hR⟩ : ∃ R, growL ((if x1 < y2 then [1] else []) ++ (if y1 ≤ x2 then [0] else [])) = R := ⟨_, rfl⟩
  rw [hR]
  have HRR := hide hR
  clear hR
  have HC : Hid (∀ wq : World, Below w.heap.size w wq → wq.cell? ⟨b, off, none⟩ = some (.int .i64 x1) ∧ wq.cell? ⟨b, off + 1, none⟩ = some (.int .i64 x2) ∧ wq.cell? ⟨b, off + 2, none⟩ = some (.int .i64 y1) ∧ wq.cell? ⟨b, off + 3, none⟩ = some (.int .i64 y2)) := hide (fun wq hq => ⟨(hq.cell (p := ⟨b, off, none⟩) hb).trans a0, (hq.cell (p := ⟨b, off + 1, none⟩) hb).trans a1, (hq.cell (p := ⟨b, off + 2, none⟩) hb).trans a2, (hq.cell (p := ⟨b, off + 3, none⟩) hb).trans a3⟩)
  clear a0 a1 a2 a3 h
  have HN0 := hide (NodeSt.start w)
  go_enter Tryz.func106, Tryz.ntmps106
  go_upto_region 43 with (fail)
  generalize (w.alloc (Obj.cells #[.int .i64 0, .int .i64 0, .bool false] 154)).alloc (Obj.cells #[.int .i64 0, .int .i64 0, .bool false] 154) = w0 at HN0 ⊢
  obtain ⟨e0, e1, e2, e3⟩ := HC.out w0 HN0.out.bel
  cases d1 : decide (x1 < y2)
  · cases d2 : decide (y1 ≤ x2)
    · have HR : Hid (((if x1 < y2 then [1] else []) ++ (if y1 ≤ x2 then [0] else [])) = ([] : List Int)) := by
        show _ = _
        simp [of_decide_eq_false d1, of_decide_eq_false d2]
      go_quiet (fail)
      have HQ1 := hide (HN0.out.drewN nq)
      generalize w0.drewN nq = wq1 at HQ1 ⊢
      clear e0 e1 e2 e3
      obtain ⟨e0, e1, e2, e3⟩ := HC.out wq1 HQ1.out.bel
      go_upto_region 45 with (fail)
      go_quiet (fail)
      have HQ2 := hide (HQ1.out.drewN nq)
      generalize wq1.drewN nq = wq2 at HQ2 ⊢
      clear e0 e1 e2 e3
      obtain ⟨e0, e1, e2, e3⟩ := HC.out wq2 HQ2.out.bel
      have HF : Hid (NodeSt w (growL []) wq2) := HQ2
      obtain ⟨s, hs⟩ : ∃ s, growL [] = s := ⟨_, rfl⟩
      rw [hs] at HF
      have HS := hide hs
      clear hs
      obtain ⟨lo, hi, sm⟩ := s
      have c0 : wq2.cell? ⟨w.heap.size + 1, 0, none⟩ = some (.int .i64 lo) := HF.out.own.cell 0
      have c1 : wq2.cell? ⟨w.heap.size + 1, 1, none⟩ = some (.int .i64 hi) := HF.out.own.cell 1
      have c2 : wq2.cell? ⟨w.heap.size + 1, 2, none⟩ = some (.bool sm) := HF.out.own.cell 2
      have r0 : wq2.cell? ⟨w.heap.size, 0, none⟩ = some (.int .i64 0) := HF.out.res.cell 0
      have r1 : wq2.cell? ⟨w.heap.size, 1, none⟩ = some (.int .i64 0) := HF.out.res.cell 1
      have r2 : wq2.cell? ⟨w.heap.size, 2, none⟩ = some (.bool false) := HF.out.res.cell 2
      have f0 := HF.out.res.frozen 0
      have f1 := HF.out.res.frozen 1
      have f2 := HF.out.res.frozen 2
      have HP := hide HF.out.put
      go_wp2
      generalize ((wq2.setCell ⟨w.heap.size, 0, none⟩ (.int .i64 lo)).setCell ⟨w.heap.size, 1, none⟩ (.int .i64 hi)).setCell ⟨w.heap.size, 2, none⟩ (.bool sm) = w9 at HP ⊢
      have d0 : w9.cell? ⟨w.heap.size, 0, none⟩ = some (.int .i64 lo) := HP.out.1.cell 0
      have d1 : w9.cell? ⟨w.heap.size, 1, none⟩ = some (.int .i64 hi) := HP.out.1.cell 1
      have d2 : w9.cell? ⟨w.heap.size, 2, none⟩ = some (.bool sm) := HP.out.1.cell 2
      exact bodyPost_ret (v := .agg #[.int .i64 lo, .int .i64 hi, .bool sm]) (by simp [results, Tryz.results106, go_sem, d0, d1, d2]) rfl ⟨by rw [← HRR.out, HR.out, HS.out]; rfl, HP.out.2⟩
    · have HR : Hid (((if x1 < y2 then [1] else []) ++ (if y1 ≤ x2 then [0] else [])) = ([0] : List Int)) := by
        show _ = _
        simp [of_decide_eq_false d1, of_decide_eq_true d2]
      go_quiet (fail)
      have HQ1 := hide (HN0.out.drewN nq)
      generalize w0.drewN nq = wq1 at HQ1 ⊢
      clear e0 e1 e2 e3
      obtain ⟨e0, e1, e2, e3⟩ := HC.out wq1 HQ1.out.bel
      go_upto_region 45 with (fail)
      go_quiet (fail)
      have HQ2 := hide (HQ1.out.drewN nq)
      generalize wq1.drewN nq = wq2 at HQ2 ⊢
      clear e0 e1 e2 e3
      obtain ⟨e0, e1, e2, e3⟩ := HC.out wq2 HQ2.out.bel
      go_wp2_with fail
      refine (refAdd_any _ _ _ _ HQ2.out.own).mono ?_
      rintro en w3x ⟨rfl, hb', hk'⟩
      have HN3 := hide (HQ2.out.step hb' hk')
      clear hb' hk'
      clear e0 e1 e2 e3
      obtain ⟨e0, e1, e2, e3⟩ := HC.out w3x HN3.out.bel
      have HF : Hid (NodeSt w (growL [0]) w3x) := HN3
      obtain ⟨s, hs⟩ : ∃ s, growL [0] = s := ⟨_, rfl⟩
      rw [hs] at HF
      have HS := hide hs
      clear hs
      obtain ⟨lo, hi, sm⟩ := s
      have c0 : w3x.cell? ⟨w.heap.size + 1, 0, none⟩ = some (.int .i64 lo) := HF.out.own.cell 0
      have c1 : w3x.cell? ⟨w.heap.size + 1, 1, none⟩ = some (.int .i64 hi) := HF.out.own.cell 1
      have c2 : w3x.cell? ⟨w.heap.size + 1, 2, none⟩ = some (.bool sm) := HF.out.own.cell 2
      have r0 : w3x.cell? ⟨w.heap.size, 0, none⟩ = some (.int .i64 0) := HF.out.res.cell 0
      have r1 : w3x.cell? ⟨w.heap.size, 1, none⟩ = some (.int .i64 0) := HF.out.res.cell 1
      have r2 : w3x.cell? ⟨w.heap.size, 2, none⟩ = some (.bool false) := HF.out.res.cell 2
      have f0 := HF.out.res.frozen 0
      have f1 := HF.out.res.frozen 1
      have f2 := HF.out.res.frozen 2
      have HP := hide HF.out.put
      go_wp2
      generalize ((w3x.setCell ⟨w.heap.size, 0, none⟩ (.int .i64 lo)).setCell ⟨w.heap.size, 1, none⟩ (.int .i64 hi)).setCell ⟨w.heap.size, 2, none⟩ (.bool sm) = w9 at HP ⊢
      have d0 : w9.cell? ⟨w.heap.size, 0, none⟩ = some (.int .i64 lo) := HP.out.1.cell 0
      have d1 : w9.cell? ⟨w.heap.size, 1, none⟩ = some (.int .i64 hi) := HP.out.1.cell 1
      have d2 : w9.cell? ⟨w.heap.size, 2, none⟩ = some (.bool sm) := HP.out.1.cell 2
      exact bodyPost_ret (v := .agg #[.int .i64 lo, .int .i64 hi, .bool sm]) (by simp [results, Tryz.results106, go_sem, d0, d1, d2]) rfl ⟨by rw [← HRR.out, HR.out, HS.out]; rfl, HP.out.2⟩
  · cases d2 : decide (y1 ≤ x2)
    · have HR : Hid (((if x1 < y2 then [1] else []) ++ (if y1 ≤ x2 then [0] else [])) = ([1] : List Int)) := by
        show _ = _
        simp [of_decide_eq_true d1, of_decide_eq_false d2]
      go_quiet (fail)
      have HQ1 := hide (HN0.out.drewN nq)
      generalize w0.drewN nq = wq1 at HQ1 ⊢
      clear e0 e1 e2 e3
      obtain ⟨e0, e1, e2, e3⟩ := HC.out wq1 HQ1.out.bel
      go_wp2_with fail
      refine (refAdd_any _ _ _ _ HQ1.out.own).mono ?_
      rintro en w2x ⟨rfl, hb', hk'⟩
      have HN2 := hide (HQ1.out.step hb' hk')
      clear hb' hk'
      clear e0 e1 e2 e3
      obtain ⟨e0, e1, e2, e3⟩ := HC.out w2x HN2.out.bel
      go_upto_region 45 with (fail)
      go_quiet (fail)
      have HQ3 := hide (HN2.out.drewN nq)
      generalize w2x.drewN nq = wq3 at HQ3 ⊢
      clear e0 e1 e2 e3
      obtain ⟨e0, e1, e2, e3⟩ := HC.out wq3 HQ3.out.bel
      have HF : Hid (NodeSt w (growL [1]) wq3) := HQ3
      obtain ⟨s, hs⟩ : ∃ s, growL [1] = s := ⟨_, rfl⟩
      rw [hs] at HF
      have HS := hide hs
      clear hs
      obtain ⟨lo, hi, sm⟩ := s
      have c0 : wq3.cell? ⟨w.heap.size + 1, 0, none⟩ = some (.int .i64 lo) := HF.out.own.cell 0
      have c1 : wq3.cell? ⟨w.heap.size + 1, 1, none⟩ = some (.int .i64 hi) := HF.out.own.cell 1
      have c2 : wq3.cell? ⟨w.heap.size + 1, 2, none⟩ = some (.bool sm) := HF.out.own.cell 2
      have r0 : wq3.cell? ⟨w.heap.size, 0, none⟩ = some (.int .i64 0) := HF.out.res.cell 0
      have r1 : wq3.cell? ⟨w.heap.size, 1, none⟩ = some (.int .i64 0) := HF.out.res.cell 1
      have r2 : wq3.cell? ⟨w.heap.size, 2, none⟩ = some (.bool false) := HF.out.res.cell 2
      have f0 := HF.out.res.frozen 0
      have f1 := HF.out.res.frozen 1
      have f2 := HF.out.res.frozen 2
      have HP := hide HF.out.put
      go_wp2
      generalize ((wq3.setCell ⟨w.heap.size, 0, none⟩ (.int .i64 lo)).setCell ⟨w.heap.size, 1, none⟩ (.int .i64 hi)).setCell ⟨w.heap.size, 2, none⟩ (.bool sm) = w9 at HP ⊢
      have d0 : w9.cell? ⟨w.heap.size, 0, none⟩ = some (.int .i64 lo) := HP.out.1.cell 0
      have d1 : w9.cell? ⟨w.heap.size, 1, none⟩ = some (.int .i64 hi) := HP.out.1.cell 1
      have d2 : w9.cell? ⟨w.heap.size, 2, none⟩ = some (.bool sm) := HP.out.1.cell 2
      exact bodyPost_ret (v := .agg #[.int .i64 lo, .int .i64 hi, .bool sm]) (by simp [results, Tryz.results106, go_sem, d0, d1, d2]) rfl ⟨by rw [← HRR.out, HR.out, HS.out]; rfl, HP.out.2⟩
    · have HR : Hid (((if x1 < y2 then [1] else []) ++ (if y1 ≤ x2 then [0] else [])) = ([1, 0] : List Int)) := by
        show _ = _
        simp [of_decide_eq_true d1, of_decide_eq_true d2]
      go_quiet (fail)
      have HQ1 := hide (HN0.out.drewN nq)
      generalize w0.drewN nq = wq1 at HQ1 ⊢
      clear e0 e1 e2 e3
      obtain ⟨e0, e1, e2, e3⟩ := HC.out wq1 HQ1.out.bel
      go_wp2_with fail
      refine (refAdd_any _ _ _ _ HQ1.out.own).mono ?_
      rintro en w2x ⟨rfl, hb', hk'⟩
      have HN2 := hide (HQ1.out.step hb' hk')
      clear hb' hk'
      clear e0 e1 e2 e3
      obtain ⟨e0, e1, e2, e3⟩ := HC.out w2x HN2.out.bel
      go_upto_region 45 with (fail)
      go_quiet (fail)
      have HQ3 := hide (HN2.out.drewN nq)
      generalize w2x.drewN nq = wq3 at HQ3 ⊢
      clear e0 e1 e2 e3
      obtain ⟨e0, e1, e2, e3⟩ := HC.out wq3 HQ3.out.bel
      go_wp2_with fail
      refine (refAdd_any _ _ _ _ HQ3.out.own).mono ?_
      rintro en w4x ⟨rfl, hb', hk'⟩
      have HN4 := hide (HQ3.out.step hb' hk')
      clear hb' hk'
      clear e0 e1 e2 e3
      obtain ⟨e0, e1, e2, e3⟩ := HC.out w4x HN4.out.bel
      have HF : Hid (NodeSt w (growL [1, 0]) w4x) := HN4
      obtain ⟨s, hs⟩ : ∃ s, growL [1, 0] = s := ⟨_, rfl⟩
      rw [hs] at HF
      have HS := hide hs
      clear hs
      obtain ⟨lo, hi, sm⟩ := s
      have c0 : w4x.cell? ⟨w.heap.size + 1, 0, none⟩ = some (.int .i64 lo) := HF.out.own.cell 0
      have c1 : w4x.cell? ⟨w.heap.size + 1, 1, none⟩ = some (.int .i64 hi) := HF.out.own.cell 1
      have c2 : w4x.cell? ⟨w.heap.size + 1, 2, none⟩ = some (.bool sm) := HF.out.own.cell 2
      have r0 : w4x.cell? ⟨w.heap.size, 0, none⟩ = some (.int .i64 0) := HF.out.res.cell 0
      have r1 : w4x.cell? ⟨w.heap.size, 1, none⟩ = some (.int .i64 0) := HF.out.res.cell 1
      have r2 : w4x.cell? ⟨w.heap.size, 2, none⟩ = some (.bool false) := HF.out.res.cell 2
      have f0 := HF.out.res.frozen 0
      have f1 := HF.out.res.frozen 1
      have f2 := HF.out.res.frozen 2
      have HP := hide HF.out.put
      go_wp2
      generalize ((w4x.setCell ⟨w.heap.size, 0, none⟩ (.int .i64 lo)).setCell ⟨w.heap.size, 1, none⟩ (.int .i64 hi)).setCell ⟨w.heap.size, 2, none⟩ (.bool sm) = w9 at HP ⊢
      have d0 : w9.cell? ⟨w.heap.size, 0, none⟩ = some (.int .i64 lo) := HP.out.1.cell 0
      have d1 : w9.cell? ⟨w.heap.size, 1, none⟩ = some (.int .i64 hi) := HP.out.1.cell 1
      have d2 : w9.cell? ⟨w.heap.size, 2, none⟩ = some (.bool sm) := HP.out.1.cell 2
      exact bodyPost_ret (v := .agg #[.int .i64 lo, .int .i64 hi, .bool sm]) (by simp [results, Tryz.results106, go_sem, d0, d1, d2]) rfl ⟨by rw [← HRR.out, HR.out, HS.out]; rfl, HP.out.2⟩
set_option maxHeartbeats 4000000 in
set_option maxRecDepth 20000 in
theorem refNode11 (A : Option Addr) (n c : Nat) (x y : Int × Int) (w : World) (h : RSp w w.heap.size A n [x, y]) (hx : inS x) (hy : inS y) :
    Calls Tryz.prog 106 #[.int .i64 11, .slice A n c] w fun e w' => e = .returned (growV (growL ((if max x.1 y.1 ≤ min x.2 y.2 then [1] else []) ++ (if x.1 ≠ x.2 ∨ y.1 ≠ y.2 ∨ x.1 ≠ y.1 then [0] else [])))) ∧ Below w.heap.size w w' := by
  obtain rfl : 2 = n := h.len
  obtain ⟨b, off, rfl, hb, a0, a1, a2, _, a3⟩ := h.two
  obtain ⟨x1, x2⟩ := x
  obtain ⟨y1, y2⟩ := y
  obtain ⟨⟨p0a, p0b⟩, p0c, p0d⟩ := hx
  obtain ⟨⟨p1a, p1b⟩, p1c, p1d⟩ := hy
  dsimp only at p0a p0b p0c p0d p1a p1b p1c p1d ⊢
  obtain ⟨R, hR⟩ : ∃ R, growL ((if max x1 y1 ≤ min x2 y2 then [1] else []) ++ (if x1 ≠ x2 ∨ y1 ≠ y2 ∨ x1 ≠ y1 then [0] else [])) = R := ⟨_, rfl⟩
  rw [hR]
  have HRR := hide hR
  clear hR
  have HC : Hid (∀ wq : World, Below w.heap.size w wq → wq.cell? ⟨b, off, none⟩ = some (.int .i64 x1) ∧ wq.cell? ⟨b, off + 1, none⟩ = some (.int .i64 x2) ∧ wq.cell? ⟨b, off + 2, none⟩ = some (.int .i64 y1) ∧ wq.cell? ⟨b, off + 3, none⟩ = some (.int .i64 y2)) := hide (fun wq hq => ⟨(hq.cell (p := ⟨b, off, none⟩) hb).trans a0, (hq.cell (p := ⟨b, off + 1, none⟩) hb).trans a1, (hq.cell (p := ⟨b, off + 2, none⟩) hb).trans a2, (hq.cell (p := ⟨b, off + 3, none⟩) hb).trans a3⟩)
  clear a0 a1 a2 a3 h
  have HN0 := hide (NodeSt.start w)
  go_enter Tryz.func106, Tryz.ntmps106
  go_upto_region 48 with (fail)
  generalize (w.alloc (Obj.cells #[.int .i64 0, .int .i64 0, .bool false] 154)).alloc (Obj.cells #[.int .i64 0, .int .i64 0, .bool false] 154) = w0 at HN0 ⊢
  obtain ⟨e0, e1, e2, e3⟩ := HC.out w0 HN0.out.bel
  cases d1 : decide (max x1 y1 ≤ min x2 y2)
  · rcases (show ((x1 != x2) = true) ∨ ((x1 != x2) = false ∧ (y1 != y2) = true) ∨ ((x1 != x2) = false ∧ (y1 != y2) = false ∧ (x1 != y1) = true) ∨ ((x1 != x2) = false ∧ (y1 != y2) = false ∧ (x1 != y1) = false) from by rcases Bool.eq_false_or_eq_true (x1 != x2) with h | h <;> rcases Bool.eq_false_or_eq_true (y1 != y2) with h' | h' <;> rcases Bool.eq_false_or_eq_true (x1 != y1) with h'' | h'' <;> simp [h, h', h'']) with n1 | ⟨n1, n2⟩ | ⟨n1, n2, n3⟩ | ⟨n1, n2, n3⟩
    · have HR : Hid (((if max x1 y1 ≤ min x2 y2 then [1] else []) ++ (if x1 ≠ x2 ∨ y1 ≠ y2 ∨ x1 ≠ y1 then [0] else [])) = ([0] : List Int)) := by
        show _ = _
        rw [if_neg (of_decide_eq_false d1), if_pos (.inl (bne_iff_ne.1 n1))]
        rfl
      go_quiet (fail)
      have HQ1 := hide (HN0.out.drewN nq)
      generalize w0.drewN nq = wq1 at HQ1 ⊢
      clear e0 e1 e2 e3
      obtain ⟨e0, e1, e2, e3⟩ := HC.out wq1 HQ1.out.bel
      go_upto_region 50 with (fail)
      go_quiet (fail)
      have HQ2 := hide (HQ1.out.drewN nq)
      generalize wq1.drewN nq = wq2 at HQ2 ⊢
      clear e0 e1 e2 e3
      obtain ⟨e0, e1, e2, e3⟩ := HC.out wq2 HQ2.out.bel
      go_wp2_with fail
      refine (refAdd_any _ _ _ _ HQ2.out.own).mono ?_
      rintro en w3x ⟨rfl, hb', hk'⟩
      have HN3 := hide (HQ2.out.step hb' hk')
      clear hb' hk'
      clear e0 e1 e2 e3
      obtain ⟨e0, e1, e2, e3⟩ := HC.out w3x HN3.out.bel
      have HF : Hid (NodeSt w (growL [0]) w3x) := HN3
      obtain ⟨s, hs⟩ : ∃ s, growL [0] = s := ⟨_, rfl⟩
      rw [hs] at HF
      have HS := hide hs
      clear hs
      obtain ⟨lo, hi, sm⟩ := s
      have c0 : w3x.cell? ⟨w.heap.size + 1, 0, none⟩ = some (.int .i64 lo) := HF.out.own.cell 0
      have c1 : w3x.cell? ⟨w.heap.size + 1, 1, none⟩ = some (.int .i64 hi) := HF.out.own.cell 1
      have c2 : w3x.cell? ⟨w.heap.size + 1, 2, none⟩ = some (.bool sm) := HF.out.own.cell 2
      have r0 : w3x.cell? ⟨w.heap.size, 0, none⟩ = some (.int .i64 0) := HF.out.res.cell 0
      have r1 : w3x.cell? ⟨w.heap.size, 1, none⟩ = some (.int .i64 0) := HF.out.res.cell 1
      have r2 : w3x.cell? ⟨w.heap.size, 2, none⟩ = some (.bool false) := HF.out.res.cell 2
      have f0 := HF.out.res.frozen 0
      have f1 := HF.out.res.frozen 1
      have f2 := HF.out.res.frozen 2
      have HP := hide HF.out.put
      go_wp2
      generalize ((w3x.setCell ⟨w.heap.size, 0, none⟩ (.int .i64 lo)).setCell ⟨w.heap.size, 1, none⟩ (.int .i64 hi)).setCell ⟨w.heap.size, 2, none⟩ (.bool sm) = w9 at HP ⊢
      have d0 : w9.cell? ⟨w.heap.size, 0, none⟩ = some (.int .i64 lo) := HP.out.1.cell 0
      have d1 : w9.cell? ⟨w.heap.size, 1, none⟩ = some (.int .i64 hi) := HP.out.1.cell 1
      have d2 : w9.cell? ⟨w.heap.size, 2, none⟩ = some (.bool sm) := HP.out.1.cell 2
      exact bodyPost_ret (v := .agg #[.int .i64 lo, .int .i64 hi, .bool sm]) (by simp [results, Tryz.results106, go_sem, d0, d1, d2]) rfl ⟨by rw [← HRR.out, HR.out, HS.out]; rfl, HP.out.2⟩
    · have HR : Hid (((if max x1 y1 ≤ min x2 y2 then [1] else []) ++ (if x1 ≠ x2 ∨ y1 ≠ y2 ∨ x1 ≠ y1 then [0] else [])) = ([0] : List Int)) := by
        show _ = _
        rw [if_neg (of_decide_eq_false d1), if_pos (.inr (.inl (bne_iff_ne.1 n2)))]
        rfl
      go_quiet (fail)
      have HQ1 := hide (HN0.out.drewN nq)
      generalize w0.drewN nq = wq1 at HQ1 ⊢
      clear e0 e1 e2 e3
      obtain ⟨e0, e1, e2, e3⟩ := HC.out wq1 HQ1.out.bel
      go_upto_region 50 with (fail)
      go_quiet (fail)
      have HQ2 := hide (HQ1.out.drewN nq)
      generalize wq1.drewN nq = wq2 at HQ2 ⊢
      clear e0 e1 e2 e3
      obtain ⟨e0, e1, e2, e3⟩ := HC.out wq2 HQ2.out.bel
      go_wp2_with fail
      refine (refAdd_any _ _ _ _ HQ2.out.own).mono ?_
      rintro en w3x ⟨rfl, hb', hk'⟩
      have HN3 := hide (HQ2.out.step hb' hk')
      clear hb' hk'
      clear e0 e1 e2 e3
      obtain ⟨e0, e1, e2, e3⟩ := HC.out w3x HN3.out.bel
      have HF : Hid (NodeSt w (growL [0]) w3x) := HN3
      obtain ⟨s, hs⟩ : ∃ s, growL [0] = s := ⟨_, rfl⟩
      rw [hs] at HF
      have HS := hide hs
      clear hs
      obtain ⟨lo, hi, sm⟩ := s
      have c0 : w3x.cell? ⟨w.heap.size + 1, 0, none⟩ = some (.int .i64 lo) := HF.out.own.cell 0
      have c1 : w3x.cell? ⟨w.heap.size + 1, 1, none⟩ = some (.int .i64 hi) := HF.out.own.cell 1
      have c2 : w3x.cell? ⟨w.heap.size + 1, 2, none⟩ = some (.bool sm) := HF.out.own.cell 2
      have r0 : w3x.cell? ⟨w.heap.size, 0, none⟩ = some (.int .i64 0) := HF.out.res.cell 0
      have r1 : w3x.cell? ⟨w.heap.size, 1, none⟩ = some (.int .i64 0) := HF.out.res.cell 1
      have r2 : w3x.cell? ⟨w.heap.size, 2, none⟩ = some (.bool false) := HF.out.res.cell 2
      have f0 := HF.out.res.frozen 0
      have f1 := HF.out.res.frozen 1
      have f2 := HF.out.res.frozen 2
      have HP := hide HF.out.put
      go_wp2
      generalize ((w3x.setCell ⟨w.heap.size, 0, none⟩ (.int .i64 lo)).setCell ⟨w.heap.size, 1, none⟩ (.int .i64 hi)).setCell ⟨w.heap.size, 2, none⟩ (.bool sm) = w9 at HP ⊢
      have d0 : w9.cell? ⟨w.heap.size, 0, none⟩ = some (.int .i64 lo) := HP.out.1.cell 0
      have d1 : w9.cell? ⟨w.heap.size, 1, none⟩ = some (.int .i64 hi) := HP.out.1.cell 1
      have d2 : w9.cell? ⟨w.heap.size, 2, none⟩ = some (.bool sm) := HP.out.1.cell 2
      exact bodyPost_ret (v := .agg #[.int .i64 lo, .int .i64 hi, .bool sm]) (by simp [results, Tryz.results106, go_sem, d0, d1, d2]) rfl ⟨by rw [← HRR.out, HR.out, HS.out]; rfl, HP.out.2⟩
    · have HR : Hid (((if max x1 y1 ≤ min x2 y2 then [1] else []) ++ (if x1 ≠ x2 ∨ y1 ≠ y2 ∨ x1 ≠ y1 then [0] else [])) = ([0] : List Int)) := by
        show _ = _
        rw [if_neg (of_decide_eq_false d1), if_pos (.inr (.inr (bne_iff_ne.1 n3)))]
        rfl
      go_quiet (fail)
      have HQ1 := hide (HN0.out.drewN nq)
      generalize w0.drewN nq = wq1 at HQ1 ⊢
      clear e0 e1 e2 e3
      obtain ⟨e0, e1, e2, e3⟩ := HC.out wq1 HQ1.out.bel
      go_upto_region 50 with (fail)
      go_quiet (fail)
      have HQ2 := hide (HQ1.out.drewN nq)
      generalize wq1.drewN nq = wq2 at HQ2 ⊢
      clear e0 e1 e2 e3
      obtain ⟨e0, e1, e2, e3⟩ := HC.out wq2 HQ2.out.bel
      go_wp2_with fail
      refine (refAdd_any _ _ _ _ HQ2.out.own).mono ?_
      rintro en w3x ⟨rfl, hb', hk'⟩
      have HN3 := hide (HQ2.out.step hb' hk')
      clear hb' hk'
      clear e0 e1 e2 e3
      obtain ⟨e0, e1, e2, e3⟩ := HC.out w3x HN3.out.bel
      have HF : Hid (NodeSt w (growL [0]) w3x) := HN3
      obtain ⟨s, hs⟩ : ∃ s, growL [0] = s := ⟨_, rfl⟩
      rw [hs] at HF
      have HS := hide hs
      clear hs
      obtain ⟨lo, hi, sm⟩ := s
      have c0 : w3x.cell? ⟨w.heap.size + 1, 0, none⟩ = some (.int .i64 lo) := HF.out.own.cell 0
      have c1 : w3x.cell? ⟨w.heap.size + 1, 1, none⟩ = some (.int .i64 hi) := HF.out.own.cell 1
      have c2 : w3x.cell? ⟨w.heap.size + 1, 2, none⟩ = some (.bool sm) := HF.out.own.cell 2
      have r0 : w3x.cell? ⟨w.heap.size, 0, none⟩ = some (.int .i64 0) := HF.out.res.cell 0
      have r1 : w3x.cell? ⟨w.heap.size, 1, none⟩ = some (.int .i64 0) := HF.out.res.cell 1
      have r2 : w3x.cell? ⟨w.heap.size, 2, none⟩ = some (.bool false) := HF.out.res.cell 2
      have f0 := HF.out.res.frozen 0
      have f1 := HF.out.res.frozen 1
      have f2 := HF.out.res.frozen 2
      have HP := hide HF.out.put
      go_wp2
      generalize ((w3x.setCell ⟨w.heap.size, 0, none⟩ (.int .i64 lo)).setCell ⟨w.heap.size, 1, none⟩ (.int .i64 hi)).setCell ⟨w.heap.size, 2, none⟩ (.bool sm) = w9 at HP ⊢
      have d0 : w9.cell? ⟨w.heap.size, 0, none⟩ = some (.int .i64 lo) := HP.out.1.cell 0
      have d1 : w9.cell? ⟨w.heap.size, 1, none⟩ = some (.int .i64 hi) := HP.out.1.cell 1
      have d2 : w9.cell? ⟨w.heap.size, 2, none⟩ = some (.bool sm) := HP.out.1.cell 2
      exact bodyPost_ret (v := .agg #[.int .i64 lo, .int .i64 hi, .bool sm]) (by simp [results, Tryz.results106, go_sem, d0, d1, d2]) rfl ⟨by rw [← HRR.out, HR.out, HS.out]; rfl, HP.out.2⟩
    · have HR : Hid (((if max x1 y1 ≤ min x2 y2 then [1] else []) ++ (if x1 ≠ x2 ∨ y1 ≠ y2 ∨ x1 ≠ y1 then [0] else [])) = ([] : List Int)) := by
        show _ = _
        rw [if_neg (of_decide_eq_false d1), if_neg (fun h => h.elim (fun h => h (bne_eq_false_iff_eq.1 n1)) (fun h => h.elim (fun h => h (bne_eq_false_iff_eq.1 n2)) (fun h => h (bne_eq_false_iff_eq.1 n3))))]
        rfl
      go_quiet (fail)
      have HQ1 := hide (HN0.out.drewN nq)
      generalize w0.drewN nq = wq1 at HQ1 ⊢
      clear e0 e1 e2 e3
      obtain ⟨e0, e1, e2, e3⟩ := HC.out wq1 HQ1.out.bel
      go_upto_region 50 with (fail)
      go_quiet (fail)
      have HQ2 := hide (HQ1.out.drewN nq)
      generalize wq1.drewN nq = wq2 at HQ2 ⊢
      clear e0 e1 e2 e3
      obtain ⟨e0, e1, e2, e3⟩ := HC.out wq2 HQ2.out.bel
      have HF : Hid (NodeSt w (growL []) wq2) := HQ2
      obtain ⟨s, hs⟩ : ∃ s, growL [] = s := ⟨_, rfl⟩
      rw [hs] at HF
      have HS := hide hs
      clear hs
      obtain ⟨lo, hi, sm⟩ := s
      have c0 : wq2.cell? ⟨w.heap.size + 1, 0, none⟩ = some (.int .i64 lo) := HF.out.own.cell 0
      have c1 : wq2.cell? ⟨w.heap.size + 1, 1, none⟩ = some (.int .i64 hi) := HF.out.own.cell 1
      have c2 : wq2.cell? ⟨w.heap.size + 1, 2, none⟩ = some (.bool sm) := HF.out.own.cell 2
      have r0 : wq2.cell? ⟨w.heap.size, 0, none⟩ = some (.int .i64 0) := HF.out.res.cell 0
      have r1 : wq2.cell? ⟨w.heap.size, 1, none⟩ = some (.int .i64 0) := HF.out.res.cell 1
      have r2 : wq2.cell? ⟨w.heap.size, 2, none⟩ = some (.bool false) := HF.out.res.cell 2
      have f0 := HF.out.res.frozen 0
      have f1 := HF.out.res.frozen 1
      have f2 := HF.out.res.frozen 2
      have HP := hide HF.out.put
      go_wp2
      generalize ((wq2.setCell ⟨w.heap.size, 0, none⟩ (.int .i64 lo)).setCell ⟨w.heap.size, 1, none⟩ (.int .i64 hi)).setCell ⟨w.heap.size, 2, none⟩ (.bool sm) = w9 at HP ⊢
      have d0 : w9.cell? ⟨w.heap.size, 0, none⟩ = some (.int .i64 lo) := HP.out.1.cell 0
      have d1 : w9.cell? ⟨w.heap.size, 1, none⟩ = some (.int .i64 hi) := HP.out.1.cell 1
      have d2 : w9.cell? ⟨w.heap.size, 2, none⟩ = some (.bool sm) := HP.out.1.cell 2
      exact bodyPost_ret (v := .agg #[.int .i64 lo, .int .i64 hi, .bool sm]) (by simp [results, Tryz.results106, go_sem, d0, d1, d2]) rfl ⟨by rw [← HRR.out, HR.out, HS.out]; rfl, HP.out.2⟩
  · rcases (show ((x1 != x2) = true) ∨ ((x1 != x2) = false ∧ (y1 != y2) = true) ∨ ((x1 != x2) = false ∧ (y1 != y2) = false ∧ (x1 != y1) = true) ∨ ((x1 != x2) = false ∧ (y1 != y2) = false ∧ (x1 != y1) = false) from by rcases Bool.eq_false_or_eq_true (x1 != x2) with h | h <;> rcases Bool.eq_false_or_eq_true (y1 != y2) with h' | h' <;> rcases Bool.eq_false_or_eq_true (x1 != y1) with h'' | h'' <;> simp [h, h', h'']) with n1 | ⟨n1, n2⟩ | ⟨n1, n2, n3⟩ | ⟨n1, n2, n3⟩
    · have HR : Hid (((if max x1 y1 ≤ min x2 y2 then [1] else []) ++ (if x1 ≠ x2 ∨ y1 ≠ y2 ∨ x1 ≠ y1 then [0] else [])) = ([1, 0] : List Int)) := by
        show _ = _
        rw [if_pos (of_decide_eq_true d1), if_pos (.inl (bne_iff_ne.1 n1))]
        rfl
      go_quiet (fail)
      have HQ1 := hide (HN0.out.drewN nq)
      generalize w0.drewN nq = wq1 at HQ1 ⊢
      clear e0 e1 e2 e3
      obtain ⟨e0, e1, e2, e3⟩ := HC.out wq1 HQ1.out.bel
      go_wp2_with fail
      refine (refAdd_any _ _ _ _ HQ1.out.own).mono ?_
      rintro en w2x ⟨rfl, hb', hk'⟩
      have HN2 := hide (HQ1.out.step hb' hk')
      clear hb' hk'
      clear e0 e1 e2 e3
      obtain ⟨e0, e1, e2, e3⟩ := HC.out w2x HN2.out.bel
      go_upto_region 50 with (fail)
      go_quiet (fail)
      have HQ3 := hide (HN2.out.drewN nq)
      generalize w2x.drewN nq = wq3 at HQ3 ⊢
      clear e0 e1 e2 e3
      obtain ⟨e0, e1, e2, e3⟩ := HC.out wq3 HQ3.out.bel
      go_wp2_with fail
      refine (refAdd_any _ _ _ _ HQ3.out.own).mono ?_
      rintro en w4x ⟨rfl, hb', hk'⟩
      have HN4 := hide (HQ3.out.step hb' hk')
      clear hb' hk'
      clear e0 e1 e2 e3
      obtain ⟨e0, e1, e2, e3⟩ := HC.out w4x HN4.out.bel
      have HF : Hid (NodeSt w (growL [1, 0]) w4x) := HN4
      obtain ⟨s, hs⟩ : ∃ s, growL [1, 0] = s := ⟨_, rfl⟩
      rw [hs] at HF
      have HS := hide hs
      clear hs
      obtain ⟨lo, hi, sm⟩ := s
      have c0 : w4x.cell? ⟨w.heap.size + 1, 0, none⟩ = some (.int .i64 lo) := HF.out.own.cell 0
      have c1 : w4x.cell? ⟨w.heap.size + 1, 1, none⟩ = some (.int .i64 hi) := HF.out.own.cell 1
      have c2 : w4x.cell? ⟨w.heap.size + 1, 2, none⟩ = some (.bool sm) := HF.out.own.cell 2
      have r0 : w4x.cell? ⟨w.heap.size, 0, none⟩ = some (.int .i64 0) := HF.out.res.cell 0
      have r1 : w4x.cell? ⟨w.heap.size, 1, none⟩ = some (.int .i64 0) := HF.out.res.cell 1
      have r2 : w4x.cell? ⟨w.heap.size, 2, none⟩ = some (.bool false) := HF.out.res.cell 2
      have f0 := HF.out.res.frozen 0
      have f1 := HF.out.res.frozen 1
      have f2 := HF.out.res.frozen 2
      have HP := hide HF.out.put
      go_wp2
      generalize ((w4x.setCell ⟨w.heap.size, 0, none⟩ (.int .i64 lo)).setCell ⟨w.heap.size, 1, none⟩ (.int .i64 hi)).setCell ⟨w.heap.size, 2, none⟩ (.bool sm) = w9 at HP ⊢
      have d0 : w9.cell? ⟨w.heap.size, 0, none⟩ = some (.int .i64 lo) := HP.out.1.cell 0
      have d1 : w9.cell? ⟨w.heap.size, 1, none⟩ = some (.int .i64 hi) := HP.out.1.cell 1
      have d2 : w9.cell? ⟨w.heap.size, 2, none⟩ = some (.bool sm) := HP.out.1.cell 2
      exact bodyPost_ret (v := .agg #[.int .i64 lo, .int .i64 hi, .bool sm]) (by simp [results, Tryz.results106, go_sem, d0, d1, d2]) rfl ⟨by rw [← HRR.out, HR.out, HS.out]; rfl, HP.out.2⟩
    · have HR : Hid (((if max x1 y1 ≤ min x2 y2 then [1] else []) ++ (if x1 ≠ x2 ∨ y1 ≠ y2 ∨ x1 ≠ y1 then [0] else [])) = ([1, 0] : List Int)) := by
        show _ = _
        rw [if_pos (of_decide_eq_true d1), if_pos (.inr (.inl (bne_iff_ne.1 n2)))]
        rfl
      go_quiet (fail)
      have HQ1 := hide (HN0.out.drewN nq)
      generalize w0.drewN nq = wq1 at HQ1 ⊢
      clear e0 e1 e2 e3
      obtain ⟨e0, e1, e2, e3⟩ := HC.out wq1 HQ1.out.bel
      go_wp2_with fail
      refine (refAdd_any _ _ _ _ HQ1.out.own).mono ?_
      rintro en w2x ⟨rfl, hb', hk'⟩
      have HN2 := hide (HQ1.out.step hb' hk')
      clear hb' hk'
      clear e0 e1 e2 e3
      obtain ⟨e0, e1, e2, e3⟩ := HC.out w2x HN2.out.bel
      go_upto_region 50 with (fail)
      go_quiet (fail)
      have HQ3 := hide (HN2.out.drewN nq)
      generalize w2x.drewN nq = wq3 at HQ3 ⊢
      clear e0 e1 e2 e3
      obtain ⟨e0, e1, e2, e3⟩ := HC.out wq3 HQ3.out.bel
      go_wp2_with fail
      refine (refAdd_any _ _ _ _ HQ3.out.own).mono ?_
      rintro en w4x ⟨rfl, hb', hk'⟩
      have HN4 := hide (HQ3.out.step hb' hk')
      clear hb' hk'
      clear e0 e1 e2 e3
      obtain ⟨e0, e1, e2, e3⟩ := HC.out w4x HN4.out.bel
      have HF : Hid (NodeSt w (growL [1, 0]) w4x) := HN4
      obtain ⟨s, hs⟩ : ∃ s, growL [1, 0] = s := ⟨_, rfl⟩
      rw [hs] at HF
      have HS := hide hs
      clear hs
      obtain ⟨lo, hi, sm⟩ := s
      have c0 : w4x.cell? ⟨w.heap.size + 1, 0, none⟩ = some (.int .i64 lo) := HF.out.own.cell 0
      have c1 : w4x.cell? ⟨w.heap.size + 1, 1, none⟩ = some (.int .i64 hi) := HF.out.own.cell 1
      have c2 : w4x.cell? ⟨w.heap.size + 1, 2, none⟩ = some (.bool sm) := HF.out.own.cell 2
      have r0 : w4x.cell? ⟨w.heap.size, 0, none⟩ = some (.int .i64 0) := HF.out.res.cell 0
      have r1 : w4x.cell? ⟨w.heap.size, 1, none⟩ = some (.int .i64 0) := HF.out.res.cell 1
      have r2 : w4x.cell? ⟨w.heap.size, 2, none⟩ = some (.bool false) := HF.out.res.cell 2
      have f0 := HF.out.res.frozen 0
      have f1 := HF.out.res.frozen 1
      have f2 := HF.out.res.frozen 2
      have HP := hide HF.out.put
      go_wp2
      generalize ((w4x.setCell ⟨w.heap.size, 0, none⟩ (.int .i64 lo)).setCell ⟨w.heap.size, 1, none⟩ (.int .i64 hi)).setCell ⟨w.heap.size, 2, none⟩ (.bool sm) = w9 at HP ⊢
      have d0 : w9.cell? ⟨w.heap.size, 0, none⟩ = some (.int .i64 lo) := HP.out.1.cell 0
      have d1 : w9.cell? ⟨w.heap.size, 1, none⟩ = some (.int .i64 hi) := HP.out.1.cell 1
      have d2 : w9.cell? ⟨w.heap.size, 2, none⟩ = some (.bool sm) := HP.out.1.cell 2
      exact bodyPost_ret (v := .agg #[.int .i64 lo, .int .i64 hi, .bool sm]) (by simp [results, Tryz.results106, go_sem, d0, d1, d2]) rfl ⟨by rw [← HRR.out, HR.out, HS.out]; rfl, HP.out.2⟩
    · have HR : Hid (((if max x1 y1 ≤ min x2 y2 then [1] else []) ++ (if x1 ≠ x2 ∨ y1 ≠ y2 ∨ x1 ≠ y1 then [0] else [])) = ([1, 0] : List Int)) := by
        show _ = _
        rw [if_pos (of_decide_eq_true d1), if_pos (.inr (.inr (bne_iff_ne.1 n3)))]
        rfl
      go_quiet (fail)
      have HQ1 := hide (HN0.out.drewN nq)
      generalize w0.drewN nq = wq1 at HQ1 ⊢
      clear e0 e1 e2 e3
      obtain ⟨e0, e1, e2, e3⟩ := HC.out wq1 HQ1.out.bel
      go_wp2_with fail
      refine (refAdd_any _ _ _ _ HQ1.out.own).mono ?_
      rintro en w2x ⟨rfl, hb', hk'⟩
      have HN2 := hide (HQ1.out.step hb' hk')
      clear hb' hk'
      clear e0 e1 e2 e3
      obtain ⟨e0, e1, e2, e3⟩ := HC.out w2x HN2.out.bel
      go_upto_region 50 with (fail)
      go_quiet (fail)
      have HQ3 := hide (HN2.out.drewN nq)
      generalize w2x.drewN nq = wq3 at HQ3 ⊢
      clear e0 e1 e2 e3
      obtain ⟨e0, e1, e2, e3⟩ := HC.out wq3 HQ3.out.bel
      go_wp2_with fail
      refine (refAdd_any _ _ _ _ HQ3.out.own).mono ?_
      rintro en w4x ⟨rfl, hb', hk'⟩
      have HN4 := hide (HQ3.out.step hb' hk')
      clear hb' hk'
      clear e0 e1 e2 e3
      obtain ⟨e0, e1, e2, e3⟩ := HC.out w4x HN4.out.bel
      have HF : Hid (NodeSt w (growL [1, 0]) w4x) := HN4
      obtain ⟨s, hs⟩ : ∃ s, growL [1, 0] = s := ⟨_, rfl⟩
      rw [hs] at HF
      have HS := hide hs
      clear hs
      obtain ⟨lo, hi, sm⟩ := s
      have c0 : w4x.cell? ⟨w.heap.size + 1, 0, none⟩ = some (.int .i64 lo) := HF.out.own.cell 0
      have c1 : w4x.cell? ⟨w.heap.size + 1, 1, none⟩ = some (.int .i64 hi) := HF.out.own.cell 1
      have c2 : w4x.cell? ⟨w.heap.size + 1, 2, none⟩ = some (.bool sm) := HF.out.own.cell 2
      have r0 : w4x.cell? ⟨w.heap.size, 0, none⟩ = some (.int .i64 0) := HF.out.res.cell 0
      have r1 : w4x.cell? ⟨w.heap.size, 1, none⟩ = some (.int .i64 0) := HF.out.res.cell 1
      have r2 : w4x.cell? ⟨w.heap.size, 2, none⟩ = some (.bool false) := HF.out.res.cell 2
      have f0 := HF.out.res.frozen 0
      have f1 := HF.out.res.frozen 1
      have f2 := HF.out.res.frozen 2
      have HP := hide HF.out.put
      go_wp2
      generalize ((w4x.setCell ⟨w.heap.size, 0, none⟩ (.int .i64 lo)).setCell ⟨w.heap.size, 1, none⟩ (.int .i64 hi)).setCell ⟨w.heap.size, 2, none⟩ (.bool sm) = w9 at HP ⊢
      have d0 : w9.cell? ⟨w.heap.size, 0, none⟩ = some (.int .i64 lo) := HP.out.1.cell 0
      have d1 : w9.cell? ⟨w.heap.size, 1, none⟩ = some (.int .i64 hi) := HP.out.1.cell 1
      have d2 : w9.cell? ⟨w.heap.size, 2, none⟩ = some (.bool sm) := HP.out.1.cell 2
      exact bodyPost_ret (v := .agg #[.int .i64 lo, .int .i64 hi, .bool sm]) (by simp [results, Tryz.results106, go_sem, d0, d1, d2]) rfl ⟨by rw [← HRR.out, HR.out, HS.out]; rfl, HP.out.2⟩
    · have HR : Hid (((if max x1 y1 ≤ min x2 y2 then [1] else []) ++ (if x1 ≠ x2 ∨ y1 ≠ y2 ∨ x1 ≠ y1 then [0] else [])) = ([1] : List Int)) := by
        show _ = _
        rw [if_pos (of_decide_eq_true d1), if_neg (fun h => h.elim (fun h => h (bne_eq_false_iff_eq.1 n1)) (fun h => h.elim (fun h => h (bne_eq_false_iff_eq.1 n2)) (fun h => h (bne_eq_false_iff_eq.1 n3))))]
        rfl
      go_quiet (fail)
      have HQ1 := hide (HN0.out.drewN nq)
      generalize w0.drewN nq = wq1 at HQ1 ⊢
      clear e0 e1 e2 e3
      obtain ⟨e0, e1, e2, e3⟩ := HC.out wq1 HQ1.out.bel
      go_wp2_with fail
      refine (refAdd_any _ _ _ _ HQ1.out.own).mono ?_
      rintro en w2x ⟨rfl, hb', hk'⟩
      have HN2 := hide (HQ1.out.step hb' hk')
      clear hb' hk'
      clear e0 e1 e2 e3
      obtain ⟨e0, e1, e2, e3⟩ := HC.out w2x HN2.out.bel
      go_upto_region 50 with (fail)
      go_quiet (fail)
      have HQ3 := hide (HN2.out.drewN nq)
      generalize w2x.drewN nq = wq3 at HQ3 ⊢
      clear e0 e1 e2 e3
      obtain ⟨e0, e1, e2, e3⟩ := HC.out wq3 HQ3.out.bel
      have HF : Hid (NodeSt w (growL [1]) wq3) := HQ3
      obtain ⟨s, hs⟩ : ∃ s, growL [1] = s := ⟨_, rfl⟩
      rw [hs] at HF
      have HS := hide hs
      clear hs
      obtain ⟨lo, hi, sm⟩ := s
      have c0 : wq3.cell? ⟨w.heap.size + 1, 0, none⟩ = some (.int .i64 lo) := HF.out.own.cell 0
      have c1 : wq3.cell? ⟨w.heap.size + 1, 1, none⟩ = some (.int .i64 hi) := HF.out.own.cell 1
      have c2 : wq3.cell? ⟨w.heap.size + 1, 2, none⟩ = some (.bool sm) := HF.out.own.cell 2
      have r0 : wq3.cell? ⟨w.heap.size, 0, none⟩ = some (.int .i64 0) := HF.out.res.cell 0
      have r1 : wq3.cell? ⟨w.heap.size, 1, none⟩ = some (.int .i64 0) := HF.out.res.cell 1
      have r2 : wq3.cell? ⟨w.heap.size, 2, none⟩ = some (.bool false) := HF.out.res.cell 2
      have f0 := HF.out.res.frozen 0
      have f1 := HF.out.res.frozen 1
      have f2 := HF.out.res.frozen 2
      have HP := hide HF.out.put
      go_wp2
      generalize ((wq3.setCell ⟨w.heap.size, 0, none⟩ (.int .i64 lo)).setCell ⟨w.heap.size, 1, none⟩ (.int .i64 hi)).setCell ⟨w.heap.size, 2, none⟩ (.bool sm) = w9 at HP ⊢
      have d0 : w9.cell? ⟨w.heap.size, 0, none⟩ = some (.int .i64 lo) := HP.out.1.cell 0
      have d1 : w9.cell? ⟨w.heap.size, 1, none⟩ = some (.int .i64 hi) := HP.out.1.cell 1
      have d2 : w9.cell? ⟨w.heap.size, 2, none⟩ = some (.bool sm) := HP.out.1.cell 2
      exact bodyPost_ret (v := .agg #[.int .i64 lo, .int .i64 hi, .bool sm]) (by simp [results, Tryz.results106, go_sem, d0, d1, d2]) rfl ⟨by rw [← HRR.out, HR.out, HS.out]; rfl, HP.out.2⟩
end Go.Proofs.YtkomgidcgepknaaGreatDoor

/-
  The reference of chapter 22: the bounds of a node: products, quotients.
-/
set_option linter.unusedVariables false
set_option linter.unusedSimpArgs false
namespace Go.Proofs.YtkomgidcgepknaaGreatDoor
open Go.RowKit Go.Deep

set_option maxHeartbeats 4000000 in
set_option maxRecDepth 20000 in
theorem refNode5 (A : Option Addr) (n c : Nat) (x y : Int × Int) (w : World) (h : RSp w w.heap.size A n [x, y]) (hx : inS x) (hy : inS y) :
    Calls Tryz.prog 106 #[.int .i64 5, .slice A n c] w fun e w' => e = .returned (growV (growL [mulR x.1 y.1, mulR x.2 y.1, mulR x.1 y.2, mulR x.2 y.2])) ∧ Below w.heap.size w w' := by
  obtain rfl : 2 = n := h.len
  obtain ⟨b, off, rfl, hb, a0, a1, a2, _, a3⟩ := h.two
  obtain ⟨x1, x2⟩ := x
  obtain ⟨y1, y2⟩ := y
  obtain ⟨⟨p0a, p0b⟩, p0c, p0d⟩ := hx
  obtain ⟨⟨p1a, p1b⟩, p1c, p1d⟩ := hy
  dsimp only at p0a p0b p0c p0d p1a p1b p1c p1d ⊢
  obtain ⟨R, hR⟩ : ∃ R, growL [mulR x1 y1, mulR x2 y1, mulR x1 y2, mulR x2 y2] = R := ⟨_, rfl⟩
  rw [hR]
  have HRR := hide hR
  clear hR
  have HC : Hid (∀ wq : World, Below w.heap.size w wq → wq.cell? ⟨b, off, none⟩ = some (.int .i64 x1) ∧ wq.cell? ⟨b, off + 1, none⟩ = some (.int .i64 x2) ∧ wq.cell? ⟨b, off + 2, none⟩ = some (.int .i64 y1) ∧ wq.cell? ⟨b, off + 3, none⟩ = some (.int .i64 y2)) := hide (fun wq hq => ⟨(hq.cell (p := ⟨b, off, none⟩) hb).trans a0, (hq.cell (p := ⟨b, off + 1, none⟩) hb).trans a1, (hq.cell (p := ⟨b, off + 2, none⟩) hb).trans a2, (hq.cell (p := ⟨b, off + 3, none⟩) hb).trans a3⟩)
  clear a0 a1 a2 a3 h
  have HN0 := hide (NodeSt.start w)
  go_enter Tryz.func106, Tryz.ntmps106
  go_upto_region 14 with (fail)
  generalize (w.alloc (Obj.cells #[.int .i64 0, .int .i64 0, .bool false] 154)).alloc (Obj.cells #[.int .i64 0, .int .i64 0, .bool false] 154) = w0 at HN0 ⊢
  obtain ⟨e0, e1, e2, e3⟩ := HC.out w0 HN0.out.bel
  clear e0 e1 e2 e3
  go_loopw [6] (fun i wr => ∃ k : Nat, k ≤ 4 ∧ i = .int .i64 k ∧ NodeSt w (growL ([mulR x1 y1, mulR x2 y1, mulR x1 y2, mulR x2 y2].take k)) wr) (fun i _ => 4 - (intOf i).toNat)
  case atStart => exact ⟨0, by omega, rfl, HN0.out⟩
  case round =>
    obtain ⟨k, hk, rfl, hst⟩ := hrel
    have HN0 := hide hst
    clear hst
    rcases (show k = 0 ∨ k = 1 ∨ k = 2 ∨ k = 3 ∨ k = 4 by omega) with rfl | rfl | rfl | rfl | rfl
    · have hk0 : ((0 : Nat) : Int) = 0 := rfl
      rw [hk0]
      clear hk0
      obtain ⟨e0, e1, e2, e3⟩ := HC.out wr HN0.out.bel
      go_upto_region 16 with (fail)
      have hwk : IntKind.i64.wrap 0 = 0 := by decide
      go_still_tail 13, (by kernel_rfl)
      still_call (refMul_still x1 y1 _ (by constructor <;> assumption) (by constructor <;> assumption))
      refine wpStill_nil ?_
      change wpList _ _ _ _ _ wr.drew
      have HD1 := hide HN0.out.drew
      generalize wr.drew = wd1 at HD1 ⊢
      clear e0 e1 e2 e3
      obtain ⟨e0, e1, e2, e3⟩ := HC.out wd1 HD1.out.bel
      go_wp2_with fail
      refine (refAdd_any _ _ _ _ HD1.out.own).mono ?_
      rintro en w2x ⟨rfl, hb', hk'⟩
      have HN2 := hide (HD1.out.step hb' hk')
      clear hb' hk'
      clear e0 e1 e2 e3
      obtain ⟨e0, e1, e2, e3⟩ := HC.out w2x HN2.out.bel
      go_wp2
      go_roundw
      case rel => exact ⟨1, by omega, by go_num, HN2.out⟩
      case measure => simp [intOf]
    · have hk0 : ((1 : Nat) : Int) = 1 := rfl
      rw [hk0]
      clear hk0
      obtain ⟨e0, e1, e2, e3⟩ := HC.out wr HN0.out.bel
      go_upto_region 16 with (fail)
      have hwk : IntKind.i64.wrap 0 = 0 := by decide
      go_still_tail 13, (by kernel_rfl)
      still_call (refMul_still x2 y1 _ (by constructor <;> assumption) (by constructor <;> assumption))
      refine wpStill_nil ?_
      change wpList _ _ _ _ _ wr.drew
      have HD1 := hide HN0.out.drew
      generalize wr.drew = wd1 at HD1 ⊢
      clear e0 e1 e2 e3
      obtain ⟨e0, e1, e2, e3⟩ := HC.out wd1 HD1.out.bel
      go_wp2_with fail
      refine (refAdd_any _ _ _ _ HD1.out.own).mono ?_
      rintro en w2x ⟨rfl, hb', hk'⟩
      have HN2 := hide (HD1.out.step hb' hk')
      clear hb' hk'
      clear e0 e1 e2 e3
      obtain ⟨e0, e1, e2, e3⟩ := HC.out w2x HN2.out.bel
      go_wp2
      go_roundw
      case rel => exact ⟨2, by omega, by go_num, HN2.out⟩
      case measure => simp [intOf]
    · have hk0 : ((2 : Nat) : Int) = 2 := rfl
      rw [hk0]
      clear hk0
      obtain ⟨e0, e1, e2, e3⟩ := HC.out wr HN0.out.bel
      go_upto_region 16 with (fail)
      have hwk : IntKind.i64.wrap 1 = 1 := by decide
      go_still_tail 13, (by kernel_rfl)
      still_call (refMul_still x1 y2 _ (by constructor <;> assumption) (by constructor <;> assumption))
      refine wpStill_nil ?_
      change wpList _ _ _ _ _ wr.drew
      have HD1 := hide HN0.out.drew
      generalize wr.drew = wd1 at HD1 ⊢
      clear e0 e1 e2 e3
      obtain ⟨e0, e1, e2, e3⟩ := HC.out wd1 HD1.out.bel
      go_wp2_with fail
      refine (refAdd_any _ _ _ _ HD1.out.own).mono ?_
      rintro en w2x ⟨rfl, hb', hk'⟩
      have HN2 := hide (HD1.out.step hb' hk')
      clear hb' hk'
      clear e0 e1 e2 e3
      obtain ⟨e0, e1, e2, e3⟩ := HC.out w2x HN2.out.bel
      go_wp2
      go_roundw
      case rel => exact ⟨3, by omega, by go_num, HN2.out⟩
      case measure => simp [intOf]
    · have hk0 : ((3 : Nat) : Int) = 3 := rfl
      rw [hk0]
      clear hk0
      obtain ⟨e0, e1, e2, e3⟩ := HC.out wr HN0.out.bel
      go_upto_region 16 with (fail)
      have hwk : IntKind.i64.wrap 1 = 1 := by decide
      go_still_tail 13, (by kernel_rfl)
      still_call (refMul_still x2 y2 _ (by constructor <;> assumption) (by constructor <;> assumption))
      refine wpStill_nil ?_
      change wpList _ _ _ _ _ wr.drew
      have HD1 := hide HN0.out.drew
      generalize wr.drew = wd1 at HD1 ⊢
      clear e0 e1 e2 e3
      obtain ⟨e0, e1, e2, e3⟩ := HC.out wd1 HD1.out.bel
      go_wp2_with fail
      refine (refAdd_any _ _ _ _ HD1.out.own).mono ?_
      rintro en w2x ⟨rfl, hb', hk'⟩
      have HN2 := hide (HD1.out.step hb' hk')
      clear hb' hk'
      clear e0 e1 e2 e3
      obtain ⟨e0, e1, e2, e3⟩ := HC.out w2x HN2.out.bel
      go_wp2
      go_roundw
      case rel => exact ⟨4, by omega, by go_num, HN2.out⟩
      case measure => simp [intOf]
    · have hk0 : ((4 : Nat) : Int) = 4 := rfl
      rw [hk0]
      clear hk0
      obtain ⟨e0, e1, e2, e3⟩ := HC.out wr HN0.out.bel
      have HF : Hid (NodeSt w (growL [mulR x1 y1, mulR x2 y1, mulR x1 y2, mulR x2 y2]) wr) := HN0
      obtain ⟨s, hs⟩ : ∃ s, growL [mulR x1 y1, mulR x2 y1, mulR x1 y2, mulR x2 y2] = s := ⟨_, rfl⟩
      rw [hs] at HF
      have HS := hide hs
      clear hs
      obtain ⟨lo, hi, sm⟩ := s
      have c0 : wr.cell? ⟨w.heap.size + 1, 0, none⟩ = some (.int .i64 lo) := HF.out.own.cell 0
      have c1 : wr.cell? ⟨w.heap.size + 1, 1, none⟩ = some (.int .i64 hi) := HF.out.own.cell 1
      have c2 : wr.cell? ⟨w.heap.size + 1, 2, none⟩ = some (.bool sm) := HF.out.own.cell 2
      have r0 : wr.cell? ⟨w.heap.size, 0, none⟩ = some (.int .i64 0) := HF.out.res.cell 0
      have r1 : wr.cell? ⟨w.heap.size, 1, none⟩ = some (.int .i64 0) := HF.out.res.cell 1
      have r2 : wr.cell? ⟨w.heap.size, 2, none⟩ = some (.bool false) := HF.out.res.cell 2
      have f0 := HF.out.res.frozen 0
      have f1 := HF.out.res.frozen 1
      have f2 := HF.out.res.frozen 2
      have HP := hide HF.out.put
      go_wp2
      generalize ((wr.setCell ⟨w.heap.size, 0, none⟩ (.int .i64 lo)).setCell ⟨w.heap.size, 1, none⟩ (.int .i64 hi)).setCell ⟨w.heap.size, 2, none⟩ (.bool sm) = w9 at HP ⊢
      have d0 : w9.cell? ⟨w.heap.size, 0, none⟩ = some (.int .i64 lo) := HP.out.1.cell 0
      have d1 : w9.cell? ⟨w.heap.size, 1, none⟩ = some (.int .i64 hi) := HP.out.1.cell 1
      have d2 : w9.cell? ⟨w.heap.size, 2, none⟩ = some (.bool sm) := HP.out.1.cell 2
      exact bodyPost_ret (v := .agg #[.int .i64 lo, .int .i64 hi, .bool sm]) (by simp [results, Tryz.results106, go_sem, d0, d1, d2]) rfl ⟨by rw [← HRR.out, HS.out]; rfl, HP.out.2⟩
set_option maxHeartbeats 4000000 in
set_option maxRecDepth 20000 in
theorem refNode6 (A : Option Addr) (n c : Nat) (x y : Int × Int) (w : World) (h : RSp w w.heap.size A n [x, y]) (hx : inS x) (hy : inS y) :
    Calls Tryz.prog 106 #[.int .i64 6, .slice A n c] w fun e w' => e = .returned (growV (growL (if y.1 ≤ 0 ∧ 0 ≤ y.2 then [0] ++ (if y.1 < 0 then [divR x.1 y.1, divR x.2 y.1, divR x.1 (-1), divR x.2 (-1)] else []) ++ (if 0 < y.2 then [divR x.1 1, divR x.2 1, divR x.1 y.2, divR x.2 y.2] else []) else [divR x.1 y.1, divR x.2 y.1, divR x.1 y.2, divR x.2 y.2]))) ∧ Below w.heap.size w w' := by
  obtain rfl : 2 = n := h.len
  obtain ⟨b, off, rfl, hb, a0, a1, a2, _, a3⟩ := h.two
  obtain ⟨x1, x2⟩ := x
  obtain ⟨y1, y2⟩ := y
  obtain ⟨⟨p0a, p0b⟩, p0c, p0d⟩ := hx
  obtain ⟨⟨p1a, p1b⟩, p1c, p1d⟩ := hy
  dsimp only at p0a p0b p0c p0d p1a p1b p1c p1d ⊢
  obtain ⟨R, hR⟩ : ∃ R, growL (if y1 ≤ 0 ∧ 0 ≤ y2 then [0] ++ (if y1 < 0 then [divR x1 y1, divR x2 y1, divR x1 (-1), divR x2 (-1)] else []) ++ (if 0 < y2 then [divR x1 1, divR x2 1, divR x1 y2, divR x2 y2] else []) else [divR x1 y1, divR x2 y1, divR x1 y2, divR x2 y2]) = R := ⟨_, rfl⟩
  rw [hR]
  have HRR := hide hR
  clear hR
  have HC : Hid (∀ wq : World, Below w.heap.size w wq → wq.cell? ⟨b, off, none⟩ = some (.int .i64 x1) ∧ wq.cell? ⟨b, off + 1, none⟩ = some (.int .i64 x2) ∧ wq.cell? ⟨b, off + 2, none⟩ = some (.int .i64 y1) ∧ wq.cell? ⟨b, off + 3, none⟩ = some (.int .i64 y2)) := hide (fun wq hq => ⟨(hq.cell (p := ⟨b, off, none⟩) hb).trans a0, (hq.cell (p := ⟨b, off + 1, none⟩) hb).trans a1, (hq.cell (p := ⟨b, off + 2, none⟩) hb).trans a2, (hq.cell (p := ⟨b, off + 3, none⟩) hb).trans a3⟩)
  clear a0 a1 a2 a3 h
  have HN0 := hide (NodeSt.start w)
  go_enter Tryz.func106, Tryz.ntmps106
  go_upto_region 18 with (fail)
  have HX1 : Hid (inB x1) := hide ⟨by assumption, by assumption⟩
  have HX2 : Hid (inB x2) := hide ⟨by assumption, by assumption⟩
  generalize (w.alloc (Obj.cells #[.int .i64 0, .int .i64 0, .bool false] 154)).alloc (Obj.cells #[.int .i64 0, .int .i64 0, .bool false] 154) = w0 at HN0 ⊢
  obtain ⟨e0, e1, e2, e3⟩ := HC.out w0 HN0.out.bel
  have hyb := Blk.new w0 81 #[.int .i64 y1, .int .i64 y2]
  have hbb : Below w0.heap.size w0 (w0.alloc (Obj.cells #[.int .i64 y1, .int .i64 y2] 81)) := (Below.refl _ _).alloc (Nat.le_refl _) _
  have HG : Hid (w0.heap.size ≠ w.heap.size + 1) := hide (by have := HN0.out.own.lt; omega)
  have HN1 := hide (HN0.out.more hbb)
  go_upto_region 19 with (fail)
  clear e0 e1 e2 e3 hbb
  generalize w0.alloc (Obj.cells #[.int .i64 y1, .int .i64 y2] 81) = w1 at hyb HN1 ⊢
  generalize w0.heap.size = gy at hyb HG ⊢
  have HYB := hide hyb
  clear hyb HN0
  cases d1 : decide (y1 ≤ 0)
  · have HR : Hid ((if y1 ≤ 0 ∧ 0 ≤ y2 then [0] ++ (if y1 < 0 then [divR x1 y1, divR x2 y1, divR x1 (-1), divR x2 (-1)] else []) ++ (if 0 < y2 then [divR x1 1, divR x2 1, divR x1 y2, divR x2 y2] else []) else [divR x1 y1, divR x2 y1, divR x1 y2, divR x2 y2]) = ([divR x1 y1, divR x2 y1, divR x1 y2, divR x2 y2] : List Int)) := by
      show _ = _
      rw [if_neg (fun h => of_decide_eq_false d1 h.1)]
      try rfl
    obtain ⟨e0, e1, e2, e3⟩ := HC.out w1 HN1.out.bel
    have ey0 : w1.cell? ⟨gy, 0, none⟩ = some (.int .i64 y1) := HYB.out.cell 0
    have ey1 : w1.cell? ⟨gy, 1, none⟩ = some (.int .i64 y2) := HYB.out.cell 1
    go_upto_region 27 with (fail)
    go_still_tail 5, (by kernel_rfl)
    change wpList _ _ _ _ _ w1.drew
    have HD2 := hide HN1.out.drew
    have HY2 := hide HYB.out.drew
    generalize w1.drew = wd2 at HD2 HY2 ⊢
    clear e0 e1 e2 e3 ey0 ey1
    obtain ⟨e0, e1, e2, e3⟩ := HC.out wd2 HD2.out.bel
    have ey0 : wd2.cell? ⟨gy, 0, none⟩ = some (.int .i64 y1) := HY2.out.cell 0
    have ey1 : wd2.cell? ⟨gy, 1, none⟩ = some (.int .i64 y2) := HY2.out.cell 1
    go_wp2_with fail
    refine (refDivide_any _ _ _ _ _ _ HD2.out.own HX1.out HX2.out).mono ?_
    rintro en w3x ⟨rfl, hb', hk'⟩
    have HN3 := hide (HD2.out.step hb' hk')
    have HV3 := hide (hk'.blk HY2.out HG.out)
    clear hb' hk'
    clear e0 e1 e2 e3 ey0 ey1
    obtain ⟨e0, e1, e2, e3⟩ := HC.out w3x HN3.out.bel
    have ey0 : w3x.cell? ⟨gy, 0, none⟩ = some (.int .i64 y1) := HV3.out.cell 0
    have ey1 : w3x.cell? ⟨gy, 1, none⟩ = some (.int .i64 y2) := HV3.out.cell 1
    go_upto_region 28 with (fail)
    go_still_tail 5, (by kernel_rfl)
    change wpList _ _ _ _ _ w3x.drew
    have HD4 := hide HN3.out.drew
    have HY4 := hide HV3.out.drew
    generalize w3x.drew = wd4 at HD4 HY4 ⊢
    clear e0 e1 e2 e3 ey0 ey1
    obtain ⟨e0, e1, e2, e3⟩ := HC.out wd4 HD4.out.bel
    have ey0 : wd4.cell? ⟨gy, 0, none⟩ = some (.int .i64 y1) := HY4.out.cell 0
    have ey1 : wd4.cell? ⟨gy, 1, none⟩ = some (.int .i64 y2) := HY4.out.cell 1
    go_wp2_with fail
    refine (refDivide_any _ _ _ _ _ _ HD4.out.own HX1.out HX2.out).mono ?_
    rintro en w5x ⟨rfl, hb', hk'⟩
    have HN5 := hide (HD4.out.step hb' hk')
    have HV5 := hide (hk'.blk HY4.out HG.out)
    clear hb' hk'
    clear e0 e1 e2 e3 ey0 ey1
    obtain ⟨e0, e1, e2, e3⟩ := HC.out w5x HN5.out.bel
    have ey0 : w5x.cell? ⟨gy, 0, none⟩ = some (.int .i64 y1) := HV5.out.cell 0
    have ey1 : w5x.cell? ⟨gy, 1, none⟩ = some (.int .i64 y2) := HV5.out.cell 1
    have HF : Hid (NodeSt w (growL [divR x1 y1, divR x2 y1, divR x1 y2, divR x2 y2]) w5x) := HN5
    obtain ⟨s, hs⟩ : ∃ s, growL [divR x1 y1, divR x2 y1, divR x1 y2, divR x2 y2] = s := ⟨_, rfl⟩
    rw [hs] at HF
    have HS := hide hs
    clear hs
    obtain ⟨lo, hi, sm⟩ := s
    have c0 : w5x.cell? ⟨w.heap.size + 1, 0, none⟩ = some (.int .i64 lo) := HF.out.own.cell 0
    have c1 : w5x.cell? ⟨w.heap.size + 1, 1, none⟩ = some (.int .i64 hi) := HF.out.own.cell 1
    have c2 : w5x.cell? ⟨w.heap.size + 1, 2, none⟩ = some (.bool sm) := HF.out.own.cell 2
    have r0 : w5x.cell? ⟨w.heap.size, 0, none⟩ = some (.int .i64 0) := HF.out.res.cell 0
    have r1 : w5x.cell? ⟨w.heap.size, 1, none⟩ = some (.int .i64 0) := HF.out.res.cell 1
    have r2 : w5x.cell? ⟨w.heap.size, 2, none⟩ = some (.bool false) := HF.out.res.cell 2
    have f0 := HF.out.res.frozen 0
    have f1 := HF.out.res.frozen 1
    have f2 := HF.out.res.frozen 2
    have HP := hide HF.out.put
    go_wp2
    generalize ((w5x.setCell ⟨w.heap.size, 0, none⟩ (.int .i64 lo)).setCell ⟨w.heap.size, 1, none⟩ (.int .i64 hi)).setCell ⟨w.heap.size, 2, none⟩ (.bool sm) = w9 at HP ⊢
    have d0 : w9.cell? ⟨w.heap.size, 0, none⟩ = some (.int .i64 lo) := HP.out.1.cell 0
    have d1 : w9.cell? ⟨w.heap.size, 1, none⟩ = some (.int .i64 hi) := HP.out.1.cell 1
    have d2 : w9.cell? ⟨w.heap.size, 2, none⟩ = some (.bool sm) := HP.out.1.cell 2
    exact bodyPost_ret (v := .agg #[.int .i64 lo, .int .i64 hi, .bool sm]) (by simp [results, Tryz.results106, go_sem, d0, d1, d2]) rfl ⟨by rw [← HRR.out, HR.out, HS.out]; rfl, HP.out.2⟩
  · cases d2 : decide (0 ≤ y2)
    · have HR : Hid ((if y1 ≤ 0 ∧ 0 ≤ y2 then [0] ++ (if y1 < 0 then [divR x1 y1, divR x2 y1, divR x1 (-1), divR x2 (-1)] else []) ++ (if 0 < y2 then [divR x1 1, divR x2 1, divR x1 y2, divR x2 y2] else []) else [divR x1 y1, divR x2 y1, divR x1 y2, divR x2 y2]) = ([divR x1 y1, divR x2 y1, divR x1 y2, divR x2 y2] : List Int)) := by
        show _ = _
        rw [if_neg (fun h => of_decide_eq_false d2 h.2)]
        try rfl
      obtain ⟨e0, e1, e2, e3⟩ := HC.out w1 HN1.out.bel
      have ey0 : w1.cell? ⟨gy, 0, none⟩ = some (.int .i64 y1) := HYB.out.cell 0
      have ey1 : w1.cell? ⟨gy, 1, none⟩ = some (.int .i64 y2) := HYB.out.cell 1
      go_upto_region 27 with (fail)
      go_still_tail 5, (by kernel_rfl)
      change wpList _ _ _ _ _ w1.drew
      have HD2 := hide HN1.out.drew
      have HY2 := hide HYB.out.drew
      generalize w1.drew = wd2 at HD2 HY2 ⊢
      clear e0 e1 e2 e3 ey0 ey1
      obtain ⟨e0, e1, e2, e3⟩ := HC.out wd2 HD2.out.bel
      have ey0 : wd2.cell? ⟨gy, 0, none⟩ = some (.int .i64 y1) := HY2.out.cell 0
      have ey1 : wd2.cell? ⟨gy, 1, none⟩ = some (.int .i64 y2) := HY2.out.cell 1
      go_wp2_with fail
      refine (refDivide_any _ _ _ _ _ _ HD2.out.own HX1.out HX2.out).mono ?_
      rintro en w3x ⟨rfl, hb', hk'⟩
      have HN3 := hide (HD2.out.step hb' hk')
      have HV3 := hide (hk'.blk HY2.out HG.out)
      clear hb' hk'
      clear e0 e1 e2 e3 ey0 ey1
      obtain ⟨e0, e1, e2, e3⟩ := HC.out w3x HN3.out.bel
      have ey0 : w3x.cell? ⟨gy, 0, none⟩ = some (.int .i64 y1) := HV3.out.cell 0
      have ey1 : w3x.cell? ⟨gy, 1, none⟩ = some (.int .i64 y2) := HV3.out.cell 1
      go_upto_region 28 with (fail)
      go_still_tail 5, (by kernel_rfl)
      change wpList _ _ _ _ _ w3x.drew
      have HD4 := hide HN3.out.drew
      have HY4 := hide HV3.out.drew
      generalize w3x.drew = wd4 at HD4 HY4 ⊢
      clear e0 e1 e2 e3 ey0 ey1
      obtain ⟨e0, e1, e2, e3⟩ := HC.out wd4 HD4.out.bel
      have ey0 : wd4.cell? ⟨gy, 0, none⟩ = some (.int .i64 y1) := HY4.out.cell 0
      have ey1 : wd4.cell? ⟨gy, 1, none⟩ = some (.int .i64 y2) := HY4.out.cell 1
      go_wp2_with fail
      refine (refDivide_any _ _ _ _ _ _ HD4.out.own HX1.out HX2.out).mono ?_
      rintro en w5x ⟨rfl, hb', hk'⟩
      have HN5 := hide (HD4.out.step hb' hk')
      have HV5 := hide (hk'.blk HY4.out HG.out)
      clear hb' hk'
      clear e0 e1 e2 e3 ey0 ey1
      obtain ⟨e0, e1, e2, e3⟩ := HC.out w5x HN5.out.bel
      have ey0 : w5x.cell? ⟨gy, 0, none⟩ = some (.int .i64 y1) := HV5.out.cell 0
      have ey1 : w5x.cell? ⟨gy, 1, none⟩ = some (.int .i64 y2) := HV5.out.cell 1
      have HF : Hid (NodeSt w (growL [divR x1 y1, divR x2 y1, divR x1 y2, divR x2 y2]) w5x) := HN5
      obtain ⟨s, hs⟩ : ∃ s, growL [divR x1 y1, divR x2 y1, divR x1 y2, divR x2 y2] = s := ⟨_, rfl⟩
      rw [hs] at HF
      have HS := hide hs
      clear hs
      obtain ⟨lo, hi, sm⟩ := s
      have c0 : w5x.cell? ⟨w.heap.size + 1, 0, none⟩ = some (.int .i64 lo) := HF.out.own.cell 0
      have c1 : w5x.cell? ⟨w.heap.size + 1, 1, none⟩ = some (.int .i64 hi) := HF.out.own.cell 1
      have c2 : w5x.cell? ⟨w.heap.size + 1, 2, none⟩ = some (.bool sm) := HF.out.own.cell 2
      have r0 : w5x.cell? ⟨w.heap.size, 0, none⟩ = some (.int .i64 0) := HF.out.res.cell 0
      have r1 : w5x.cell? ⟨w.heap.size, 1, none⟩ = some (.int .i64 0) := HF.out.res.cell 1
      have r2 : w5x.cell? ⟨w.heap.size, 2, none⟩ = some (.bool false) := HF.out.res.cell 2
      have f0 := HF.out.res.frozen 0
      have f1 := HF.out.res.frozen 1
      have f2 := HF.out.res.frozen 2
      have HP := hide HF.out.put
      go_wp2
      generalize ((w5x.setCell ⟨w.heap.size, 0, none⟩ (.int .i64 lo)).setCell ⟨w.heap.size, 1, none⟩ (.int .i64 hi)).setCell ⟨w.heap.size, 2, none⟩ (.bool sm) = w9 at HP ⊢
      have d0 : w9.cell? ⟨w.heap.size, 0, none⟩ = some (.int .i64 lo) := HP.out.1.cell 0
      have d1 : w9.cell? ⟨w.heap.size, 1, none⟩ = some (.int .i64 hi) := HP.out.1.cell 1
      have d2 : w9.cell? ⟨w.heap.size, 2, none⟩ = some (.bool sm) := HP.out.1.cell 2
      exact bodyPost_ret (v := .agg #[.int .i64 lo, .int .i64 hi, .bool sm]) (by simp [results, Tryz.results106, go_sem, d0, d1, d2]) rfl ⟨by rw [← HRR.out, HR.out, HS.out]; rfl, HP.out.2⟩
    · cases d3 : decide (y1 < 0)
      · cases d4 : decide (0 < y2)
        · have HR : Hid ((if y1 ≤ 0 ∧ 0 ≤ y2 then [0] ++ (if y1 < 0 then [divR x1 y1, divR x2 y1, divR x1 (-1), divR x2 (-1)] else []) ++ (if 0 < y2 then [divR x1 1, divR x2 1, divR x1 y2, divR x2 y2] else []) else [divR x1 y1, divR x2 y1, divR x1 y2, divR x2 y2]) = ([0] : List Int)) := by
            show _ = _
            rw [if_pos ⟨of_decide_eq_true d1, of_decide_eq_true d2⟩, if_neg (of_decide_eq_false d3), if_neg (of_decide_eq_false d4)]
            try rfl
          obtain ⟨e0, e1, e2, e3⟩ := HC.out w1 HN1.out.bel
          have ey0 : w1.cell? ⟨gy, 0, none⟩ = some (.int .i64 y1) := HYB.out.cell 0
          have ey1 : w1.cell? ⟨gy, 1, none⟩ = some (.int .i64 y2) := HYB.out.cell 1
          go_wp2_with fail
          refine (refAdd_any _ _ _ _ HN1.out.own).mono ?_
          rintro en w2x ⟨rfl, hb', hk'⟩
          have HN2 := hide (HN1.out.step hb' hk')
          have HV2 := hide (hk'.blk HYB.out HG.out)
          clear hb' hk'
          clear e0 e1 e2 e3 ey0 ey1
          obtain ⟨e0, e1, e2, e3⟩ := HC.out w2x HN2.out.bel
          have ey0 : w2x.cell? ⟨gy, 0, none⟩ = some (.int .i64 y1) := HV2.out.cell 0
          have ey1 : w2x.cell? ⟨gy, 1, none⟩ = some (.int .i64 y2) := HV2.out.cell 1
          have HF : Hid (NodeSt w (growL [0]) w2x) := HN2
          obtain ⟨s, hs⟩ : ∃ s, growL [0] = s := ⟨_, rfl⟩
          rw [hs] at HF
          have HS := hide hs
          clear hs
          obtain ⟨lo, hi, sm⟩ := s
          have c0 : w2x.cell? ⟨w.heap.size + 1, 0, none⟩ = some (.int .i64 lo) := HF.out.own.cell 0
          have c1 : w2x.cell? ⟨w.heap.size + 1, 1, none⟩ = some (.int .i64 hi) := HF.out.own.cell 1
          have c2 : w2x.cell? ⟨w.heap.size + 1, 2, none⟩ = some (.bool sm) := HF.out.own.cell 2
          have r0 : w2x.cell? ⟨w.heap.size, 0, none⟩ = some (.int .i64 0) := HF.out.res.cell 0
          have r1 : w2x.cell? ⟨w.heap.size, 1, none⟩ = some (.int .i64 0) := HF.out.res.cell 1
          have r2 : w2x.cell? ⟨w.heap.size, 2, none⟩ = some (.bool false) := HF.out.res.cell 2
          have f0 := HF.out.res.frozen 0
          have f1 := HF.out.res.frozen 1
          have f2 := HF.out.res.frozen 2
          have HP := hide HF.out.put
          go_wp2
          generalize ((w2x.setCell ⟨w.heap.size, 0, none⟩ (.int .i64 lo)).setCell ⟨w.heap.size, 1, none⟩ (.int .i64 hi)).setCell ⟨w.heap.size, 2, none⟩ (.bool sm) = w9 at HP ⊢
          have d0 : w9.cell? ⟨w.heap.size, 0, none⟩ = some (.int .i64 lo) := HP.out.1.cell 0
          have d1 : w9.cell? ⟨w.heap.size, 1, none⟩ = some (.int .i64 hi) := HP.out.1.cell 1
          have d2 : w9.cell? ⟨w.heap.size, 2, none⟩ = some (.bool sm) := HP.out.1.cell 2
          exact bodyPost_ret (v := .agg #[.int .i64 lo, .int .i64 hi, .bool sm]) (by simp [results, Tryz.results106, go_sem, d0, d1, d2]) rfl ⟨by rw [← HRR.out, HR.out, HS.out]; rfl, HP.out.2⟩
        · have HR : Hid ((if y1 ≤ 0 ∧ 0 ≤ y2 then [0] ++ (if y1 < 0 then [divR x1 y1, divR x2 y1, divR x1 (-1), divR x2 (-1)] else []) ++ (if 0 < y2 then [divR x1 1, divR x2 1, divR x1 y2, divR x2 y2] else []) else [divR x1 y1, divR x2 y1, divR x1 y2, divR x2 y2]) = ([0, divR x1 1, divR x2 1, divR x1 y2, divR x2 y2] : List Int)) := by
            show _ = _
            rw [if_pos ⟨of_decide_eq_true d1, of_decide_eq_true d2⟩, if_neg (of_decide_eq_false d3), if_pos (of_decide_eq_true d4)]
            try rfl
          obtain ⟨e0, e1, e2, e3⟩ := HC.out w1 HN1.out.bel
          have ey0 : w1.cell? ⟨gy, 0, none⟩ = some (.int .i64 y1) := HYB.out.cell 0
          have ey1 : w1.cell? ⟨gy, 1, none⟩ = some (.int .i64 y2) := HYB.out.cell 1
          go_wp2_with fail
          refine (refAdd_any _ _ _ _ HN1.out.own).mono ?_
          rintro en w2x ⟨rfl, hb', hk'⟩
          have HN2 := hide (HN1.out.step hb' hk')
          have HV2 := hide (hk'.blk HYB.out HG.out)
          clear hb' hk'
          clear e0 e1 e2 e3 ey0 ey1
          obtain ⟨e0, e1, e2, e3⟩ := HC.out w2x HN2.out.bel
          have ey0 : w2x.cell? ⟨gy, 0, none⟩ = some (.int .i64 y1) := HV2.out.cell 0
          have ey1 : w2x.cell? ⟨gy, 1, none⟩ = some (.int .i64 y2) := HV2.out.cell 1
          go_wp2_with fail
          refine (refDivide_any _ _ _ _ _ _ HN2.out.own HX1.out HX2.out).mono ?_
          rintro en w3x ⟨rfl, hb', hk'⟩
          have HN3 := hide (HN2.out.step hb' hk')
          have HV3 := hide (hk'.blk HV2.out HG.out)
          clear hb' hk'
          clear e0 e1 e2 e3 ey0 ey1
          obtain ⟨e0, e1, e2, e3⟩ := HC.out w3x HN3.out.bel
          have ey0 : w3x.cell? ⟨gy, 0, none⟩ = some (.int .i64 y1) := HV3.out.cell 0
          have ey1 : w3x.cell? ⟨gy, 1, none⟩ = some (.int .i64 y2) := HV3.out.cell 1
          go_upto_region 26 with (fail)
          go_still_tail 5, (by kernel_rfl)
          change wpList _ _ _ _ _ w3x.drew
          have HD4 := hide HN3.out.drew
          have HY4 := hide HV3.out.drew
          generalize w3x.drew = wd4 at HD4 HY4 ⊢
          clear e0 e1 e2 e3 ey0 ey1
          obtain ⟨e0, e1, e2, e3⟩ := HC.out wd4 HD4.out.bel
          have ey0 : wd4.cell? ⟨gy, 0, none⟩ = some (.int .i64 y1) := HY4.out.cell 0
          have ey1 : wd4.cell? ⟨gy, 1, none⟩ = some (.int .i64 y2) := HY4.out.cell 1
          go_wp2_with fail
          refine (refDivide_any _ _ _ _ _ _ HD4.out.own HX1.out HX2.out).mono ?_
          rintro en w5x ⟨rfl, hb', hk'⟩
          have HN5 := hide (HD4.out.step hb' hk')
          have HV5 := hide (hk'.blk HY4.out HG.out)
          clear hb' hk'
          clear e0 e1 e2 e3 ey0 ey1
          obtain ⟨e0, e1, e2, e3⟩ := HC.out w5x HN5.out.bel
          have ey0 : w5x.cell? ⟨gy, 0, none⟩ = some (.int .i64 y1) := HV5.out.cell 0
          have ey1 : w5x.cell? ⟨gy, 1, none⟩ = some (.int .i64 y2) := HV5.out.cell 1
          have HF : Hid (NodeSt w (growL [0, divR x1 1, divR x2 1, divR x1 y2, divR x2 y2]) w5x) := HN5
          obtain ⟨s, hs⟩ : ∃ s, growL [0, divR x1 1, divR x2 1, divR x1 y2, divR x2 y2] = s := ⟨_, rfl⟩
          rw [hs] at HF
          have HS := hide hs
          clear hs
          obtain ⟨lo, hi, sm⟩ := s
          have c0 : w5x.cell? ⟨w.heap.size + 1, 0, none⟩ = some (.int .i64 lo) := HF.out.own.cell 0
          have c1 : w5x.cell? ⟨w.heap.size + 1, 1, none⟩ = some (.int .i64 hi) := HF.out.own.cell 1
          have c2 : w5x.cell? ⟨w.heap.size + 1, 2, none⟩ = some (.bool sm) := HF.out.own.cell 2
          have r0 : w5x.cell? ⟨w.heap.size, 0, none⟩ = some (.int .i64 0) := HF.out.res.cell 0
          have r1 : w5x.cell? ⟨w.heap.size, 1, none⟩ = some (.int .i64 0) := HF.out.res.cell 1
          have r2 : w5x.cell? ⟨w.heap.size, 2, none⟩ = some (.bool false) := HF.out.res.cell 2
          have f0 := HF.out.res.frozen 0
          have f1 := HF.out.res.frozen 1
          have f2 := HF.out.res.frozen 2
          have HP := hide HF.out.put
          go_wp2
          generalize ((w5x.setCell ⟨w.heap.size, 0, none⟩ (.int .i64 lo)).setCell ⟨w.heap.size, 1, none⟩ (.int .i64 hi)).setCell ⟨w.heap.size, 2, none⟩ (.bool sm) = w9 at HP ⊢
          have d0 : w9.cell? ⟨w.heap.size, 0, none⟩ = some (.int .i64 lo) := HP.out.1.cell 0
          have d1 : w9.cell? ⟨w.heap.size, 1, none⟩ = some (.int .i64 hi) := HP.out.1.cell 1
          have d2 : w9.cell? ⟨w.heap.size, 2, none⟩ = some (.bool sm) := HP.out.1.cell 2
          exact bodyPost_ret (v := .agg #[.int .i64 lo, .int .i64 hi, .bool sm]) (by simp [results, Tryz.results106, go_sem, d0, d1, d2]) rfl ⟨by rw [← HRR.out, HR.out, HS.out]; rfl, HP.out.2⟩
      · cases d4 : decide (0 < y2)
        · have HR : Hid ((if y1 ≤ 0 ∧ 0 ≤ y2 then [0] ++ (if y1 < 0 then [divR x1 y1, divR x2 y1, divR x1 (-1), divR x2 (-1)] else []) ++ (if 0 < y2 then [divR x1 1, divR x2 1, divR x1 y2, divR x2 y2] else []) else [divR x1 y1, divR x2 y1, divR x1 y2, divR x2 y2]) = ([0, divR x1 y1, divR x2 y1, divR x1 (-1), divR x2 (-1)] : List Int)) := by
            show _ = _
            rw [if_pos ⟨of_decide_eq_true d1, of_decide_eq_true d2⟩, if_pos (of_decide_eq_true d3), if_neg (of_decide_eq_false d4)]
            try rfl
          obtain ⟨e0, e1, e2, e3⟩ := HC.out w1 HN1.out.bel
          have ey0 : w1.cell? ⟨gy, 0, none⟩ = some (.int .i64 y1) := HYB.out.cell 0
          have ey1 : w1.cell? ⟨gy, 1, none⟩ = some (.int .i64 y2) := HYB.out.cell 1
          go_wp2_with fail
          refine (refAdd_any _ _ _ _ HN1.out.own).mono ?_
          rintro en w2x ⟨rfl, hb', hk'⟩
          have HN2 := hide (HN1.out.step hb' hk')
          have HV2 := hide (hk'.blk HYB.out HG.out)
          clear hb' hk'
          clear e0 e1 e2 e3 ey0 ey1
          obtain ⟨e0, e1, e2, e3⟩ := HC.out w2x HN2.out.bel
          have ey0 : w2x.cell? ⟨gy, 0, none⟩ = some (.int .i64 y1) := HV2.out.cell 0
          have ey1 : w2x.cell? ⟨gy, 1, none⟩ = some (.int .i64 y2) := HV2.out.cell 1
          go_upto_region 22 with (fail)
          go_still_tail 5, (by kernel_rfl)
          change wpList _ _ _ _ _ w2x.drew
          have HD3 := hide HN2.out.drew
          have HY3 := hide HV2.out.drew
          generalize w2x.drew = wd3 at HD3 HY3 ⊢
          clear e0 e1 e2 e3 ey0 ey1
          obtain ⟨e0, e1, e2, e3⟩ := HC.out wd3 HD3.out.bel
          have ey0 : wd3.cell? ⟨gy, 0, none⟩ = some (.int .i64 y1) := HY3.out.cell 0
          have ey1 : wd3.cell? ⟨gy, 1, none⟩ = some (.int .i64 y2) := HY3.out.cell 1
          go_wp2_with fail
          refine (refDivide_any _ _ _ _ _ _ HD3.out.own HX1.out HX2.out).mono ?_
          rintro en w4x ⟨rfl, hb', hk'⟩
          have HN4 := hide (HD3.out.step hb' hk')
          have HV4 := hide (hk'.blk HY3.out HG.out)
          clear hb' hk'
          clear e0 e1 e2 e3 ey0 ey1
          obtain ⟨e0, e1, e2, e3⟩ := HC.out w4x HN4.out.bel
          have ey0 : w4x.cell? ⟨gy, 0, none⟩ = some (.int .i64 y1) := HV4.out.cell 0
          have ey1 : w4x.cell? ⟨gy, 1, none⟩ = some (.int .i64 y2) := HV4.out.cell 1
          go_wp2_with fail
          refine (refDivide_any _ _ _ _ _ _ HN4.out.own HX1.out HX2.out).mono ?_
          rintro en w5x ⟨rfl, hb', hk'⟩
          have HN5 := hide (HN4.out.step hb' hk')
          have HV5 := hide (hk'.blk HV4.out HG.out)
          clear hb' hk'
          clear e0 e1 e2 e3 ey0 ey1
          obtain ⟨e0, e1, e2, e3⟩ := HC.out w5x HN5.out.bel
          have ey0 : w5x.cell? ⟨gy, 0, none⟩ = some (.int .i64 y1) := HV5.out.cell 0
          have ey1 : w5x.cell? ⟨gy, 1, none⟩ = some (.int .i64 y2) := HV5.out.cell 1
          have HF : Hid (NodeSt w (growL [0, divR x1 y1, divR x2 y1, divR x1 (-1), divR x2 (-1)]) w5x) := HN5
          obtain ⟨s, hs⟩ : ∃ s, growL [0, divR x1 y1, divR x2 y1, divR x1 (-1), divR x2 (-1)] = s := ⟨_, rfl⟩
          rw [hs] at HF
          have HS := hide hs
          clear hs
          obtain ⟨lo, hi, sm⟩ := s
          have c0 : w5x.cell? ⟨w.heap.size + 1, 0, none⟩ = some (.int .i64 lo) := HF.out.own.cell 0
          have c1 : w5x.cell? ⟨w.heap.size + 1, 1, none⟩ = some (.int .i64 hi) := HF.out.own.cell 1
          have c2 : w5x.cell? ⟨w.heap.size + 1, 2, none⟩ = some (.bool sm) := HF.out.own.cell 2
          have r0 : w5x.cell? ⟨w.heap.size, 0, none⟩ = some (.int .i64 0) := HF.out.res.cell 0
          have r1 : w5x.cell? ⟨w.heap.size, 1, none⟩ = some (.int .i64 0) := HF.out.res.cell 1
          have r2 : w5x.cell? ⟨w.heap.size, 2, none⟩ = some (.bool false) := HF.out.res.cell 2
          have f0 := HF.out.res.frozen 0
          have f1 := HF.out.res.frozen 1
          have f2 := HF.out.res.frozen 2
          have HP := hide HF.out.put
          go_wp2
          generalize ((w5x.setCell ⟨w.heap.size, 0, none⟩ (.int .i64 lo)).setCell ⟨w.heap.size, 1, none⟩ (.int .i64 hi)).setCell ⟨w.heap.size, 2, none⟩ (.bool sm) = w9 at HP ⊢
          have d0 : w9.cell? ⟨w.heap.size, 0, none⟩ = some (.int .i64 lo) := HP.out.1.cell 0
          have d1 : w9.cell? ⟨w.heap.size, 1, none⟩ = some (.int .i64 hi) := HP.out.1.cell 1
          have d2 : w9.cell? ⟨w.heap.size, 2, none⟩ = some (.bool sm) := HP.out.1.cell 2
          exact bodyPost_ret (v := .agg #[.int .i64 lo, .int .i64 hi, .bool sm]) (by simp [results, Tryz.results106, go_sem, d0, d1, d2]) rfl ⟨by rw [← HRR.out, HR.out, HS.out]; rfl, HP.out.2⟩
        · have HR : Hid ((if y1 ≤ 0 ∧ 0 ≤ y2 then [0] ++ (if y1 < 0 then [divR x1 y1, divR x2 y1, divR x1 (-1), divR x2 (-1)] else []) ++ (if 0 < y2 then [divR x1 1, divR x2 1, divR x1 y2, divR x2 y2] else []) else [divR x1 y1, divR x2 y1, divR x1 y2, divR x2 y2]) = ([0, divR x1 y1, divR x2 y1, divR x1 (-1), divR x2 (-1), divR x1 1, divR x2 1, divR x1 y2, divR x2 y2] : List Int)) := by
            show _ = _
            rw [if_pos ⟨of_decide_eq_true d1, of_decide_eq_true d2⟩, if_pos (of_decide_eq_true d3), if_pos (of_decide_eq_true d4)]
            try rfl
          obtain ⟨e0, e1, e2, e3⟩ := HC.out w1 HN1.out.bel
          have ey0 : w1.cell? ⟨gy, 0, none⟩ = some (.int .i64 y1) := HYB.out.cell 0
          have ey1 : w1.cell? ⟨gy, 1, none⟩ = some (.int .i64 y2) := HYB.out.cell 1
          go_wp2_with fail
          refine (refAdd_any _ _ _ _ HN1.out.own).mono ?_
          rintro en w2x ⟨rfl, hb', hk'⟩
          have HN2 := hide (HN1.out.step hb' hk')
          have HV2 := hide (hk'.blk HYB.out HG.out)
          clear hb' hk'
          clear e0 e1 e2 e3 ey0 ey1
          obtain ⟨e0, e1, e2, e3⟩ := HC.out w2x HN2.out.bel
          have ey0 : w2x.cell? ⟨gy, 0, none⟩ = some (.int .i64 y1) := HV2.out.cell 0
          have ey1 : w2x.cell? ⟨gy, 1, none⟩ = some (.int .i64 y2) := HV2.out.cell 1
          go_upto_region 22 with (fail)
          go_still_tail 5, (by kernel_rfl)
          change wpList _ _ _ _ _ w2x.drew
          have HD3 := hide HN2.out.drew
          have HY3 := hide HV2.out.drew
          generalize w2x.drew = wd3 at HD3 HY3 ⊢
          clear e0 e1 e2 e3 ey0 ey1
          obtain ⟨e0, e1, e2, e3⟩ := HC.out wd3 HD3.out.bel
          have ey0 : wd3.cell? ⟨gy, 0, none⟩ = some (.int .i64 y1) := HY3.out.cell 0
          have ey1 : wd3.cell? ⟨gy, 1, none⟩ = some (.int .i64 y2) := HY3.out.cell 1
          go_wp2_with fail
          refine (refDivide_any _ _ _ _ _ _ HD3.out.own HX1.out HX2.out).mono ?_
          rintro en w4x ⟨rfl, hb', hk'⟩
          have HN4 := hide (HD3.out.step hb' hk')
          have HV4 := hide (hk'.blk HY3.out HG.out)
          clear hb' hk'
          clear e0 e1 e2 e3 ey0 ey1
          obtain ⟨e0, e1, e2, e3⟩ := HC.out w4x HN4.out.bel
          have ey0 : w4x.cell? ⟨gy, 0, none⟩ = some (.int .i64 y1) := HV4.out.cell 0
          have ey1 : w4x.cell? ⟨gy, 1, none⟩ = some (.int .i64 y2) := HV4.out.cell 1
          go_wp2_with fail
          refine (refDivide_any _ _ _ _ _ _ HN4.out.own HX1.out HX2.out).mono ?_
          rintro en w5x ⟨rfl, hb', hk'⟩
          have HN5 := hide (HN4.out.step hb' hk')
          have HV5 := hide (hk'.blk HV4.out HG.out)
          clear hb' hk'
          clear e0 e1 e2 e3 ey0 ey1
          obtain ⟨e0, e1, e2, e3⟩ := HC.out w5x HN5.out.bel
          have ey0 : w5x.cell? ⟨gy, 0, none⟩ = some (.int .i64 y1) := HV5.out.cell 0
          have ey1 : w5x.cell? ⟨gy, 1, none⟩ = some (.int .i64 y2) := HV5.out.cell 1
          go_wp2_with fail
          refine (refDivide_any _ _ _ _ _ _ HN5.out.own HX1.out HX2.out).mono ?_
          rintro en w6x ⟨rfl, hb', hk'⟩
          have HN6 := hide (HN5.out.step hb' hk')
          have HV6 := hide (hk'.blk HV5.out HG.out)
          clear hb' hk'
          clear e0 e1 e2 e3 ey0 ey1
          obtain ⟨e0, e1, e2, e3⟩ := HC.out w6x HN6.out.bel
          have ey0 : w6x.cell? ⟨gy, 0, none⟩ = some (.int .i64 y1) := HV6.out.cell 0
          have ey1 : w6x.cell? ⟨gy, 1, none⟩ = some (.int .i64 y2) := HV6.out.cell 1
          go_upto_region 26 with (fail)
          go_still_tail 5, (by kernel_rfl)
          change wpList _ _ _ _ _ w6x.drew
          have HD7 := hide HN6.out.drew
          have HY7 := hide HV6.out.drew
          generalize w6x.drew = wd7 at HD7 HY7 ⊢
          clear e0 e1 e2 e3 ey0 ey1
          obtain ⟨e0, e1, e2, e3⟩ := HC.out wd7 HD7.out.bel
          have ey0 : wd7.cell? ⟨gy, 0, none⟩ = some (.int .i64 y1) := HY7.out.cell 0
          have ey1 : wd7.cell? ⟨gy, 1, none⟩ = some (.int .i64 y2) := HY7.out.cell 1
          go_wp2_with fail
          refine (refDivide_any _ _ _ _ _ _ HD7.out.own HX1.out HX2.out).mono ?_
          rintro en w8x ⟨rfl, hb', hk'⟩
          have HN8 := hide (HD7.out.step hb' hk')
          have HV8 := hide (hk'.blk HY7.out HG.out)
          clear hb' hk'
          clear e0 e1 e2 e3 ey0 ey1
          obtain ⟨e0, e1, e2, e3⟩ := HC.out w8x HN8.out.bel
          have ey0 : w8x.cell? ⟨gy, 0, none⟩ = some (.int .i64 y1) := HV8.out.cell 0
          have ey1 : w8x.cell? ⟨gy, 1, none⟩ = some (.int .i64 y2) := HV8.out.cell 1
          have HF : Hid (NodeSt w (growL [0, divR x1 y1, divR x2 y1, divR x1 (-1), divR x2 (-1), divR x1 1, divR x2 1, divR x1 y2, divR x2 y2]) w8x) := HN8
          obtain ⟨s, hs⟩ : ∃ s, growL [0, divR x1 y1, divR x2 y1, divR x1 (-1), divR x2 (-1), divR x1 1, divR x2 1, divR x1 y2, divR x2 y2] = s := ⟨_, rfl⟩
          rw [hs] at HF
          have HS := hide hs
          clear hs
          obtain ⟨lo, hi, sm⟩ := s
          have c0 : w8x.cell? ⟨w.heap.size + 1, 0, none⟩ = some (.int .i64 lo) := HF.out.own.cell 0
          have c1 : w8x.cell? ⟨w.heap.size + 1, 1, none⟩ = some (.int .i64 hi) := HF.out.own.cell 1
          have c2 : w8x.cell? ⟨w.heap.size + 1, 2, none⟩ = some (.bool sm) := HF.out.own.cell 2
          have r0 : w8x.cell? ⟨w.heap.size, 0, none⟩ = some (.int .i64 0) := HF.out.res.cell 0
          have r1 : w8x.cell? ⟨w.heap.size, 1, none⟩ = some (.int .i64 0) := HF.out.res.cell 1
          have r2 : w8x.cell? ⟨w.heap.size, 2, none⟩ = some (.bool false) := HF.out.res.cell 2
          have f0 := HF.out.res.frozen 0
          have f1 := HF.out.res.frozen 1
          have f2 := HF.out.res.frozen 2
          have HP := hide HF.out.put
          go_wp2
          generalize ((w8x.setCell ⟨w.heap.size, 0, none⟩ (.int .i64 lo)).setCell ⟨w.heap.size, 1, none⟩ (.int .i64 hi)).setCell ⟨w.heap.size, 2, none⟩ (.bool sm) = w9 at HP ⊢
          have d0 : w9.cell? ⟨w.heap.size, 0, none⟩ = some (.int .i64 lo) := HP.out.1.cell 0
          have d1 : w9.cell? ⟨w.heap.size, 1, none⟩ = some (.int .i64 hi) := HP.out.1.cell 1
          have d2 : w9.cell? ⟨w.heap.size, 2, none⟩ = some (.bool sm) := HP.out.1.cell 2
          exact bodyPost_ret (v := .agg #[.int .i64 lo, .int .i64 hi, .bool sm]) (by simp [results, Tryz.results106, go_sem, d0, d1, d2]) rfl ⟨by rw [← HRR.out, HR.out, HS.out]; rfl, HP.out.2⟩
end Go.Proofs.YtkomgidcgepknaaGreatDoor

set_option linter.unusedVariables false
set_option linter.unusedSimpArgs false
namespace Go.Proofs.YtkomgidcgepknaaGreatDoor
open Go.RowKit Go.Deep

theorem pairs1 {l : List (Int × Int)} (h : (l.length : Int) = 1) : ∃ a, l = [a] := List.length_eq_one_iff.1 (by omega)
theorem pairs2 {l : List (Int × Int)} (h : (l.length : Int) = 2) : ∃ a b, l = [a, b] := by
  rcases l with _ | ⟨a, _ | ⟨b, _ | ⟨c, l⟩⟩⟩
  · simp at h
  · simp at h
  · exact ⟨a, b, rfl⟩
  · simp at h; omega
theorem pairs3 {l : List (Int × Int)} (h : (l.length : Int) = 3) : ∃ a b c, l = [a, b, c] := by
  rcases l with _ | ⟨a, _ | ⟨b, _ | ⟨c, _ | ⟨d, l⟩⟩⟩⟩
  · simp at h
  · simp at h
  · simp at h
  · exact ⟨a, b, c, rfl⟩
  · simp at h; omega
theorem refNodeS_any (op : Int) (A : Option Addr) (n c : Nat) (K : List (Int × Int)) (w : World) (h : RSp w w.heap.size A n K) (hK : ∀ s ∈ K, inS s) (hl : (K.length : Int) = operands op) (h3 : 3 ≤ op ∧ op ≤ 12) :
    Calls Tryz.prog 106 #[.int .i64 op, .slice A n c] w fun e w' => e = .returned (growV (growL (candR op (K.getD 0 (0, 0)) (K.getD 1 (0, 0)) (K.getD 2 (0, 0))))) ∧ Below w.heap.size w w' := by
  have : op = 3 ∨ op = 4 ∨ op = 5 ∨ op = 6 ∨ op = 7 ∨ op = 8 ∨ op = 9 ∨ op = 10 ∨ op = 11 ∨ op = 12 := by omega
  rcases this with rfl | rfl | rfl | rfl | rfl | rfl | rfl | rfl | rfl | rfl
  · obtain ⟨x, y, rfl⟩ := pairs2 (hl.trans rfl)
    exact refNode3 A n c x y w h (hK x (by simp)) (hK y (by simp))
  · obtain ⟨x, y, rfl⟩ := pairs2 (hl.trans rfl)
    exact refNode4 A n c x y w h (hK x (by simp)) (hK y (by simp))
  · obtain ⟨x, y, rfl⟩ := pairs2 (hl.trans rfl)
    exact refNode5 A n c x y w h (hK x (by simp)) (hK y (by simp))
  · obtain ⟨x, y, rfl⟩ := pairs2 (hl.trans rfl)
    exact refNode6 A n c x y w h (hK x (by simp)) (hK y (by simp))
  · obtain ⟨x, y, rfl⟩ := pairs2 (hl.trans rfl)
    exact refNode7 A n c x y w h (hK x (by simp)) (hK y (by simp))
  · obtain ⟨x, y, rfl⟩ := pairs2 (hl.trans rfl)
    exact refNode8 A n c x y w h (hK x (by simp)) (hK y (by simp))
  · obtain ⟨x, y, z, rfl⟩ := pairs3 (hl.trans rfl)
    exact refNode9 A n c x y z w h (hK x (by simp)) (hK y (by simp)) (hK z (by simp))
  · obtain ⟨x, y, rfl⟩ := pairs2 (hl.trans rfl)
    exact refNode10 A n c x y w h (hK x (by simp)) (hK y (by simp))
  · obtain ⟨x, y, rfl⟩ := pairs2 (hl.trans rfl)
    exact refNode11 A n c x y w h (hK x (by simp)) (hK y (by simp))
  · obtain ⟨x, rfl⟩ := pairs1 (hl.trans rfl)
    have := refNode12 A n c x w h (hK x (by simp))
    rw [← Int.zero_sub x.1, ← Int.zero_sub x.2] at this
    exact this
end Go.Proofs.YtkomgidcgepknaaGreatDoor
