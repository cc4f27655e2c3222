/-
  Chapter 22: the reference's bounds are the program's. No program.
-/
import Derived.Test.YtkofmiegnfgbjaaGreatDoorBndP
set_option linter.unusedVariables false
set_option linter.unusedSimpArgs false
namespace Go.Proofs.YtkofmiegnfgbjaaGreatDoor

def absL (a : Int) : Int := max a (0 - a)
def mulR (a b : Int) : Int := if absL a = 0 ∨ absL b ≤ MB.tdiv (absL a) then a * b else if decide (a < 0) ≠ decide (b < 0) then 0 - MB - 1 else MB + 1
def divR (a b : Int) : Int := if b = 0 then 0 else if a.tmod b ≠ 0 ∧ decide (a < 0) ≠ decide (b < 0) then a.tdiv b - 1 else a.tdiv b
/-- What the reference adds for a node. -/
def candR (op : Int) (x y z : Int × Int) : List Int :=
  if op = 3 then [x.1 + y.1, x.2 + y.2]
  else if op = 4 then [x.1 - y.2, x.2 - y.1]
  else if op = 12 then [0 - x.1, 0 - x.2]
  else if op = 5 then [mulR x.1 y.1, mulR x.2 y.1, mulR x.1 y.2, mulR x.2 y.2]
  else if op = 6 then
    (if y.1 ≤ 0 ∧ 0 ≤ y.2 then [0] ++ (if y.1 < 0 then [divR x.1 y.1, divR x.2 y.1, divR x.1 (0 - 1), divR x.2 (0 - 1)] else []) ++ (if 0 < y.2 then [divR x.1 1, divR x.2 1, divR x.1 y.2, divR x.2 y.2] else [])
     else [divR x.1 y.1, divR x.2 y.1, divR x.1 y.2, divR x.2 y.2])
  else if op = 7 then [min x.1 y.1, min x.2 y.2]
  else if op = 8 then [max x.1 y.1, max x.2 y.2]
  else if op = 9 then (if 0 < x.2 then [y.1, y.2] else []) ++ (if x.1 ≤ 0 then [z.1, z.2] else [])
  else if op = 10 then (if x.1 < y.2 then [1] else []) ++ (if y.1 ≤ x.2 then [0] else [])
  else if op = 11 then (if max x.1 y.1 ≤ min x.2 y.2 then [1] else []) ++ (if x.1 ≠ x.2 ∨ y.1 ≠ y.2 ∨ x.1 ≠ y.1 then [0] else [])
  else []
def nodeR (op : Int) (x y z : Int × Int) : Int × Int := hullL (candR op x y z)
theorem hull_eq {l m : List Int} (hl : l ≠ []) (hm : m ≠ []) (h1 : ∀ n ∈ l, n ∈ m) (h2 : ∀ n ∈ m, n ∈ l) : hullL l = hullL m := by
  obtain ⟨a1, a2⟩ := hull_mem hl
  obtain ⟨b1, b2⟩ := hull_mem hm
  have c1 := hull_in (h1 _ a1)
  have c2 := hull_in (h1 _ a2)
  have d1 := hull_in (h2 _ b1)
  have d2 := hull_in (h2 _ b2)
  apply Prod.ext <;> omega
theorem hull_two {a b : Int} (h : a ≤ b) : hullL [a, b] = (a, b) := by
  show (min a b, max a b) = (a, b)
  apply Prod.ext
  · show min a b = a; omega
  · show max a b = b; omega
theorem hull_two' {a b : Int} (h : b ≤ a) : hullL [a, b] = (b, a) := by
  show (min a b, max a b) = (b, a)
  apply Prod.ext
  · show min a b = b; omega
  · show max a b = a; omega
theorem div_R (a b : Int) : divR a b = overL a b := rfl
/-- A product that stays within the bounds is the same for both; otherwise both are beyond them. -/
theorem mul_R {a b : Int} (ha : beyondL a = false) (hb : beyondL b = false) :
    (mulR a b = timesL a b ∧ beyondL (a * b) = false) ∨ (MB < a * b ∧ mulR a b = MB + 1 ∧ MB < timesL a b) ∨ (a * b < -MB ∧ mulR a b = -MB - 1 ∧ timesL a b < -MB) := by
  have key : (absL a = 0 ∨ absL b ≤ MB.tdiv (absL a)) ↔ (-MB ≤ a * b ∧ a * b ≤ MB) := by
    have hA : 0 ≤ absL a := by unfold absL; omega
    have hB : 0 ≤ absL b := by unfold absL; omega
    have hab : absL a * absL b = max (a * b) (-(a * b)) := by
      have ca : absL a = a ∧ 0 ≤ a ∨ absL a = -a ∧ a ≤ 0 := by unfold absL; omega
      have cb : absL b = b ∧ 0 ≤ b ∨ absL b = -b ∧ b ≤ 0 := by unfold absL; omega
      rcases ca with ⟨e1, s1⟩ | ⟨e1, s1⟩ <;> rcases cb with ⟨e2, s2⟩ | ⟨e2, s2⟩ <;> rw [e1, e2]
      · have := Int.mul_nonneg s1 s2; omega
      · have := Int.mul_nonneg s1 (show 0 ≤ -b by omega); rw [Int.mul_neg] at this ⊢; omega
      · have := Int.mul_nonneg (show 0 ≤ -a by omega) s2; rw [Int.neg_mul] at this ⊢; omega
      · have := Int.mul_nonneg (show 0 ≤ -a by omega) (show 0 ≤ -b by omega); rw [Int.neg_mul_neg] at this ⊢; omega
    have hm : (-MB ≤ a * b ∧ a * b ≤ MB) ↔ absL a * absL b ≤ MB := by rw [hab]; omega
    rw [hm]
    by_cases h0 : absL a = 0
    · rw [h0, Int.zero_mul]
      exact ⟨fun _ => by unfold MB; omega, fun _ => .inl rfl⟩
    · have hpos : 0 < absL a := by omega
      rw [Int.tdiv_eq_ediv_of_nonneg (by unfold MB; omega), Int.le_ediv_iff_mul_le hpos, Int.mul_comm]
      exact ⟨fun h => h.resolve_left h0, .inr⟩
  unfold mulR
  by_cases hk : absL a = 0 ∨ absL b ≤ MB.tdiv (absL a)
  · rw [if_pos hk]
    have hr := key.1 hk
    exact .inl ⟨(times_of hr).symm, beyond_not.2 hr⟩
  · rw [if_neg hk]
    have hr : ¬ (-MB ≤ a * b ∧ a * b ≤ MB) := fun h => hk (key.2 h)
    right
    rcases Int.lt_trichotomy (a * b) 0 with hs | hs | hs
    · right
      have hd : decide (a < 0) ≠ decide (b < 0) := by
        intro e
        rw [decide_eq_decide] at e
        rcases Int.le_total 0 a with h1 | h1
        · have h2 : 0 ≤ b := by omega
          have := Int.mul_nonneg h1 h2
          omega
        · by_cases h3 : a = 0
          · subst h3; simp at hs
          · have h2 : b ≤ 0 := by omega
            have := Int.mul_nonneg_of_nonpos_of_nonpos h1 h2
            omega
      rw [if_pos hd]
      have h5 : a * b < -MB := by omega
      refine ⟨h5, by omega, ?_⟩
      unfold timesL
      have : MB = 1000000000000 := rfl
      split
      · omega
      · split <;> omega
    · exfalso; apply hr; rw [hs]; unfold MB; omega
    · left
      have hd : ¬ decide (a < 0) ≠ decide (b < 0) := by
        rw [Decidable.not_not, decide_eq_decide]
        constructor
        · intro h1
          rcases Int.lt_or_le b 0 with h2 | h2
          · exact h2
          · have := Int.mul_nonpos_of_nonpos_of_nonneg (show a ≤ 0 by omega) h2
            omega
        · intro h1
          rcases Int.lt_or_le a 0 with h2 | h2
          · exact h2
          · have := Int.mul_nonpos_of_nonneg_of_nonpos h2 (show b ≤ 0 by omega)
            omega
      rw [if_neg hd]
      have h5 : MB < a * b := by omega
      refine ⟨h5, rfl, ?_⟩
      unfold timesL
      have : MB = 1000000000000 := rfl
      split
      · omega
      · split <;> omega

/-- The reference's node and the program's: alike, or both beyond the bounds. -/
theorem node_R {op : Int} {x y z : Int × Int} (hx : x.1 ≤ x.2) (hy : y.1 ≤ y.2) (hz : z.1 ≤ z.2) (hop : 3 ≤ op ∧ op ≤ 12)
    (bx : beyondL x.1 = false ∧ beyondL x.2 = false) (hb : beyondL y.1 = false ∧ beyondL y.2 = false) :
    nodeR op x y z = nodeB op x y z ∨ ((beyondL (nodeR op x y z).1 || beyondL (nodeR op x y z).2) = true ∧ (beyondL (nodeB op x y z).1 || beyondL (nodeB op x y z).2) = true) := by
  unfold nodeR candR nodeB
  by_cases e3 : op = 3
  · simp only [if_pos e3]; left; exact hull_two (by omega)
  simp only [if_neg e3]
  by_cases e4 : op = 4
  · simp only [if_pos e4]; left; exact hull_two (by omega)
  simp only [if_neg e4]
  by_cases e12 : op = 12
  · subst e12
    simp only [Int.reduceEq, if_true, if_false]
    left
    rw [hull_two' (by omega), Int.zero_sub, Int.zero_sub]
  simp only [if_neg e12]
  by_cases e5 : op = 5
  · simp only [if_pos e5]
    have m11 := mul_R bx.1 hb.1
    have m12 := mul_R bx.1 hb.2
    have m21 := mul_R bx.2 hb.1
    have m22 := mul_R bx.2 hb.2
    by_cases hall : mulR x.1 y.1 = timesL x.1 y.1 ∧ mulR x.1 y.2 = timesL x.1 y.2 ∧ mulR x.2 y.1 = timesL x.2 y.1 ∧ mulR x.2 y.2 = timesL x.2 y.2
    · left
      rw [hall.1, hall.2.1, hall.2.2.1, hall.2.2.2]
      refine hull_eq (by simp) (by simp) ?_ ?_ <;> (intro n hn; simp only [List.mem_cons, List.not_mem_nil, or_false] at hn ⊢; omega)
    · right
      have some : ∃ a b, ((a, b) = (x.1, y.1) ∨ (a, b) = (x.1, y.2) ∨ (a, b) = (x.2, y.1) ∨ (a, b) = (x.2, y.2)) ∧ ((MB < mulR a b ∧ MB < timesL a b) ∨ (mulR a b < -MB ∧ timesL a b < -MB)) := by
        have wit : ∀ a b, ((mulR a b = timesL a b ∧ beyondL (a * b) = false) ∨ (MB < a * b ∧ mulR a b = MB + 1 ∧ MB < timesL a b) ∨ (a * b < -MB ∧ mulR a b = -MB - 1 ∧ timesL a b < -MB)) → mulR a b ≠ timesL a b → ((MB < mulR a b ∧ MB < timesL a b) ∨ (mulR a b < -MB ∧ timesL a b < -MB)) := by
          intro a b h hne
          rcases h with h | h | h
          · exact absurd h.1 hne
          · left; omega
          · right; omega
        by_cases h1 : mulR x.1 y.1 = timesL x.1 y.1
        · by_cases h2 : mulR x.1 y.2 = timesL x.1 y.2
          · by_cases h3 : mulR x.2 y.1 = timesL x.2 y.1
            · exact ⟨x.2, y.2, by simp, wit _ _ m22 (fun h4 => hall ⟨h1, h2, h3, h4⟩)⟩
            · exact ⟨x.2, y.1, by simp, wit _ _ m21 h3⟩
          · exact ⟨x.1, y.2, by simp, wit _ _ m12 h2⟩
        · exact ⟨x.1, y.1, by simp, wit _ _ m11 h1⟩
      obtain ⟨a, b, hab, hbig⟩ := some
      have i1 : mulR a b ∈ [mulR x.1 y.1, mulR x.2 y.1, mulR x.1 y.2, mulR x.2 y.2] := by
        rcases hab with h | h | h | h <;> (injection h with h1 h2; subst h1 h2; simp)
      have i2 : timesL a b ∈ [timesL x.1 y.1, timesL x.1 y.2, timesL x.2 y.1, timesL x.2 y.2] := by
        rcases hab with h | h | h | h <;> (injection h with h1 h2; subst h1 h2; simp)
      have j1 := hull_in i1
      have j2 := hull_in i2
      generalize hullL [mulR x.1 y.1, mulR x.2 y.1, mulR x.1 y.2, mulR x.2 y.2] = H1 at j1 ⊢
      generalize hullL [timesL x.1 y.1, timesL x.1 y.2, timesL x.2 y.1, timesL x.2 y.2] = H2 at j2 ⊢
      unfold beyondL
      simp only [Bool.or_eq_true, decide_eq_true_eq]
      omega
  simp only [if_neg e5]
  left
  by_cases e6 : op = 6
  · simp only [if_pos e6, div_R]
    unfold divBy
    by_cases hzr : y.1 ≤ 0 ∧ 0 ≤ y.2
    · rw [if_pos hzr, if_pos hzr]
      have o0 : ∀ a, overL a 0 = 0 := fun a => rfl
      have q1 : (0 : Int) - 1 = -1 := by decide
      rw [q1]
      by_cases h1 : y.1 < 0
      · have e1 : max (-1) y.1 = -1 := by omega
        rw [if_pos h1, e1]
        by_cases h2 : 0 < y.2
        · have e2 : min 1 y.2 = 1 := by omega
          rw [if_pos h2, e2]
          refine hull_eq (by simp) (by simp) ?_ ?_ <;> (intro n hn; simp only [List.flatMap_cons, List.flatMap_nil, List.cons_append, List.nil_append, List.append_nil, List.mem_cons, List.not_mem_nil, or_false, o0] at hn ⊢; omega)
        · have e2 : y.2 = 0 := by omega
          rw [if_neg h2, e2]
          refine hull_eq (by simp) (by simp) ?_ ?_ <;> (intro n hn; simp only [List.flatMap_cons, List.flatMap_nil, List.cons_append, List.nil_append, List.append_nil, List.mem_cons, List.not_mem_nil, or_false, o0, show min (1 : Int) 0 = 0 by decide] at hn ⊢; omega)
      · have e1 : y.1 = 0 := by omega
        rw [if_neg h1, e1]
        by_cases h2 : 0 < y.2
        · have e2 : min 1 y.2 = 1 := by omega
          rw [if_pos h2, e2]
          refine hull_eq (by simp) (by simp) ?_ ?_ <;> (intro n hn; simp only [List.flatMap_cons, List.flatMap_nil, List.cons_append, List.nil_append, List.append_nil, List.mem_cons, List.not_mem_nil, or_false, o0, show max (-1 : Int) 0 = 0 by decide] at hn ⊢; omega)
        · have e2 : y.2 = 0 := by omega
          rw [if_neg h2, e2]
          refine hull_eq (by simp) (by simp) ?_ ?_ <;> (intro n hn; simp only [List.flatMap_cons, List.flatMap_nil, List.cons_append, List.nil_append, List.append_nil, List.mem_cons, List.not_mem_nil, or_false, o0, show max (-1 : Int) 0 = 0 by decide, show min (1 : Int) 0 = 0 by decide] at hn ⊢; omega)
    · rw [if_neg hzr, if_neg hzr]
      rfl
  simp only [if_neg e6]
  by_cases e7 : op = 7
  · simp only [if_pos e7]; exact hull_two (by omega)
  simp only [if_neg e7]
  by_cases e8 : op = 8
  · simp only [if_pos e8]; exact hull_two (by omega)
  simp only [if_neg e8]
  by_cases e9 : op = 9
  · simp only [if_pos e9]
    by_cases g1 : 0 < x.1
    · rw [if_pos g1, if_pos (by omega), if_neg (by omega), List.append_nil]
      exact hull_two hy
    · rw [if_neg g1, if_pos (show x.1 ≤ 0 by omega)]
      by_cases g2 : x.2 ≤ 0
      · rw [if_pos g2, if_neg (by omega), List.nil_append]
        exact hull_two hz
      · rw [if_neg g2, if_pos (by omega)]
        rfl
  simp only [if_neg e9]
  by_cases e10 : op = 10
  · simp only [if_pos e10]
    unfold flagsL
    by_cases m : x.1 < y.2 <;> by_cases k : y.1 ≤ x.2 <;> simp [m, k] <;> rfl
  simp only [if_neg e10]
  have e11 : op = 11 := by omega
  simp only [if_pos e11]
  unfold flagsL
  by_cases m : max x.1 y.1 ≤ min x.2 y.2 <;> by_cases k : x.1 ≠ x.2 ∨ y.1 ≠ y.2 ∨ x.1 ≠ y.1
  all_goals
    have k' : (decide (x.1 ≠ x.2) || decide (y.1 ≠ y.2) || decide (x.1 ≠ y.1)) = decide (x.1 ≠ x.2 ∨ y.1 ≠ y.2 ∨ x.1 ≠ y.1) := by
      rw [Bool.eq_iff_iff]; simp only [Bool.or_eq_true, decide_eq_true_eq]; omega
    rw [k']
    simp only [m, k, if_true, if_false, decide_true, decide_false, List.append_nil, List.nil_append]
    rfl
end Go.Proofs.YtkofmiegnfgbjaaGreatDoor
