/-
  The bounds of chapter 22 in plain words. No program.
-/
import Derived.Test.YtkomgidcgepknaaGreatDoorValP
set_option linter.unusedVariables false
set_option linter.unusedSimpArgs false
namespace Go.Proofs.YtkomgidcgepknaaGreatDoor

def MB : Int := 1000000000000
structure Rng where
  name : ByteArray
  low : Int
  high : Int
def beyondL (n : Int) : Bool := decide (n < -MB) || decide (MB < n)
def okR (r : Rng) : Bool := nameB r.name && !beyondL r.low && !beyondL r.high && decide (r.low ≤ r.high)
/-- A valid list of ranges. -/
def validRs : List Rng → Bool
  | [] => true
  | r :: l => validRs l && okR r && l.all fun x => decide (x.name ≠ r.name)
def look (l : List Rng) (t : ByteArray) : Option (Int × Int) := (l.find? fun r => decide (r.name = t)).map fun r => (r.low, r.high)

/-- A product, or a number beyond the bounds. -/
def timesL (a b : Int) : Int := if 2 * MB < a * b then 2 * MB else if a * b < -(2 * MB) then -(2 * MB) else a * b
/-- A quotient, rounded down; 0 for the divisor 0. -/
def overL (a b : Int) : Int := if b = 0 then 0 else if a.tmod b ≠ 0 ∧ (decide (a < 0) ≠ decide (b < 0)) then a.tdiv b - 1 else a.tdiv b
def hullL : List Int → Int × Int
  | [] => (0, 0)
  | x :: l => l.foldl (fun h n => (min h.1 n, max h.2 n)) (x, x)
def flagsL (may mayNot : Bool) : Int × Int := if may = false then (0, 0) else if mayNot = false then (1, 1) else (0, 1)
def divBy (y : Int × Int) : List Int := if y.1 ≤ 0 ∧ 0 ≤ y.2 then [y.1, y.2, 0, max (-1) y.1, min 1 y.2] else [y.1, y.2]
/-- The bounds of a node from those of its operands x, y, z. -/
def nodeB (op : Int) (x y z : Int × Int) : Int × Int :=
  if op = 3 then (x.1 + y.1, x.2 + y.2)
  else if op = 4 then (x.1 - y.2, x.2 - y.1)
  else if op = 5 then hullL [timesL x.1 y.1, timesL x.1 y.2, timesL x.2 y.1, timesL x.2 y.2]
  else if op = 6 then hullL ((divBy y).flatMap fun b => [overL x.1 b, overL x.2 b])
  else if op = 7 then (min x.1 y.1, min x.2 y.2)
  else if op = 8 then (max x.1 y.1, max x.2 y.2)
  else if op = 9 then (if 0 < x.1 then y else if x.2 ≤ 0 then z else hullL [y.1, y.2, z.1, z.2])
  else if op = 10 then flagsL (decide (x.1 < y.2)) (decide (y.1 ≤ x.2))
  else if op = 11 then flagsL (decide (max x.1 y.1 ≤ min x.2 y.2)) (decide (x.1 ≠ x.2) || decide (y.1 ≠ y.2) || decide (x.1 ≠ y.1))
  else (-x.2, -x.1)
def spanAt (all : List (Int × Int)) (i : Int) : Int × Int := all.getD i.toNat (0, 0)
def kidAt (x : Nod) (j : Nat) : Int := x.kids.getD j 0
/-- The bounds of one node: an error, or its bounds. -/
def stepB (l : List Rng) (all : List (Int × Int)) (x : Nod) : Except Int (Int × Int) :=
  if x.op = 1 then .ok (x.n, x.n)
  else if x.op = 2 then (match look l x.name with | some s => .ok s | none => .error 7)
  else
    if beyondL (nodeB x.op (spanAt all (kidAt x 0)) (spanAt all (kidAt x 1)) (spanAt all (kidAt x 2))).1 || beyondL (nodeB x.op (spanAt all (kidAt x 0)) (spanAt all (kidAt x 1)) (spanAt all (kidAt x 2))).2 then .error 9
    else .ok (nodeB x.op (spanAt all (kidAt x 0)) (spanAt all (kidAt x 1)) (spanAt all (kidAt x 2)))
/-- The bounds of the nodes that are left, behind those so far. -/
def goB (l : List Rng) : List (Int × Int) → List Nod → Except Int (List (Int × Int))
  | all, [] => .ok all
  | all, x :: e => match stepB l all x with
    | .error r => .error r
    | .ok s => goB l (all ++ [s]) e
def boundsL (e : List Nod) (l : List Rng) : Int × Int × Int :=
  if validRs l = false ∨ validL e = false then (0, 0, 1)
  else match goB l [] e with
    | .error r => (0, 0, r)
    | .ok all => ((spanAt all (e.length - 1)).1, (spanAt all (e.length - 1)).2, 0)
end Go.Proofs.YtkomgidcgepknaaGreatDoor

/-
  Chapter 22: the bounds of one operator are sound, and reached. No program.
-/
namespace Go.Proofs.YtkomgidcgepknaaGreatDoor

/-- The value of an operator. -/
def quot (a b : Int) : Int := if b = 0 then 0 else if b < 0 then (-a) / (-b) else a / b
def opV (op a b c : Int) : Int :=
  if op = 3 then a + b else if op = 4 then a - b else if op = 5 then a * b else if op = 6 then quot a b else if op = 7 then min a b else if op = 8 then max a b
  else if op = 9 then (if 0 < a then b else c) else if op = 10 then (if a < b then 1 else 0) else if op = 11 then (if a = b then 1 else 0) else -a
theorem over_eq (a b : Int) : overL a b = quot a b := by
  unfold overL quot
  by_cases hb0 : b = 0
  · rw [if_pos hb0, if_pos hb0]
  · rw [if_neg hb0, if_neg hb0]
    -- a = b q + r
    have e1 := Int.tmod_add_mul_tdiv a b
    by_cases hb : b < 0
    · rw [if_pos hb]
      have hb' : 0 < -b := by omega
      by_cases ha : a < 0
      · -- both negative: the quotient is not negative
        have h1 : a.tdiv b = (-a) / (-b) := by
          rw [Int.tdiv_eq_ediv_of_nonneg (a := -a) (b := -b) (by omega) |>.symm, Int.neg_tdiv, Int.tdiv_neg, Int.neg_neg]
        rw [if_neg (by simp [ha, hb]), h1]
      · have h1 : a.tdiv b = -(a / (-b)) := by
          rw [Int.tdiv_eq_ediv_of_nonneg (a := a) (b := -b) (by omega) |>.symm, Int.tdiv_neg, Int.neg_neg]
        have h2 : a.tmod b = a % (-b) := by
          rw [Int.tmod_eq_emod_of_nonneg (a := a) (b := -b) (by omega) |>.symm, Int.tmod_neg]
        have h3 : (-a) / (-b) = if a % (-b) = 0 then -(a / (-b)) else -(a / (-b)) - 1 := by
          have hm := Int.emod_add_mul_ediv a (-b)
          have hm0 := Int.emod_nonneg a (show -b ≠ 0 by omega)
          have hm1 := Int.emod_lt_of_pos a hb'
          split
          · rename_i hz
            apply Int.ediv_eq_of_eq_mul_right (by omega)
            rw [hz] at hm
            rw [Int.mul_neg]
            omega
          · rename_i hz
            have : -a = (-b - a % (-b)) + (-b) * (-(a / (-b)) - 1) := by rw [Int.mul_sub, Int.mul_neg]; omega
            rw [this, Int.add_mul_ediv_left _ _ (by omega), Int.ediv_eq_zero_of_lt (by omega) (by omega), Int.zero_add]
        rw [h1, h2, h3]
        by_cases hz : a % (-b) = 0
        · rw [if_neg (by simp [hz]), if_pos hz]
        · rw [if_pos ⟨hz, by simp [ha, hb]⟩, if_neg hz]
    · rw [if_neg hb]
      have hb' : 0 < b := by omega
      by_cases ha : a < 0
      · have h1 : a.tdiv b = -((-a) / b) := by
          rw [Int.tdiv_eq_ediv_of_nonneg (a := -a) (b := b) (by omega) |>.symm, Int.neg_tdiv, Int.neg_neg]
        have h2 : a.tmod b = -((-a) % b) := by
          rw [Int.tmod_eq_emod_of_nonneg (a := -a) (b := b) (by omega) |>.symm, Int.neg_tmod, Int.neg_neg]
        have h3 : a / b = if (-a) % b = 0 then -((-a) / b) else -((-a) / b) - 1 := by
          have hm := Int.emod_add_mul_ediv (-a) b
          have hm0 := Int.emod_nonneg (-a) (show b ≠ 0 by omega)
          have hm1 := Int.emod_lt_of_pos (-a) hb'
          split
          · rename_i hz
            apply Int.ediv_eq_of_eq_mul_right (by omega)
            rw [hz] at hm
            rw [Int.mul_neg]
            omega
          · rename_i hz
            have : a = (b - (-a) % b) + b * (-((-a) / b) - 1) := by rw [Int.mul_sub, Int.mul_neg]; omega
            conv => lhs; rw [this]
            rw [Int.add_mul_ediv_left _ _ (by omega), Int.ediv_eq_zero_of_lt (by omega) (by omega), Int.zero_add]
        rw [h1, h2, h3]
        by_cases hz : (-a) % b = 0
        · rw [if_neg (by simp [hz]), if_pos hz]
        · rw [if_pos ⟨by omega, by simp [ha, hb]⟩, if_neg hz]
      · have h1 : a.tdiv b = a / b := Int.tdiv_eq_ediv_of_nonneg (by omega)
        rw [if_neg (by simp [ha, hb]), h1]

theorem hull_fold (l : List Int) : ∀ h : Int × Int, (l.foldl (fun h n => (min h.1 n, max h.2 n)) h).1 ≤ h.1 ∧ h.2 ≤ (l.foldl (fun h n => (min h.1 n, max h.2 n)) h).2 ∧
    (∀ n ∈ l, (l.foldl (fun h n => (min h.1 n, max h.2 n)) h).1 ≤ n ∧ n ≤ (l.foldl (fun h n => (min h.1 n, max h.2 n)) h).2) ∧
    ((l.foldl (fun h n => (min h.1 n, max h.2 n)) h).1 = h.1 ∨ (l.foldl (fun h n => (min h.1 n, max h.2 n)) h).1 ∈ l) ∧
    ((l.foldl (fun h n => (min h.1 n, max h.2 n)) h).2 = h.2 ∨ (l.foldl (fun h n => (min h.1 n, max h.2 n)) h).2 ∈ l) := by
  induction l with
  | nil => intro h; exact ⟨Int.le_refl _, Int.le_refl _, fun n hn => by (cases hn), .inl rfl, .inl rfl⟩
  | cons x l ih =>
    intro h
    obtain ⟨h1, h2, h3, h4, h5⟩ := ih (min h.1 x, max h.2 x)
    simp only [List.foldl_cons] at *
    refine ⟨by omega, by omega, fun n hn => ?_, ?_, ?_⟩
    · rcases List.mem_cons.1 hn with rfl | hn
      · omega
      · exact h3 n hn
    · rcases h4 with h4 | h4
      · by_cases e : h.1 ≤ x
        · left; omega
        · right; rw [h4]; have : min h.1 x = x := by omega
          rw [this]; simp
      · right; exact List.mem_cons_of_mem _ h4
    · rcases h5 with h5 | h5
      · by_cases e : x ≤ h.2
        · left; omega
        · right; rw [h5]; have : max h.2 x = x := by omega
          rw [this]; simp
      · right; exact List.mem_cons_of_mem _ h5
theorem hull_in {l : List Int} {n : Int} (h : n ∈ l) : (hullL l).1 ≤ n ∧ n ≤ (hullL l).2 := by
  cases l with
  | nil => cases h
  | cons x l =>
    obtain ⟨h1, h2, h3, _, _⟩ := hull_fold l (x, x)
    show (l.foldl _ (x, x)).1 ≤ n ∧ n ≤ (l.foldl _ (x, x)).2
    rcases List.mem_cons.1 h with rfl | h
    · exact ⟨h1, h2⟩
    · exact h3 n h
theorem hull_mem {l : List Int} (h : l ≠ []) : (hullL l).1 ∈ l ∧ (hullL l).2 ∈ l := by
  cases l with
  | nil => exact absurd rfl h
  | cons x l =>
    obtain ⟨_, _, _, h4, h5⟩ := hull_fold l (x, x)
    constructor
    · show (l.foldl _ (x, x)).1 ∈ _
      rcases h4 with h4 | h4
      · rw [h4]; simp
      · exact List.mem_cons_of_mem _ h4
    · show (l.foldl _ (x, x)).2 ∈ _
      rcases h5 with h5 | h5
      · rw [h5]; simp
      · exact List.mem_cons_of_mem _ h5

/-- n lies within the bounds x. -/
def within (n : Int) (x : Int × Int) : Prop := x.1 ≤ n ∧ n ≤ x.2
theorem lin_mul {p q a b : Int} (h1 : p ≤ a) (h2 : a ≤ q) : min (p * b) (q * b) ≤ a * b ∧ a * b ≤ max (p * b) (q * b) := by
  rcases Int.le_total 0 b with hb | hb
  · have e1 := Int.mul_le_mul_of_nonneg_right h1 hb
    have e2 := Int.mul_le_mul_of_nonneg_right h2 hb
    omega
  · have e1 := Int.mul_le_mul_of_nonpos_right h1 hb
    have e2 := Int.mul_le_mul_of_nonpos_right h2 hb
    omega
theorem mul_box {x y : Int × Int} {a b : Int} (ha : within a x) (hb : within b y) :
    min (min (x.1 * y.1) (x.1 * y.2)) (min (x.2 * y.1) (x.2 * y.2)) ≤ a * b ∧ a * b ≤ max (max (x.1 * y.1) (x.1 * y.2)) (max (x.2 * y.1) (x.2 * y.2)) := by
  have h1 := lin_mul (b := b) ha.1 ha.2
  have h2 := lin_mul (b := x.1) hb.1 hb.2
  have h3 := lin_mul (b := x.2) hb.1 hb.2
  simp only [Int.mul_comm _ x.1, Int.mul_comm _ x.2] at h2 h3
  omega
theorem times_in {a b : Int} (h : ¬ beyondL (timesL a b) = true) : timesL a b = a * b := by
  unfold timesL MB at *
  unfold beyondL MB at h
  simp only [Bool.or_eq_true, decide_eq_true_eq, not_or] at h
  split
  · rename_i h1; rw [if_pos h1] at h; omega
  · split
    · rename_i h1 h2; rw [if_neg h1, if_pos h2] at h; omega
    · rfl
theorem times_of {a b : Int} (h : -MB ≤ a * b ∧ a * b ≤ MB) : timesL a b = a * b := by
  unfold timesL MB at *
  rw [if_neg (by omega), if_neg (by omega)]
theorem quot_mono {a a' b : Int} (hb : 0 < b) (h : a ≤ a') : quot a b ≤ quot a' b := by
  unfold quot
  rw [if_neg (by omega), if_neg (by omega), if_neg (by omega), if_neg (by omega)]
  exact Int.ediv_le_ediv hb h
theorem quot_neg (a b : Int) : quot (-a) (-b) = quot a b := by
  unfold quot
  by_cases h0 : b = 0
  · subst h0; rfl
  · by_cases h1 : b < 0
    · rw [if_neg (by omega), if_neg (by omega), if_neg h0, if_pos h1]
    · rw [if_neg (by omega), if_pos (by omega), if_neg h0, if_neg h1, Int.neg_neg, Int.neg_neg]
theorem div_antitone {a b b' : Int} (ha : 0 ≤ a) (hb : 0 < b) (h : b ≤ b') : a / b' ≤ a / b := by
  rw [Int.le_ediv_iff_mul_le hb]
  have h1 := Int.ediv_mul_le a (show b' ≠ 0 by omega)
  have h2 : a / b' * b ≤ a / b' * b' := Int.mul_le_mul_of_nonneg_left h (Int.ediv_nonneg ha (by omega))
  omega
theorem div_monotone {a b b' : Int} (ha : a < 0) (hb : 0 < b) (h : b ≤ b') : a / b ≤ a / b' := by
  rw [Int.le_ediv_iff_mul_le (by omega)]
  have h1 := Int.ediv_mul_le a (show b ≠ 0 by omega)
  have hneg : a / b ≤ 0 := by
    have := Int.ediv_le_ediv hb (show a ≤ 0 by omega)
    rwa [Int.zero_ediv] at this
  have h2 : a / b * b' ≤ a / b * b := Int.mul_le_mul_of_nonpos_left hneg h
  omega
theorem quot_pos_box {a p q b : Int} (hp : 0 < p) (h1 : p ≤ b) (h2 : b ≤ q) : min (quot a p) (quot a q) ≤ quot a b ∧ quot a b ≤ max (quot a p) (quot a q) := by
  unfold quot
  rw [if_neg (show ¬ p = 0 by omega), if_neg (show ¬ p < 0 by omega), if_neg (show ¬ q = 0 by omega), if_neg (show ¬ q < 0 by omega), if_neg (show ¬ b = 0 by omega), if_neg (show ¬ b < 0 by omega)]
  by_cases ha : a < 0
  · have := div_monotone ha hp h1
    have := div_monotone ha (show 0 < b by omega) h2
    omega
  · have := div_antitone (show 0 ≤ a by omega) hp h1
    have := div_antitone (show 0 ≤ a by omega) (show 0 < b by omega) h2
    omega
theorem quot_neg_box {a p q b : Int} (hq : q < 0) (h1 : p ≤ b) (h2 : b ≤ q) : min (quot a p) (quot a q) ≤ quot a b ∧ quot a b ≤ max (quot a p) (quot a q) := by
  have h := quot_pos_box (a := -a) (p := -q) (q := -p) (b := -b) (by omega) (by omega) (by omega)
  rw [quot_neg, quot_neg, quot_neg] at h
  omega
/-- All quotients lie between those of the ends of the dividend. -/
theorem quot_dividend {x : Int × Int} {a : Int} (ha : within a x) (b : Int) : min (quot x.1 b) (quot x.2 b) ≤ quot a b ∧ quot a b ≤ max (quot x.1 b) (quot x.2 b) := by
  rcases Int.lt_trichotomy b 0 with hb | hb | hb
  · have h1 := quot_mono (a := -x.2) (a' := -a) (b := -b) (by omega) (by have := ha.2; omega)
    have h2 := quot_mono (a := -a) (a' := -x.1) (b := -b) (by omega) (by have := ha.1; omega)
    rw [quot_neg, quot_neg] at h1 h2
    omega
  · subst hb
    unfold quot
    simp
  · have h1 := quot_mono hb ha.1
    have h2 := quot_mono hb ha.2
    omega
theorem div_cands {x y : Int × Int} (b : Int) (hb : b ∈ divBy y) : overL x.1 b ∈ ((divBy y).flatMap fun b => [overL x.1 b, overL x.2 b]) ∧ overL x.2 b ∈ ((divBy y).flatMap fun b => [overL x.1 b, overL x.2 b]) :=
  ⟨List.mem_flatMap.2 ⟨b, hb, by simp⟩, List.mem_flatMap.2 ⟨b, hb, by simp⟩⟩
theorem div_ne (x y : Int × Int) : ((divBy y).flatMap fun b => [overL x.1 b, overL x.2 b]) ≠ [] := by
  unfold divBy
  split <;> simp
theorem div_sound {x y : Int × Int} {a b : Int} (ha : within a x) (hb : within b y) :
    (hullL ((divBy y).flatMap fun b => [overL x.1 b, overL x.2 b])).1 ≤ quot a b ∧ quot a b ≤ (hullL ((divBy y).flatMap fun b => [overL x.1 b, overL x.2 b])).2 := by
  generalize hH : (divBy y).flatMap (fun b => [overL x.1 b, overL x.2 b]) = H
  have hin : ∀ c, c ∈ divBy y → (hullL H).1 ≤ quot x.1 c ∧ quot x.1 c ≤ (hullL H).2 ∧ (hullL H).1 ≤ quot x.2 c ∧ quot x.2 c ≤ (hullL H).2 := by
    intro c hc
    obtain ⟨h1, h2⟩ := div_cands (x := x) c hc
    rw [hH] at h1 h2
    have h3 := hull_in h1
    have h4 := hull_in h2
    rw [over_eq] at h3 h4
    exact ⟨h3.1, h3.2, h4.1, h4.2⟩
  -- between two divisors of the list
  have two : ∀ p q, p ∈ divBy y → q ∈ divBy y → (∀ d, min (quot d p) (quot d q) ≤ quot d b ∧ quot d b ≤ max (quot d p) (quot d q)) → (hullL H).1 ≤ quot a b ∧ quot a b ≤ (hullL H).2 := by
    intro p q hp hq hd
    have h0 := quot_dividend ha b
    have h1 := hd x.1
    have h2 := hd x.2
    have h3 := hin p hp
    have h4 := hin q hq
    omega
  obtain ⟨hb1, hb2⟩ := hb
  unfold divBy at two hin
  by_cases hz : y.1 ≤ 0 ∧ 0 ≤ y.2
  · rw [if_pos hz] at two hin
    rcases Int.lt_trichotomy b 0 with h | h | h
    · have e : max (-1) y.1 = -1 := by omega
      rw [e] at two
      exact two y.1 (-1) (by simp) (by simp) (fun d => quot_neg_box (by omega) hb1 (by omega))
    · subst h
      have h3 := hin 0 (by simp)
      have e0 : ∀ d, quot d 0 = 0 := fun d => rfl
      rw [e0] at h3 ⊢
      exact ⟨h3.1, h3.2.1⟩
    · have e : min 1 y.2 = 1 := by omega
      rw [e] at two
      exact two 1 y.2 (by simp) (by simp) (fun d => quot_pos_box (by omega) (by omega) hb2)
  · rw [if_neg hz] at two hin
    by_cases hneg : y.2 < 0
    · exact two y.1 y.2 (by simp) (by simp) (fun d => quot_neg_box hneg hb1 hb2)
    · exact two y.1 y.2 (by simp) (by simp) (fun d => quot_pos_box (by omega) hb1 hb2)
theorem flags_mem (m n : Bool) : (flagsL m n).1 ≤ (flagsL m n).2 ∧ ((flagsL m n).1 = 0 ∨ (flagsL m n).1 = 1) ∧ ((flagsL m n).2 = 0 ∨ (flagsL m n).2 = 1) := by
  cases m <;> cases n <;> decide

/-- The bounds of an operator hold for all values within the bounds of its operands. -/
theorem node_sound {op : Int} {x y z : Int × Int} {a b c : Int} (hx : within a x) (hy : within b y) (hz : within c z) (hop : 3 ≤ op ∧ op ≤ 12)
    (h1 : beyondL (nodeB op x y z).1 = false) (h2 : beyondL (nodeB op x y z).2 = false) : within (opV op a b c) (nodeB op x y z) := by
  unfold within at *
  unfold opV nodeB
  by_cases e3 : op = 3
  · rw [if_pos e3, if_pos e3]; show x.1 + y.1 ≤ _ ∧ _ ≤ x.2 + y.2; omega
  rw [if_neg e3, if_neg e3]
  by_cases e4 : op = 4
  · rw [if_pos e4, if_pos e4]; show x.1 - y.2 ≤ _ ∧ _ ≤ x.2 - y.1; omega
  rw [if_neg e4, if_neg e4]
  by_cases e5 : op = 5
  · rw [if_pos e5, if_pos e5]
    unfold nodeB at h1 h2
    rw [if_neg e3, if_neg e4, if_pos e5] at h1 h2
    generalize hH : hullL [timesL x.1 y.1, timesL x.1 y.2, timesL x.2 y.1, timesL x.2 y.2] = H at h1 h2 ⊢
    have k : ∀ n ∈ [timesL x.1 y.1, timesL x.1 y.2, timesL x.2 y.1, timesL x.2 y.2], H.1 ≤ n ∧ n ≤ H.2 := fun n hn => by rw [← hH]; exact hull_in hn
    have k1 := k (timesL x.1 y.1) (by simp)
    have k2 := k (timesL x.1 y.2) (by simp)
    have k3 := k (timesL x.2 y.1) (by simp)
    have k4 := k (timesL x.2 y.2) (by simp)
    have nb : ∀ n, H.1 ≤ n ∧ n ≤ H.2 → ¬ beyondL n = true := by
      intro n hn
      unfold beyondL at *
      simp only [Bool.or_eq_false_iff, decide_eq_false_iff_not] at h1 h2
      simp only [Bool.or_eq_true, decide_eq_true_eq, not_or]
      omega
    rw [times_in (nb _ k1)] at k1
    rw [times_in (nb _ k2)] at k2
    rw [times_in (nb _ k3)] at k3
    rw [times_in (nb _ k4)] at k4
    have hm := mul_box (x := x) (y := y) hx hy
    omega
  rw [if_neg e5, if_neg e5]
  by_cases e6 : op = 6
  · rw [if_pos e6, if_pos e6]; exact div_sound hx hy
  rw [if_neg e6, if_neg e6]
  by_cases e7 : op = 7
  · rw [if_pos e7, if_pos e7]; show min x.1 y.1 ≤ _ ∧ _ ≤ min x.2 y.2; omega
  rw [if_neg e7, if_neg e7]
  by_cases e8 : op = 8
  · rw [if_pos e8, if_pos e8]; show max x.1 y.1 ≤ _ ∧ _ ≤ max x.2 y.2; omega
  rw [if_neg e8, if_neg e8]
  by_cases e9 : op = 9
  · rw [if_pos e9, if_pos e9]
    have q1 := hull_in (l := [y.1, y.2, z.1, z.2]) (n := y.1) (by simp)
    have q2 := hull_in (l := [y.1, y.2, z.1, z.2]) (n := y.2) (by simp)
    have q3 := hull_in (l := [y.1, y.2, z.1, z.2]) (n := z.1) (by simp)
    have q4 := hull_in (l := [y.1, y.2, z.1, z.2]) (n := z.2) (by simp)
    generalize hullL [y.1, y.2, z.1, z.2] = H at q1 q2 q3 q4
    by_cases g1 : 0 < x.1
    · rw [if_pos g1, if_pos (by omega)]; exact hy
    · rw [if_neg g1]
      by_cases g2 : x.2 ≤ 0
      · rw [if_pos g2, if_neg (by omega)]; exact hz
      · rw [if_neg g2]
        split <;> omega
  rw [if_neg e9, if_neg e9]
  by_cases e10 : op = 10
  · rw [if_pos e10, if_pos e10]
    unfold flagsL
    simp only [decide_eq_false_iff_not]
    split <;> split <;> (try split) <;> simp <;> omega
  rw [if_neg e10, if_neg e10]
  by_cases e11 : op = 11
  · rw [if_pos e11, if_pos e11]
    unfold flagsL
    simp only [decide_eq_false_iff_not, Bool.or_eq_false_iff, Decidable.not_not]
    split <;> split <;> (try split) <;> simp <;> omega
  rw [if_neg e11, if_neg e11]
  show -x.2 ≤ _ ∧ _ ≤ -x.1
  omega

/-- Both bounds of an operator are values for some ends, or some values, within the bounds of its operands; of a product: unless it is beyond the bounds. -/
theorem node_tight {op : Int} {x y z : Int × Int} (hx : x.1 ≤ x.2) (hy : y.1 ≤ y.2) (hz : z.1 ≤ z.2) (hop : 3 ≤ op ∧ op ≤ 12) (h5 : op = 5 → ∀ a b, within a x → within b y → -MB ≤ a * b ∧ a * b ≤ MB) :
    (∃ a b c, within a x ∧ within b y ∧ within c z ∧ opV op a b c = (nodeB op x y z).1) ∧ ∃ a b c, within a x ∧ within b y ∧ within c z ∧ opV op a b c = (nodeB op x y z).2 := by
  have wx1 : within x.1 x := ⟨Int.le_refl _, hx⟩
  have wx2 : within x.2 x := ⟨hx, Int.le_refl _⟩
  have wy1 : within y.1 y := ⟨Int.le_refl _, hy⟩
  have wy2 : within y.2 y := ⟨hy, Int.le_refl _⟩
  have wz1 : within z.1 z := ⟨Int.le_refl _, hz⟩
  have wz2 : within z.2 z := ⟨hz, Int.le_refl _⟩
  unfold opV nodeB
  by_cases e3 : op = 3
  · simp only [if_pos e3]; exact ⟨⟨_, _, _, wx1, wy1, wz1, rfl⟩, _, _, _, wx2, wy2, wz1, rfl⟩
  simp only [if_neg e3]
  by_cases e4 : op = 4
  · simp only [if_pos e4]; exact ⟨⟨_, _, _, wx1, wy2, wz1, rfl⟩, _, _, _, wx2, wy1, wz1, rfl⟩
  simp only [if_neg e4]
  by_cases e5 : op = 5
  · simp only [if_pos e5]
    have t11 := times_of (h5 e5 _ _ wx1 wy1)
    have t12 := times_of (h5 e5 _ _ wx1 wy2)
    have t21 := times_of (h5 e5 _ _ wx2 wy1)
    have t22 := times_of (h5 e5 _ _ wx2 wy2)
    obtain ⟨m1, m2⟩ := hull_mem (l := [timesL x.1 y.1, timesL x.1 y.2, timesL x.2 y.1, timesL x.2 y.2]) (by simp)
    rw [t11, t12, t21, t22] at m1 m2 ⊢
    have key : ∀ n, n ∈ [x.1 * y.1, x.1 * y.2, x.2 * y.1, x.2 * y.2] → ∃ a b c, within a x ∧ within b y ∧ within c z ∧ a * b = n := by
      intro n hn
      simp only [List.mem_cons, List.not_mem_nil, or_false] at hn
      rcases hn with rfl | rfl | rfl | rfl
      · exact ⟨_, _, _, wx1, wy1, wz1, rfl⟩
      · exact ⟨_, _, _, wx1, wy2, wz1, rfl⟩
      · exact ⟨_, _, _, wx2, wy1, wz1, rfl⟩
      · exact ⟨_, _, _, wx2, wy2, wz1, rfl⟩
    exact ⟨key _ m1, key _ m2⟩
  simp only [if_neg e5]
  by_cases e6 : op = 6
  · simp only [if_pos e6]
    obtain ⟨m1, m2⟩ := hull_mem (div_ne x y)
    have key : ∀ n, n ∈ ((divBy y).flatMap fun b => [overL x.1 b, overL x.2 b]) → ∃ a b c, within a x ∧ within b y ∧ within c z ∧ quot a b = n := by
      intro n hn
      obtain ⟨b, hb, hn⟩ := List.mem_flatMap.1 hn
      have wb : within b y := by
        unfold divBy at hb
        unfold within
        split at hb
        · simp only [List.mem_cons, List.not_mem_nil, or_false] at hb
          omega
        · simp only [List.mem_cons, List.not_mem_nil, or_false] at hb
          omega
      simp only [List.mem_cons, List.not_mem_nil, or_false, over_eq] at hn
      rcases hn with rfl | rfl
      · exact ⟨_, _, _, wx1, wb, wz1, rfl⟩
      · exact ⟨_, _, _, wx2, wb, wz1, rfl⟩
    exact ⟨key _ m1, key _ m2⟩
  simp only [if_neg e6]
  by_cases e7 : op = 7
  · simp only [if_pos e7]; exact ⟨⟨_, _, _, wx1, wy1, wz1, rfl⟩, _, _, _, wx2, wy2, wz1, rfl⟩
  simp only [if_neg e7]
  by_cases e8 : op = 8
  · simp only [if_pos e8]; exact ⟨⟨_, _, _, wx1, wy1, wz1, rfl⟩, _, _, _, wx2, wy2, wz1, rfl⟩
  simp only [if_neg e8]
  by_cases e9 : op = 9
  · simp only [if_pos e9]
    by_cases g1 : 0 < x.1
    · simp only [if_pos g1]
      exact ⟨⟨_, _, _, wx1, wy1, wz1, if_pos g1⟩, _, _, _, wx1, wy2, wz1, if_pos g1⟩
    · simp only [if_neg g1]
      by_cases g2 : x.2 ≤ 0
      · simp only [if_pos g2]
        exact ⟨⟨_, _, _, wx1, wy1, wz1, if_neg g1⟩, _, _, _, wx1, wy1, wz2, if_neg g1⟩
      · simp only [if_neg g2]
        have g3 : 0 < x.2 := by omega
        obtain ⟨m1, m2⟩ := hull_mem (l := [y.1, y.2, z.1, z.2]) (by simp)
        have key : ∀ n, n ∈ [y.1, y.2, z.1, z.2] → ∃ a b c, within a x ∧ within b y ∧ within c z ∧ (if 0 < a then b else c) = n := by
          intro n hn
          simp only [List.mem_cons, List.not_mem_nil, or_false] at hn
          rcases hn with rfl | rfl | rfl | rfl
          · exact ⟨_, _, _, wx2, wy1, wz1, if_pos g3⟩
          · exact ⟨_, _, _, wx2, wy2, wz1, if_pos g3⟩
          · exact ⟨_, _, _, wx1, wy1, wz1, if_neg g1⟩
          · exact ⟨_, _, _, wx1, wy1, wz2, if_neg g1⟩
        exact ⟨key _ m1, key _ m2⟩
  simp only [if_neg e9]
  by_cases e10 : op = 10
  · simp only [if_pos e10]
    unfold flagsL
    simp only [decide_eq_false_iff_not]
    by_cases m : x.1 < y.2
    · rw [if_neg (by simpa using m)]
      have v1 : (if x.1 < y.2 then (1 : Int) else 0) = 1 := if_pos m
      by_cases k : y.1 ≤ x.2
      · rw [if_neg (by simpa using k)]
        have v2 : (if x.2 < y.1 then (1 : Int) else 0) = 0 := if_neg (by omega)
        exact ⟨⟨_, _, _, wx2, wy1, wz1, v2⟩, _, _, _, wx1, wy2, wz1, v1⟩
      · rw [if_pos k]
        exact ⟨⟨_, _, _, wx1, wy2, wz1, v1⟩, _, _, _, wx1, wy2, wz1, v1⟩
    · rw [if_pos m]
      have v : (if x.1 < y.1 then (1 : Int) else 0) = 0 := if_neg (by omega)
      exact ⟨⟨_, _, _, wx1, wy1, wz1, v⟩, _, _, _, wx1, wy1, wz1, v⟩
  simp only [if_neg e10]
  by_cases e11 : op = 11
  · simp only [if_pos e11]
    unfold flagsL
    simp only [decide_eq_false_iff_not, Bool.or_eq_false_iff, Decidable.not_not]
    by_cases m : max x.1 y.1 ≤ min x.2 y.2
    · rw [if_neg (by simpa using m)]
      have wa : within (max x.1 y.1) x := by unfold within; omega
      have wb : within (max x.1 y.1) y := by unfold within; omega
      have v1 : (if max x.1 y.1 = max x.1 y.1 then (1 : Int) else 0) = 1 := if_pos rfl
      by_cases k : (x.1 = x.2 ∧ y.1 = y.2) ∧ x.1 = y.1
      · rw [if_pos k]
        exact ⟨⟨_, _, _, wa, wb, wz1, v1⟩, _, _, _, wa, wb, wz1, v1⟩
      · rw [if_neg k]
        refine ⟨?_, _, _, _, wa, wb, wz1, v1⟩
        by_cases d : x.1 = y.1
        · by_cases d2 : x.1 = x.2
          · exact ⟨x.1, y.2, z.1, wx1, wy2, wz1, if_neg (by omega)⟩
          · exact ⟨x.2, y.1, z.1, wx2, wy1, wz1, if_neg (by omega)⟩
        · exact ⟨x.1, y.1, z.1, wx1, wy1, wz1, if_neg d⟩
    · rw [if_pos m]
      have v : (if x.1 = y.1 then (1 : Int) else 0) = 0 := if_neg (by omega)
      exact ⟨⟨_, _, _, wx1, wy1, wz1, v⟩, _, _, _, wx1, wy1, wz1, v⟩
  simp only [if_neg e11]
  exact ⟨⟨_, _, _, wx2, wy1, wz1, rfl⟩, _, _, _, wx1, wy1, wz1, rfl⟩
end Go.Proofs.YtkomgidcgepknaaGreatDoor

/-
  Chapter 22: the bounds of an expression are sound, and narrower for narrower ranges. No program.
-/
namespace Go.Proofs.YtkomgidcgepknaaGreatDoor

def valAt (vs : List Int) (i : Int) : Int := vs.getD i.toNat 0
/-- The value of one node: none if a name has none, or it is beyond the bounds. -/
def stepV (σ : ByteArray → Option Int) (vs : List Int) (x : Nod) : Option Int :=
  if x.op = 1 then (if beyondL x.n = true then none else some x.n)
  else if x.op = 2 then (match σ x.name with | some v => if beyondL v = true then none else some v | none => none)
  else if beyondL (opV x.op (valAt vs (kidAt x 0)) (valAt vs (kidAt x 1)) (valAt vs (kidAt x 2))) = true then none
  else some (opV x.op (valAt vs (kidAt x 0)) (valAt vs (kidAt x 1)) (valAt vs (kidAt x 2)))
def goV (σ : ByteArray → Option Int) : List Int → List Nod → Option (List Int)
  | vs, [] => some vs
  | vs, x :: e => match stepV σ vs x with
    | none => none
    | some v => goV σ (vs ++ [v]) e
/-- What is asked of a node. -/
def nodeOk (x : Nod) : Prop := 1 ≤ x.op ∧ x.op ≤ 12 ∧ (x.op = 1 → 0 ≤ x.n ∧ x.n ≤ 1000000)
theorem formed_ok {x : Nod} (h : formedL x = true) : nodeOk x := by
  unfold formedL operands at h
  rw [Bool.and_eq_true, decide_eq_true_eq] at h
  obtain ⟨h1, h2⟩ := h
  refine ⟨?_, ?_, fun e => ?_⟩
  · by_cases e1 : x.op = 1 ∨ x.op = 2
    · omega
    · rw [if_neg e1] at h1
      by_cases e2 : x.op = 12
      · omega
      · rw [if_neg e2] at h1
        by_cases e3 : x.op = 9
        · omega
        · rw [if_neg e3] at h1
          by_cases e4 : 3 ≤ x.op ∧ x.op ≤ 11
          · omega
          · rw [if_neg e4] at h1; omega
  · by_cases e1 : x.op = 1 ∨ x.op = 2
    · omega
    · rw [if_neg e1] at h1
      by_cases e2 : x.op = 12
      · omega
      · rw [if_neg e2] at h1
        by_cases e3 : x.op = 9
        · omega
        · rw [if_neg e3] at h1
          by_cases e4 : 3 ≤ x.op ∧ x.op ≤ 11
          · omega
          · rw [if_neg e4] at h1; omega
  · rw [if_pos e] at h2
    simp only [Bool.and_eq_true, decide_eq_true_eq] at h2
    omega

structure Ws (vs : List Int) (all : List (Int × Int)) : Prop where
  len : vs.length = all.length
  at_ : ∀ i : Nat, within (vs.getD i 0) (all.getD i (0, 0))
theorem Ws.nil : Ws [] [] := ⟨rfl, fun i => by simp [within]⟩
theorem Ws.snoc {vs : List Int} {all : List (Int × Int)} (h : Ws vs all) {v : Int} {s : Int × Int} (hv : within v s) : Ws (vs ++ [v]) (all ++ [s]) := by
  refine ⟨by simp [h.len], fun i => ?_⟩
  by_cases hi : i < vs.length
  · have := h.at_ i
    simp only [List.getD_eq_getElem?_getD] at this ⊢
    rw [List.getElem?_append_left hi, List.getElem?_append_left (by rw [← h.len]; exact hi)]
    exact this
  · by_cases he : i = vs.length
    · subst he
      simp only [List.getD_eq_getElem?_getD]
      rw [List.getElem?_append_right (Nat.le_refl _), List.getElem?_append_right (by rw [h.len]; exact Nat.le_refl _), h.len]
      simp [hv]
    · simp only [List.getD_eq_getElem?_getD]
      rw [List.getElem?_eq_none (by simp; omega), List.getElem?_eq_none (by simp; have := h.len; omega)]
      simp [within]
theorem beyond_not {n : Int} : beyondL n = false ↔ -MB ≤ n ∧ n ≤ MB := by
  unfold beyondL
  simp only [Bool.or_eq_false_iff, decide_eq_false_iff_not]
  omega
theorem beyond_within {v : Int} {s : Int × Int} (h : within v s) (h1 : beyondL s.1 = false) (h2 : beyondL s.2 = false) : beyondL v = false := by
  rw [beyond_not] at *
  unfold within at h
  omega
/-- Values within the ranges of a list. -/
def Fits (l : List Rng) (σ : ByteArray → Option Int) : Prop := ∀ t s, look l t = some s → beyondL s.1 = false ∧ beyondL s.2 = false ∧ ∃ v, σ t = some v ∧ within v s
theorem step_sound {l : List Rng} {σ : ByteArray → Option Int} (hf : Fits l σ) {vs : List Int} {all : List (Int × Int)} (hw : Ws vs all) {x : Nod} (hx : nodeOk x) {s : Int × Int} (h : stepB l all x = .ok s) :
    (∃ v, stepV σ vs x = some v ∧ within v s) ∧ beyondL s.1 = false ∧ beyondL s.2 = false := by
  unfold stepB at h
  unfold stepV
  obtain ⟨o1, o2, o3⟩ := hx
  by_cases e1 : x.op = 1
  · rw [if_pos e1] at h ⊢
    injection h with h
    subst h
    have hb : beyondL x.n = false := by rw [beyond_not]; have := o3 e1; unfold MB; omega
    rw [if_neg (by rw [hb]; decide)]
    exact ⟨⟨_, rfl, Int.le_refl _, Int.le_refl _⟩, hb, hb⟩
  · rw [if_neg e1] at h ⊢
    by_cases e2 : x.op = 2
    · rw [if_pos e2] at h ⊢
      cases hl : look l x.name with
      | none => rw [hl] at h; cases h
      | some s' =>
        rw [hl] at h
        injection h with h
        subst h
        obtain ⟨b1, b2, v, hv, hwv⟩ := hf _ _ hl
        rw [hv]
        refine ⟨⟨v, ?_, hwv⟩, b1, b2⟩
        show (if _ then _ else _) = _
        rw [if_neg (by rw [beyond_within hwv b1 b2]; decide)]
    · rw [if_neg e2] at h ⊢
      split at h
      · cases h
      · rename_i hb
        injection h with h
        subst h
        rw [Bool.not_eq_true, Bool.or_eq_false_iff] at hb
        have hs := node_sound (op := x.op) (hw.at_ (kidAt x 0).toNat) (hw.at_ (kidAt x 1).toNat) (hw.at_ (kidAt x 2).toNat) (by omega) hb.1 hb.2
        refine ⟨⟨_, ?_, hs⟩, hb⟩
        rw [if_neg]
        · rfl
        · have := beyond_within hs hb.1 hb.2
          unfold valAt
          rw [this]
          decide
theorem go_sound {l : List Rng} {σ : ByteArray → Option Int} (hf : Fits l σ) : ∀ (e : List Nod) (vs : List Int) (all all' : List (Int × Int)), Ws vs all → (∀ x ∈ e, nodeOk x) → goB l all e = .ok all' → ∃ vs', goV σ vs e = some vs' ∧ Ws vs' all'
  | [], vs, all, all', hw, _, h => by
    injection h with h
    subst h
    exact ⟨vs, rfl, hw⟩
  | x :: e, vs, all, all', hw, hx, h => by
    unfold goB at h
    cases hs : stepB l all x with
    | error r => rw [hs] at h; cases h
    | ok s =>
      rw [hs] at h
      obtain ⟨⟨v, hv, hwv⟩, _, _⟩ := step_sound hf hw (hx x (by simp)) hs
      obtain ⟨vs', h1, h2⟩ := go_sound hf e _ _ all' (hw.snoc hwv) (fun y hy => hx y (by simp [hy])) h
      refine ⟨vs', ?_, h2⟩
      unfold goV
      rw [hv]
      exact h1
theorem go_len {l : List Rng} : ∀ (e : List Nod) (all all' : List (Int × Int)), goB l all e = .ok all' → all'.length = all.length + e.length
  | [], all, all', h => by injection h with h; subst h; rfl
  | x :: e, all, all', h => by
    unfold goB at h
    cases hs : stepB l all x with
    | error r => rw [hs] at h; cases h
    | ok s =>
      rw [hs] at h
      have := go_len e _ _ h
      rw [this]
      simp
      omega

/-- x lies within y, and is a range. -/
def sub2 (x y : Int × Int) : Prop := y.1 ≤ x.1 ∧ x.1 ≤ x.2 ∧ x.2 ≤ y.2
structure Ss (as bs : List (Int × Int)) : Prop where
  len : as.length = bs.length
  at_ : ∀ i : Nat, sub2 (as.getD i (0, 0)) (bs.getD i (0, 0))
theorem Ss.nil : Ss [] [] := ⟨rfl, fun i => by simp [sub2]⟩
theorem Ss.snoc {as bs : List (Int × Int)} (h : Ss as bs) {v s : Int × Int} (hv : sub2 v s) : Ss (as ++ [v]) (bs ++ [s]) := by
  refine ⟨by simp [h.len], fun i => ?_⟩
  by_cases hi : i < as.length
  · have := h.at_ i
    simp only [List.getD_eq_getElem?_getD] at this ⊢
    rw [List.getElem?_append_left hi, List.getElem?_append_left (by rw [← h.len]; exact hi)]
    exact this
  · by_cases he : i = as.length
    · subst he
      simp only [List.getD_eq_getElem?_getD]
      rw [List.getElem?_append_right (Nat.le_refl _), List.getElem?_append_right (by rw [h.len]; exact Nat.le_refl _), h.len]
      simp [hv]
    · simp only [List.getD_eq_getElem?_getD]
      rw [List.getElem?_eq_none (by simp; omega), List.getElem?_eq_none (by simp; have := h.len; omega)]
      simp [sub2]
/-- The ranges of l lie within those of m. -/
def Narrow (l m : List Rng) : Prop := ∀ t s, look m t = some s → beyondL s.1 = false ∧ beyondL s.2 = false ∧ ∃ s', look l t = some s' ∧ sub2 s' s
theorem node_narrow {op : Int} {x y z x' y' z' : Int × Int} (hx : sub2 x' x) (hy : sub2 y' y) (hz : sub2 z' z) (hop : 3 ≤ op ∧ op ≤ 12) (h1 : beyondL (nodeB op x y z).1 = false) (h2 : beyondL (nodeB op x y z).2 = false) :
    sub2 (nodeB op x' y' z') (nodeB op x y z) := by
  have wi : ∀ {a : Int} {u v : Int × Int}, sub2 u v → within a u → within a v := fun h w => ⟨by have := h.1; have := w.1; omega, by have := h.2.2; have := w.2; omega⟩
  have big : ∀ a b c, within a x' → within b y' → within c z' → within (opV op a b c) (nodeB op x y z) := fun a b c ha hb hc => node_sound (wi hx ha) (wi hy hb) (wi hz hc) hop h1 h2
  rw [beyond_not] at h1 h2
  obtain ⟨⟨a, b, c, ha, hb, hc, e1⟩, a2, b2, c2, ha2, hb2, hc2, e2⟩ := node_tight (op := op) hx.2.1 hy.2.1 hz.2.1 hop (fun e a b ha hb => by
    have hw := big a b z'.1 ha hb ⟨Int.le_refl _, hz.2.1⟩
    unfold opV at hw
    rw [if_neg (by omega), if_neg (by omega), if_pos e] at hw
    unfold within at hw
    omega)
  have q1 := big a b c ha hb hc
  have q2 := big a2 b2 c2 ha2 hb2 hc2
  rw [e1] at q1
  rw [e2] at q2
  refine ⟨q1.1, ?_, q2.2⟩
  -- lower and upper bound: sound for the narrower box itself
  have b1 : beyondL (nodeB op x' y' z').1 = false := by rw [beyond_not]; unfold within at q1; omega
  have b2' : beyondL (nodeB op x' y' z').2 = false := by rw [beyond_not]; unfold within at q2; omega
  have := node_sound ha hb hc hop b1 b2'
  unfold within at this
  omega
theorem step_narrow {l m : List Rng} (hn : Narrow l m) {as bs : List (Int × Int)} (hw : Ss as bs) {x : Nod} (hx : nodeOk x) {s : Int × Int} (h : stepB m bs x = .ok s) : ∃ s', stepB l as x = .ok s' ∧ sub2 s' s := by
  unfold stepB at h ⊢
  obtain ⟨o1, o2, o3⟩ := hx
  by_cases e1 : x.op = 1
  · rw [if_pos e1] at h ⊢
    injection h with h
    subst h
    exact ⟨_, rfl, Int.le_refl _, Int.le_refl _, Int.le_refl _⟩
  · rw [if_neg e1] at h ⊢
    by_cases e2 : x.op = 2
    · rw [if_pos e2] at h ⊢
      cases hl : look m x.name with
      | none => rw [hl] at h; cases h
      | some s0 =>
        rw [hl] at h
        injection h with h
        subst h
        obtain ⟨_, _, s', h1, h2⟩ := hn _ _ hl
        rw [h1]
        exact ⟨s', rfl, h2⟩
    · rw [if_neg e2] at h ⊢
      split at h
      · cases h
      · rename_i hb
        injection h with h
        subst h
        rw [Bool.not_eq_true, Bool.or_eq_false_iff] at hb
        have hs := node_narrow (op := x.op) (hw.at_ (kidAt x 0).toNat) (hw.at_ (kidAt x 1).toNat) (hw.at_ (kidAt x 2).toNat) (by omega) hb.1 hb.2
        have k1 := beyond_not.1 hb.1
        have k2 := beyond_not.1 hb.2
        have b1 : beyondL (nodeB x.op (spanAt as (kidAt x 0)) (spanAt as (kidAt x 1)) (spanAt as (kidAt x 2))).1 = false := by
          rw [beyond_not]; unfold sub2 at hs; unfold spanAt at *; omega
        have b2 : beyondL (nodeB x.op (spanAt as (kidAt x 0)) (spanAt as (kidAt x 1)) (spanAt as (kidAt x 2))).2 = false := by
          rw [beyond_not]; unfold sub2 at hs; unfold spanAt at *; omega
        rw [if_neg (by rw [b1, b2]; decide)]
        exact ⟨_, rfl, hs⟩
theorem go_narrow {l m : List Rng} (hn : Narrow l m) : ∀ (e : List Nod) (as bs bs' : List (Int × Int)), Ss as bs → (∀ x ∈ e, nodeOk x) → goB m bs e = .ok bs' → ∃ as', goB l as e = .ok as' ∧ Ss as' bs'
  | [], as, bs, bs', hw, _, h => by
    injection h with h
    subst h
    exact ⟨as, rfl, hw⟩
  | x :: e, as, bs, bs', hw, hx, h => by
    unfold goB at h
    cases hs : stepB m bs x with
    | error r => rw [hs] at h; cases h
    | ok s =>
      rw [hs] at h
      obtain ⟨s', hs', hsub⟩ := step_narrow hn hw (hx x (by simp)) hs
      obtain ⟨as', h1, h2⟩ := go_narrow hn e _ _ bs' (hw.snoc hsub) (fun y hy => hx y (by simp [hy])) h
      refine ⟨as', ?_, h2⟩
      unfold goB
      rw [hs']
      exact h1
/-- Lists of ranges in which all names of an expression are found alike. -/
theorem go_same {l m : List Rng} : ∀ (e : List Nod) (all : List (Int × Int)), (∀ x ∈ e, x.op = 2 → look l x.name = look m x.name) → goB l all e = goB m all e
  | [], _, _ => rfl
  | x :: e, all, h => by
    have hs : stepB l all x = stepB m all x := by
      unfold stepB
      by_cases e2 : x.op = 2
      · rw [h x (by simp) e2]
      · rw [if_neg e2, if_neg e2]
    unfold goB
    rw [hs]
    cases stepB m all x with
    | error r => rfl
    | ok s => exact go_same e _ (fun y hy => h y (by simp [hy]))
end Go.Proofs.YtkomgidcgepknaaGreatDoor

/-
  Facts on bounds, node by node. No program.
-/
namespace Go.Proofs.YtkomgidcgepknaaGreatDoor

theorem scan_step {e : List Nod} {n : Nat} {os : List (Nat × Nat)} (h : scanN e (n + 1) = some os) : ∃ os0, scanN e n = some os0 ∧ formedL (nodAt e n) = true ∧ (nodAt e n).kids.reverse = (os0.take (nodAt e n).kids.length).map (fun x => (x.1 : Int)) ∧
    os = (n, deepest (os0.take (nodAt e n).kids.length) + 1) :: os0.drop (nodAt e n).kids.length := by
  have h' : (match scanN e n with
      | none => none
      | some os => if formedL (nodAt e n) = true ∧ (nodAt e n).kids.length ≤ os.length ∧ (nodAt e n).kids.reverse = (os.take (nodAt e n).kids.length).map (fun x => (x.1 : Int))
        then some ((n, deepest (os.take (nodAt e n).kids.length) + 1) :: os.drop (nodAt e n).kids.length) else none) = some os := h
  cases hs : scanN e n with
  | none => rw [hs] at h'; cases h'
  | some os0 =>
    rw [hs] at h'
    simp only at h'
    split at h'
    · rename_i hc
      injection h' with h'
      exact ⟨os0, rfl, hc.1, hc.2.2, h'.symm⟩
    · cases h'
theorem scan_lt {e : List Nod} : ∀ (n : Nat) (os : List (Nat × Nat)), scanN e n = some os → ∀ x ∈ os, x.1 < n
  | 0, os, h, x, hx => by
    injection h with h
    subst h
    cases hx
  | n + 1, os, h, x, hx => by
    obtain ⟨os0, h0, _, _, rfl⟩ := scan_step h
    rcases List.mem_cons.1 hx with rfl | hx
    · exact Nat.lt_succ_self _
    · have := scan_lt n os0 h0 x (List.mem_of_mem_drop hx)
      omega
theorem scan_down {e : List Nod} : ∀ (m : Nat), (∃ os, scanN e m = some os) → ∀ n, n ≤ m → ∃ os, scanN e n = some os
  | 0, h, n, hn => by
    obtain rfl : n = 0 := by omega
    exact h
  | m + 1, ⟨os, h⟩, n, hn => by
    by_cases hnm : n = m + 1
    · subst hnm; exact ⟨os, h⟩
    · obtain ⟨os0, h0, _⟩ := scan_step h
      exact scan_down m ⟨os0, h0⟩ n (by omega)
/-- In a valid expression each node is formed, and its operands stand before it. -/
theorem valid_nodes {e : List Nod} (h : validL e = true) : 1 ≤ e.length ∧ e.length ≤ 300 ∧ ∀ i, i < e.length → formedL (nodAt e i) = true ∧ ∀ j ∈ (nodAt e i).kids, 0 ≤ j ∧ j < i := by
  rw [valid_eq] at h
  unfold validR at h
  simp only [Bool.and_eq_true, decide_eq_true_eq] at h
  obtain ⟨⟨h1, h2⟩, h3⟩ := h
  refine ⟨h1, h2, fun i hi => ?_⟩
  have hsc : ∃ os, scanN e e.length = some os := by
    cases hs : scanN e e.length with
    | none => rw [hs] at h3; cases h3
    | some os => exact ⟨os, rfl⟩
  obtain ⟨os, ho⟩ := scan_down e.length hsc (i + 1) hi
  obtain ⟨os0, h0, hf, hk, _⟩ := scan_step ho
  refine ⟨hf, fun j hj => ?_⟩
  have : j ∈ (nodAt e i).kids.reverse := List.mem_reverse.2 hj
  rw [hk] at this
  obtain ⟨x, hx, rfl⟩ := List.mem_map.1 this
  have := scan_lt i os0 h0 x (List.mem_of_mem_take hx)
  omega
theorem nodAt_get' {e : List Nod} {i : Nat} (h : i < e.length) : e[i] = nodAt e i := by
  unfold nodAt
  rw [List.getD_eq_getElem?_getD, List.getElem?_eq_getElem h]
  rfl
theorem goB_append (l : List Rng) : ∀ (e f : List Nod) (all : List (Int × Int)), goB l all (e ++ f) = match goB l all e with | Except.ok a => goB l a f | Except.error r => Except.error r
  | [], f, all => rfl
  | x :: e, f, all => by
    show (match stepB l all x with | Except.error r => Except.error r | Except.ok s => goB l (all ++ [s]) (e ++ f)) = _
    show _ = (match (match stepB l all x with | Except.error r => Except.error r | Except.ok s => goB l (all ++ [s]) e) with | Except.ok a => goB l a f | Except.error r => Except.error r)
    cases stepB l all x with
    | error r => rfl
    | ok s => exact goB_append l e f (all ++ [s])
theorem nod_take {e : List Nod} {i : Nat} (h : i < e.length) : e.take (i + 1) = e.take i ++ [nodAt e i] := by
  unfold nodAt
  rw [List.take_succ_eq_append_getElem h]; simp [List.getElem?_eq_getElem h]
theorem goB_next {l : List Rng} {e : List Nod} {k : Nat} {all : List (Int × Int)} (hk : k < e.length) (h : goB l [] (e.take k) = .ok all) {s : Int × Int} (hs : stepB l all (nodAt e k) = .ok s) : goB l [] (e.take (k + 1)) = .ok (all ++ [s]) := by
  rw [nod_take hk, goB_append, h]
  show (match stepB l all (nodAt e k) with | Except.error r => Except.error r | Except.ok s => goB l (all ++ [s]) []) = _
  rw [hs]
  rfl
theorem goB_stop {l : List Rng} {e : List Nod} {k : Nat} {all : List (Int × Int)} (hk : k < e.length) (h : goB l [] (e.take k) = .ok all) {r : Int} (hs : stepB l all (nodAt e k) = .error r) : goB l [] e = .error r := by
  have he : e = e.take k ++ (nodAt e k :: e.drop (k + 1)) := by
    have h1 : e.drop k = nodAt e k :: e.drop (k + 1) := by
      rw [List.drop_eq_getElem_cons hk]
      have := nodAt_get' hk
      rw [this]
    rw [← h1, List.take_append_drop]
  rw [he, goB_append, h]
  show (match stepB l all (nodAt e k) with | Except.error r => Except.error r | Except.ok s => goB l (all ++ [s]) (e.drop (k + 1))) = _
  rw [hs]
/-- A number within the greatest bound. -/
def inB (n : Int) : Prop := -1000000000000 ≤ n ∧ n ≤ 1000000000000
def inS (s : Int × Int) : Prop := inB s.1 ∧ inB s.2
theorem inB_beyond {n : Int} : beyondL n = false ↔ inB n := by
  rw [beyond_not]
  unfold inB MB
  exact Iff.rfl
theorem look_in {l : List Rng} (hl : validRs l = true) {t : ByteArray} {s : Int × Int} (h : look l t = some s) : inS s := by
  induction l with
  | nil => cases h
  | cons r l ih =>
    unfold validRs at hl
    simp only [Bool.and_eq_true] at hl
    obtain ⟨⟨h1, h2⟩, _⟩ := hl
    unfold look at h
    rw [List.find?_cons] at h
    cases hd : decide (r.name = t)
    · rw [hd] at h
      exact ih h1 h
    · rw [hd] at h
      injection h with h
      subst h
      unfold okR at h2
      simp only [Bool.and_eq_true, Bool.not_eq_true'] at h2
      exact ⟨inB_beyond.1 h2.1.1.2, inB_beyond.1 h2.1.2⟩
theorem step_in {l : List Rng} (hl : validRs l = true) {all : List (Int × Int)} {x : Nod} (hx : nodeOk x) {s : Int × Int} (h : stepB l all x = .ok s) : inS s := by
  unfold stepB at h
  by_cases h1 : x.op = 1
  · rw [if_pos h1] at h
    injection h with h
    subst h
    have := hx.2.2 h1
    exact ⟨⟨by show -1000000000000 ≤ x.n; omega, by show x.n ≤ 1000000000000; omega⟩, ⟨by show -1000000000000 ≤ x.n; omega, by show x.n ≤ 1000000000000; omega⟩⟩
  · rw [if_neg h1] at h
    by_cases h2 : x.op = 2
    · rw [if_pos h2] at h
      cases hlk : look l x.name with
      | none => rw [hlk] at h; cases h
      | some s' =>
        rw [hlk] at h
        injection h with h
        subst h
        exact look_in hl hlk
    · rw [if_neg h2] at h
      split at h
      · cases h
      · rename_i hb
        injection h with h
        subst h
        rw [Bool.or_eq_true, not_or] at hb
        exact ⟨inB_beyond.1 (by simpa using hb.1), inB_beyond.1 (by simpa using hb.2)⟩
theorem go_in {l : List Rng} (hl : validRs l = true) : ∀ (e : List Nod) (all all' : List (Int × Int)), (∀ s ∈ all, inS s) → (∀ x ∈ e, nodeOk x) → goB l all e = .ok all' → ∀ s ∈ all', inS s
  | [], all, all', h, _, hg => by
    injection hg with hg
    subst hg
    exact h
  | x :: e, all, all', h, hx, hg => by
    have hg' : (match stepB l all x with | Except.error r => Except.error r | Except.ok s => goB l (all ++ [s]) e) = .ok all' := hg
    cases hs : stepB l all x with
    | error r => rw [hs] at hg'; cases hg'
    | ok s =>
      rw [hs] at hg'
      refine go_in hl e _ _ (fun y hy => ?_) (fun y hy => hx y (by simp [hy])) hg'
      rcases List.mem_append.1 hy with hy | hy
      · exact h y hy
      · rw [List.mem_singleton.1 hy]; exact step_in hl (hx x (by simp)) hs
theorem span_in {all : List (Int × Int)} (h : ∀ s ∈ all, inS s) (j : Int) : inS (spanAt all j) := by
  unfold spanAt
  by_cases hj : j.toNat < all.length
  · rw [List.getD_eq_getElem?_getD, List.getElem?_eq_getElem hj]
    exact h _ (List.getElem_mem hj)
  · rw [List.getD_eq_getElem?_getD, List.getElem?_eq_none (by omega)]
    exact ⟨⟨by decide, by decide⟩, ⟨by decide, by decide⟩⟩
end Go.Proofs.YtkomgidcgepknaaGreatDoor
