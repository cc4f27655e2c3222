/-
  Chapter 17: natural numbers by their limbs. No program.
-/
import Derived.Test.YtlkgoljpjeieiaaGreatDoorBase
set_option linter.unusedVariables false
set_option linter.unusedSimpArgs false
namespace Go.Proofs.YtlkgoljpjeieiaaGreatDoor

/-- What a limb counts up to. -/
def LB : Nat := 1000000000
theorem LB_pos : 0 < LB := by decide
theorem LBz : (LB : Int) = 1000000000 := rfl
/-- Limb i of a number. -/
def dig (n i : Nat) : Nat := n / LB ^ i % LB
theorem dig_lt (n i : Nat) : dig n i < LB := Nat.mod_lt _ LB_pos
theorem pow_LB (i : Nat) : 0 < LB ^ i := Nat.pow_pos LB_pos
theorem div_step (n i : Nat) : n / LB ^ i = LB * (n / LB ^ (i + 1)) + dig n i := by
  unfold dig
  rw [Nat.pow_succ, ← Nat.div_div_eq_div_mul]
  exact (Nat.div_add_mod _ _).symm
/-- How many limbs a number has. -/
def nlim (n : Nat) : Nat := if h : n = 0 then 0 else nlim (n / LB) + 1
termination_by n
decreasing_by exact Nat.div_lt_self (Nat.pos_of_ne_zero h) (by decide)
theorem nlim_zero : nlim 0 = 0 := by rw [nlim, dif_pos rfl]
theorem nlim_pos {n : Nat} (h : n ≠ 0) : nlim n = nlim (n / LB) + 1 := by rw [nlim, dif_neg h]
theorem nlim_lt : ∀ n : Nat, n < LB ^ nlim n := by
  intro n
  induction n using Nat.strongRecOn with
  | _ n ih =>
    by_cases h : n = 0
    · subst h; rw [nlim_zero]; decide
    · rw [nlim_pos h, Nat.pow_succ]
      have := ih (n / LB) (Nat.div_lt_self (Nat.pos_of_ne_zero h) (by decide))
      exact (Nat.div_lt_iff_lt_mul LB_pos).1 this
theorem nlim_le : ∀ n : Nat, n ≠ 0 → LB ^ (nlim n - 1) ≤ n := by
  intro n
  induction n using Nat.strongRecOn with
  | _ n ih =>
    intro h
    rw [nlim_pos h, Nat.add_sub_cancel]
    by_cases h2 : n / LB = 0
    · rw [h2, nlim_zero]; exact Nat.pos_of_ne_zero h
    · have := ih (n / LB) (Nat.div_lt_self (Nat.pos_of_ne_zero h) (by decide)) h2
      have h3 : nlim (n / LB) = (nlim (n / LB) - 1) + 1 := by rw [nlim_pos h2]; omega
      rw [h3, Nat.pow_succ]
      exact (Nat.le_div_iff_mul_le LB_pos).1 this
theorem nlim_bd {n k : Nat} (h : n < LB ^ k) : nlim n ≤ k := by
  by_cases h0 : n = 0
  · subst h0; rw [nlim_zero]; omega
  · have := nlim_le n h0
    refine Nat.le_of_not_lt fun hk => ?_
    have h1 : LB ^ k ≤ LB ^ (nlim n - 1) := Nat.pow_le_pow_right LB_pos (by omega)
    omega
theorem nlim_lt_lt {a b : Nat} (h : nlim a < nlim b) : a < b := by
  have hb : b ≠ 0 := fun e => by subst e; rw [nlim_zero] at h; omega
  have h1 := nlim_lt a
  have h2 := nlim_le b hb
  have h3 : LB ^ nlim a ≤ LB ^ (nlim b - 1) := Nat.pow_le_pow_right LB_pos (by omega)
  omega
theorem nlim_small {n : Nat} (h : n < LB) (h0 : n ≠ 0) : nlim n = 1 := by rw [nlim_pos h0, Nat.div_eq_of_lt h, nlim_zero]
/-- The limbs of a number, the least one first. -/
def lim (n : Nat) : List Int := (List.range (nlim n)).map fun i => (dig n i : Int)
theorem lim_len (n : Nat) : (lim n).length = nlim n := by simp [lim]
theorem lim_nth {n i : Nat} (h : i < nlim n) : nth (lim n) i = (dig n i : Int) := by
  rw [nth_eq (by rw [lim_len]; exact h)]
  simp [lim]
theorem dig_out {n i : Nat} (h : nlim n ≤ i) : dig n i = 0 := by
  unfold dig
  rw [Nat.div_eq_of_lt (Nat.lt_of_lt_of_le (nlim_lt n) (Nat.pow_le_pow_right LB_pos h))]
  rfl
theorem lim_zero : lim 0 = [] := by simp [lim, nlim_zero]
theorem lim_small {n : Nat} (h : n < LB) (h0 : n ≠ 0) : lim n = [(n : Int)] := by
  unfold lim
  rw [nlim_small h h0]
  show [((n / LB ^ 0 % LB : Nat) : Int)] = _
  rw [Nat.pow_zero, Nat.div_one, Nat.mod_eq_of_lt h]
theorem lim_bd {n : Nat} {x : Int} (h : x ∈ lim n) : 0 ≤ x ∧ x < 1000000000 := by
  obtain ⟨i, _, rfl⟩ := List.mem_map.1 h
  have := dig_lt n i
  unfold LB at this
  omega
theorem lim_top {n : Nat} (h : n ≠ 0) : dig n (nlim n - 1) ≠ 0 := by
  have h1 := nlim_le n h
  have h2 := nlim_lt n
  have h3 : nlim n = nlim n - 1 + 1 := by rw [nlim_pos h]; omega
  unfold dig
  rw [Nat.mod_eq_of_lt]
  · exact Nat.ne_of_gt (Nat.div_pos h1 (pow_LB _))
  · rw [Nat.div_lt_iff_lt_mul (pow_LB _), Nat.mul_comm, ← Nat.pow_succ]
    have h4 : (nlim n - 1).succ = nlim n := by omega
    rw [h4]
    exact h2
/-- The first k limbs, with zeros behind the number's own. -/
def padL (n k : Nat) : List Int := (List.range k).map fun i => (dig n i : Int)
theorem padL_len (n k : Nat) : (padL n k).length = k := by simp [padL]
theorem padL_nth {n k i : Nat} (h : i < k) : nth (padL n k) i = (dig n i : Int) := by
  rw [nth_eq (by rw [padL_len]; exact h)]
  simp [padL]
theorem padL_succ (n k : Nat) : padL n (k + 1) = padL n k ++ [(dig n k : Int)] := by simp [padL, List.range_succ]
theorem padL_lim (n : Nat) : padL n (nlim n) = lim n := rfl
theorem padL_take {n k : Nat} (h : nlim n ≤ k) : (padL n k).take (nlim n) = lim n := by
  unfold padL lim
  rw [← List.map_take, List.take_range, Nat.min_eq_left h]
/-- Where the zeros at the end begin. -/
theorem trim_at {n k m : Nat} (hk : m ≤ k) (hn : nlim n ≤ k) (h0 : ∀ i, m ≤ i → i < k → dig n i = 0) (h1 : m = 0 ∨ dig n (m - 1) ≠ 0) : m = nlim n := by
  rcases Nat.lt_trichotomy m (nlim n) with h | h | h
  · exfalso
    have hn0 : n ≠ 0 := fun e => by subst e; rw [nlim_zero] at h; omega
    exact lim_top hn0 (h0 _ (by omega) (by omega))
  · exact h
  · exfalso
    rcases h1 with h1 | h1
    · omega
    · exact h1 (dig_out (by omega))
theorem dig_cons (x n i : Nat) (hx : x < LB) : dig (x + LB * n) i = if i = 0 then x else dig n (i - 1) := by
  by_cases h : i = 0
  · subst h
    rw [if_pos rfl]
    unfold dig
    rw [Nat.pow_zero, Nat.div_one, Nat.add_mul_mod_self_left, Nat.mod_eq_of_lt hx]
  · rw [if_neg h]
    obtain ⟨j, rfl⟩ := Nat.exists_eq_succ_of_ne_zero h
    unfold dig
    rw [Nat.pow_succ, Nat.mul_comm (LB ^ j), ← Nat.div_div_eq_div_mul, Nat.add_mul_div_left _ _ LB_pos, Nat.div_eq_of_lt hx, Nat.zero_add]
    rfl
theorem lim_cons (x n : Nat) (hx : x < LB) : (x : Int) :: lim n = padL (x + LB * n) (nlim n + 1) := by
  refine List.ext_getElem (by simp [lim_len, padL_len]) fun i h1 h2 => ?_
  have e : (padL (x + LB * n) (nlim n + 1))[i] = (dig (x + LB * n) i : Int) := by simp [padL]
  rw [e, dig_cons x n i hx]
  cases i with
  | zero => rfl
  | succ j => simp [lim]
theorem nlim_cons (x n : Nat) (hx : x < LB) : nlim (x + LB * n) ≤ nlim n + 1 := by
  refine nlim_bd ?_
  have := nlim_lt n
  rw [Nat.pow_succ, Nat.mul_comm (LB ^ nlim n)]
  have h2 : LB * (n + 1) ≤ LB * LB ^ nlim n := Nat.mul_le_mul_left _ this
  rw [Nat.mul_add] at h2
  omega
/-- Comparing two numbers. -/
def cmpN (a b : Nat) : Int := if a < b then -1 else if a = b then 0 else 1
theorem cmpN_lt {a b i : Nat} (h : a / LB ^ (i + 1) = b / LB ^ (i + 1)) (hd : dig a i < dig b i) : a < b := by
  refine Nat.lt_of_not_le fun hle => ?_
  have h1 := Nat.div_le_div_right (c := LB ^ i) hle
  rw [div_step a i, div_step b i, h] at h1
  omega
theorem cmp_step {a b i : Nat} (h : a / LB ^ (i + 1) = b / LB ^ (i + 1)) (hd : dig a i = dig b i) : a / LB ^ i = b / LB ^ i := by rw [div_step a i, div_step b i, h, hd]
theorem cmp_start {a b : Nat} (h : nlim a = nlim b) : a / LB ^ nlim a = b / LB ^ nlim a := by
  rw [Nat.div_eq_of_lt (nlim_lt a), h, Nat.div_eq_of_lt (nlim_lt b)]

/-- What is carried over, limb by limb. -/
def carry (g : Nat → Int) : Nat → Int
  | 0 => 0
  | i + 1 => (g i + carry g i) / 1000000000
/-- The limbs that come out. -/
def outL (g : Nat → Int) (k : Nat) : List Int := (List.range k).map fun i => (g i + carry g i) % 1000000000
theorem outL_succ (g : Nat → Int) (k : Nat) : outL g (k + 1) = outL g k ++ [(g k + carry g k) % 1000000000] := by simp [outL, List.range_succ]
theorem outL_len (g : Nat → Int) (k : Nat) : (outL g k).length = k := by simp [outL]
/-- The sum of the places. -/
def place (g : Nat → Int) : Nat → Int
  | 0 => 0
  | i + 1 => place g i + g i * ((LB ^ i : Nat) : Int)
theorem place_dig (n : Nat) : ∀ k, place (fun i => (dig n i : Int)) k = ((n % LB ^ k : Nat) : Int)
  | 0 => by simp [place, Nat.mod_one]
  | k + 1 => by
    unfold place
    rw [place_dig n k]
    have h1 : n % LB ^ (k + 1) = n % LB ^ k + LB ^ k * dig n k := by
      rw [Nat.pow_succ, Nat.mod_mul]
      rfl
    rw [h1, Int.natCast_add, Int.natCast_mul, Int.mul_comm]
theorem place_add (f g : Nat → Int) : ∀ k, place (fun i => f i + g i) k = place f k + place g k
  | 0 => rfl
  | k + 1 => by
    unfold place
    rw [place_add f g k, Int.add_mul]
    omega
theorem place_sub (f g : Nat → Int) : ∀ k, place (fun i => f i - g i) k = place f k - place g k
  | 0 => rfl
  | k + 1 => by
    unfold place
    rw [place_sub f g k, Int.sub_mul]
    omega
theorem place_mul (q : Int) (g : Nat → Int) : ∀ k, place (fun i => q * g i) k = q * place g k
  | 0 => by simp [place]
  | k + 1 => by
    unfold place
    rw [place_mul q g k, Int.mul_add, Int.mul_assoc]
theorem place_num (n : Nat) {k : Nat} (h : n < LB ^ k) : place (fun i => (dig n i : Int)) k = (n : Int) := by rw [place_dig, Nat.mod_eq_of_lt h]
/-- Sums with what is carried over. -/
theorem carry_sum (g : Nat → Int) : ∀ k, ∃ D : Nat, D < LB ^ k ∧ place g k = (D : Int) + carry g k * ((LB ^ k : Nat) : Int) ∧ outL g k = padL D k
  | 0 => ⟨0, by decide, by simp [place, carry], by simp [outL, padL]⟩
  | k + 1 => by
    obtain ⟨D, hD, hp, ho⟩ := carry_sum g k
    obtain ⟨s, hs⟩ : ∃ s, s = g k + carry g k := ⟨_, rfl⟩
    have hm0 : 0 ≤ s % 1000000000 := Int.emod_nonneg _ (by decide)
    have hm1 : s % 1000000000 < 1000000000 := Int.emod_lt_of_pos _ (by decide)
    obtain ⟨d, hd⟩ := Int.eq_ofNat_of_zero_le hm0
    have hdl : d < LB := by unfold LB; omega
    have hdv := Int.mul_ediv_add_emod s 1000000000
    refine ⟨D + LB ^ k * d, ?_, ?_, ?_⟩
    · rw [Nat.pow_succ]
      have : LB ^ k * (d + 1) ≤ LB ^ k * LB := Nat.mul_le_mul_left _ hdl
      rw [Nat.mul_add] at this
      omega
    · unfold place
      rw [hp]
      show (D : Int) + carry g k * ((LB ^ k : Nat) : Int) + g k * ((LB ^ k : Nat) : Int) = ((D + LB ^ k * d : Nat) : Int) + (g k + carry g k) / 1000000000 * ((LB ^ (k + 1) : Nat) : Int)
      rw [← hs, Nat.pow_succ, Int.natCast_add, Int.natCast_mul, Int.natCast_mul, LBz]
      have e : carry g k * ((LB ^ k : Nat) : Int) + g k * ((LB ^ k : Nat) : Int) = s * ((LB ^ k : Nat) : Int) := by rw [hs, Int.add_mul]; omega
      rw [Int.add_assoc, e]
      conv => lhs; rw [← hdv]
      rw [hd, Int.add_mul, Int.add_assoc]
      congr 1
      rw [Int.add_comm]
      congr 1
      · show (d : Int) * _ = _ * (d : Int)
        rw [Int.mul_comm]
      · rw [Int.mul_comm 1000000000, Int.mul_assoc, Int.mul_comm 1000000000]
    · rw [outL_succ, padL_succ, ho, ← hs, hd]
      have h1 : dig (D + LB ^ k * d) k = d := by
        unfold dig
        rw [Nat.add_mul_div_left _ _ (pow_LB k), Nat.div_eq_of_lt hD, Nat.zero_add, Nat.mod_eq_of_lt hdl]
      have h2 : ∀ i, i < k → dig (D + LB ^ k * d) i = dig D i := fun i hi => by
        unfold dig
        obtain ⟨j, rfl⟩ : ∃ j, k = i + 1 + j := ⟨k - (i + 1), by omega⟩
        have e : LB ^ (i + 1 + j) * d = LB ^ i * (LB * (LB ^ j * d)) := by
          rw [Nat.pow_add, Nat.pow_succ]
          simp only [Nat.mul_assoc]
        rw [e, Nat.add_mul_div_left _ _ (pow_LB i), Nat.add_mul_mod_self_left]
      congr 1
      · unfold padL
        exact List.map_congr_left fun i hi => by rw [h2 i (List.mem_range.1 hi)]
      · rw [h1]
/-- What collect returns: the limbs of the sum of the places. -/
theorem coll_num {g : Nat → Int} {V k : Nat} (hV : V < LB ^ k) (h : place g k = (V : Int)) : outL g k = padL V k := by
  obtain ⟨D, hD, hp, ho⟩ := carry_sum g k
  rw [ho]
  have hk : ((LB ^ k : Nat) : Int) > 0 := by have := pow_LB k; omega
  have h1 : (V : Int) = (D : Int) + carry g k * ((LB ^ k : Nat) : Int) := by rw [← h, hp]
  have h2 : carry g k = 0 := by
    have hD' : (D : Int) < ((LB ^ k : Nat) : Int) := by omega
    have hV' : (V : Int) < ((LB ^ k : Nat) : Int) := by omega
    generalize ((LB ^ k : Nat) : Int) = M at *
    rcases Int.lt_trichotomy (carry g k) 0 with hc | hc | hc
    · exfalso
      have : carry g k * M ≤ (-1) * M := Int.mul_le_mul_of_nonneg_right (by omega) (by omega)
      omega
    · exact hc
    · exfalso
      have : 1 * M ≤ carry g k * M := Int.mul_le_mul_of_nonneg_right (by omega) (by omega)
      omega
  rw [h2, Int.zero_mul, Int.add_zero] at h1
  have : V = D := by omega
  rw [this]
/-- How great the carries are. -/
theorem carry_bd {g : Nat → Int} {M : Int} (hM : 0 ≤ M) (h : ∀ i, -M ≤ g i ∧ g i ≤ M) : ∀ k, -M - 1 ≤ carry g k ∧ carry g k ≤ M + 1
  | 0 => by unfold carry; omega
  | k + 1 => by
    have h1 := carry_bd hM h k
    have h2 := h k
    unfold carry
    omega
theorem padL_trim {V k m : Nat} (hV : V < LB ^ k) (hk : m ≤ k) (h0 : ∀ i, m ≤ i → i < k → nth (padL V k) i = 0) (h1 : m = 0 ∨ nth (padL V k) (m - 1) ≠ 0) : (padL V k).take m = lim V ∧ m = nlim V := by
  have hn := nlim_bd hV
  have : m = nlim V := trim_at hk hn (fun i h2 h3 => by
    have := h0 i h2 h3
    rw [padL_nth h3] at this
    omega) (by
    rcases h1 with h1 | h1
    · exact .inl h1
    · by_cases hm : m = 0
      · exact .inl hm
      · rw [padL_nth (by omega)] at h1
        exact .inr (by omega))
  subst this
  exact ⟨padL_take hn, rfl⟩

/-- The limbs of a quotient. -/
theorem quot_dig {a y i : Nat} (hy : 0 < y) : dig (a / y) i = (a / LB ^ (i + 1) % y * LB + dig a i) / y ∧ a / LB ^ i % y = (a / LB ^ (i + 1) % y * LB + dig a i) % y := by
  have h1 := div_step a i
  obtain ⟨A, hA⟩ : ∃ A, A = a / LB ^ (i + 1) := ⟨_, rfl⟩
  have h2 := Nat.div_add_mod A y
  have hr := Nat.mod_lt A hy
  have hd := dig_lt a i
  rw [← hA] at h1 ⊢
  have h3 : a / LB ^ i = (A % y * LB + dig a i) + y * (LB * (A / y)) := by
    rw [h1]
    conv => lhs; rw [← h2]
    rw [Nat.mul_add, Nat.mul_left_comm, Nat.mul_comm LB (A % y)]
    omega
  have h4 : (A % y * LB + dig a i) / y < LB := by
    rw [Nat.div_lt_iff_lt_mul hy]
    have : (A % y + 1) * LB ≤ y * LB := Nat.mul_le_mul_right _ hr
    rw [Nat.add_mul, Nat.one_mul] at this
    rw [Nat.mul_comm LB y]
    omega
  constructor
  · show a / y / LB ^ i % LB = _
    rw [Nat.div_div_eq_div_mul, Nat.mul_comm, ← Nat.div_div_eq_div_mul, h3, Nat.add_mul_div_left _ _ hy, Nat.add_mul_mod_self_left, Nat.mod_eq_of_lt h4]
  · rw [h3, Nat.add_mul_mod_self_left]
/-- Comparing positive quotients. -/
theorem frac_step {a b c d : Nat} (hb : 0 < b) (hd : 0 < d) (h : a / b = c / d) : (a * d < c * b ↔ a % b * d < c % d * b) ∧ (a * d = c * b ↔ a % b * d = c % d * b) := by
  have h1 := Nat.div_add_mod a b
  have h2 := Nat.div_add_mod c d
  have e1 : a * d = b * d * (a / b) + a % b * d := by
    conv => lhs; rw [← h1]
    rw [Nat.add_mul, Nat.mul_right_comm]
  have e2 : c * b = b * d * (a / b) + c % d * b := by
    conv => lhs; rw [← h2]
    rw [h, Nat.add_mul, Nat.mul_right_comm, Nat.mul_comm d b]
  rw [e1, e2]
  omega
theorem frac_lt {a b c d : Nat} (hb : 0 < b) (hd : 0 < d) (h : a / b < c / d) : a * d < c * b := by
  have h1 := Nat.div_add_mod a b
  have h2 := Nat.div_add_mod c d
  have h3 := Nat.mod_lt a hb
  have e1 : a < b * (a / b + 1) := by rw [Nat.mul_add]; omega
  have e2 : d * (c / d) ≤ c := by omega
  have e3 : b * (a / b + 1) ≤ b * (c / d) := Nat.mul_le_mul_left _ h
  calc a * d < b * (a / b + 1) * d := Nat.mul_lt_mul_of_pos_right e1 hd
    _ ≤ b * (c / d) * d := Nat.mul_le_mul_right _ e3
    _ = d * (c / d) * b := by rw [Nat.mul_comm b, Nat.mul_right_comm, Nat.mul_comm d]
    _ ≤ c * b := Nat.mul_le_mul_right _ e2
end Go.Proofs.YtlkgoljpjeieiaaGreatDoor
