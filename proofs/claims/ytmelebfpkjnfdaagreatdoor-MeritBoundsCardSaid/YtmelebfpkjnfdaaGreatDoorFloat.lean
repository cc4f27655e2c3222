/-
  The product of two whole numbers of at most 10^12 in absolute value, as a float64, held against 2 * 10^12. No program.
-/
import Derived.Test.YtmelebfpkjnfdaaGreatDoorBase
import GoSem.Core.Float
set_option linter.unusedVariables false
set_option linter.unusedSimpArgs false
namespace Go.Proofs.YtmelebfpkjnfdaaGreatDoor
open Ieee

theorem log2_two (V k : Nat) (h : V ≠ 0) : (V * 2 ^ k).log2 = V.log2 + k := by
  have hpos : V * 2 ^ k ≠ 0 := Nat.mul_ne_zero h (by have := Nat.two_pow_pos k; omega)
  rw [Nat.log2_eq_iff hpos]
  have h1 := Nat.log2_self_le h
  have h2 := Nat.lt_log2_self (n := V)
  have hk := Nat.two_pow_pos k
  constructor
  · rw [Nat.pow_add]; exact Nat.mul_le_mul_right _ h1
  · rw [show V.log2 + k + 1 = (V.log2 + 1) + k by omega, Nat.pow_add]
    exact Nat.mul_lt_mul_of_pos_right h2 hk
theorem cut_exact (neg : Bool) (q d : Nat) (h : d ≤ (q * 2 ^ d).log2 + 2) : Toward.even.cut neg (q * 2 ^ d) d = q := by
  unfold Toward.cut
  rw [Nat.min_eq_left h, Nat.one_shiftLeft]
  have hp := Nat.two_pow_pos d
  have h0 : (2 ^ d == 0) = false := by simp
  simp only [Nat.mul_div_cancel _ hp, Nat.mul_mod_left, Nat.mul_zero, Nat.not_lt_zero, decide_false, Bool.false_or, h0, Bool.false_and, Bool.toNat_false, Nat.add_zero]
theorem cut_near (neg : Bool) (n d : Nat) (h : d ≤ n.log2 + 2) : n / 2 ^ d ≤ Toward.even.cut neg n d ∧ Toward.even.cut neg n d ≤ n / 2 ^ d + 1 := by
  unfold Toward.cut
  rw [Nat.min_eq_left h, Nat.one_shiftLeft]
  refine ⟨Nat.le_add_right _ _, ?_⟩
  have : ∀ b : Bool, b.toNat ≤ 1 := by decide
  exact Nat.add_le_add_left (this _) _

/-- The word of a sign, a step and a significand, read. -/
theorem read_word (neg : Bool) (E K : Nat) (h1 : 4503599627370496 ≤ K) (h2 : K < 9007199254740992) (hE : E < 2046) :
    double.read (double.word neg (E * 4503599627370496 + K)) = .number neg K ((E : Int) - 1074) := by
  have hw : double.signWeight = 9223372036854775808 := by decide
  have hb : double.binade = 4503599627370496 := by decide
  have hi : double.infRung = 2047 * 4503599627370496 := by decide
  have hl : double.leastPlace = -1074 := by decide
  have hr : E * 4503599627370496 + K < 9223372036854775808 := by omega
  unfold Format.read Format.word
  rw [hw, hb, hi, hl]
  have e1 : (if neg = true then 9223372036854775808 + (E * 4503599627370496 + K) else E * 4503599627370496 + K) % 9223372036854775808 = E * 4503599627370496 + K := by
    cases neg
    · simp only [Bool.false_eq_true, if_false]; omega
    · simp only [if_true]; omega
  have e2 : ((if neg = true then 9223372036854775808 + (E * 4503599627370496 + K) else E * 4503599627370496 + K) / 9223372036854775808 % 2 == 1) = neg := by
    cases neg
    · simp only [Bool.false_eq_true, if_false]
      have : (E * 4503599627370496 + K) / 9223372036854775808 = 0 := by omega
      rw [this]; rfl
    · simp only [if_true]
      have : (9223372036854775808 + (E * 4503599627370496 + K)) / 9223372036854775808 = 1 := by omega
      rw [this]; rfl
  simp only [e1, e2]
  rw [if_neg (by omega), if_pos (by omega)]
  have e3 : 4503599627370496 + (E * 4503599627370496 + K) % 4503599627370496 = K := by omega
  have e4 : (E * 4503599627370496 + K) / 4503599627370496 - 1 = E := by omega
  rw [e3, e4]
  have e5 : (-1074 : Int) + ((E : Nat) : Int) = (E : Int) - 1074 := by omega
  rw [e5]
theorem read_zero (neg : Bool) : double.read (double.word neg 0) = .number neg 0 (-1074) := by cases neg <;> decide
theorem pow52 : (2 : Nat) ^ 52 = 4503599627370496 := by decide
/-- A positive number V, written as V * 2^k at the place -k: what is read of its nearest word. -/
theorem near_small (neg : Bool) (V k : Nat) (h0 : V ≠ 0) (hV : V < 9007199254740992) :
    double.read (double.nearest neg (V * 2 ^ k) (-(k : Int))) = .number neg (V * 2 ^ (52 - V.log2)) ((V.log2 : Int) - 52) := by
  have hL : V.log2 ≤ 52 := by
    have : V.log2 < 53 := (Nat.log2_lt h0).2 (by rw [show (2 : Nat) ^ 53 = 9007199254740992 by decide]; exact hV)
    omega
  have h1 := Nat.log2_self_le h0
  have h2 := Nat.lt_log2_self (n := V)
  have hM : V * 2 ^ k ≠ 0 := Nat.mul_ne_zero h0 (by have := Nat.two_pow_pos k; omega)
  have hb : double.binade = 4503599627370496 := by decide
  have hi : double.infRung = 2047 * 4503599627370496 := by decide
  have hl : double.leastPlace = -1074 := by decide
  have hf : double.fractionBits = 52 := by decide
  unfold Format.nearest
  rw [if_neg hM, hb, hi, hl, hf, log2_two V k h0]
  have hlast : max (-(k : Int) + ((V.log2 + k : Nat) : Int) - ((52 : Nat) : Int)) (-1074) = (V.log2 : Int) - 52 := by omega
  simp only [hlast]
  generalize hK : V * 2 ^ (52 - V.log2) = K
  have hK1 : 4503599627370496 ≤ K := by
    rw [← hK, ← pow52, show (52 : Nat) = V.log2 + (52 - V.log2) by omega]
    rw [Nat.pow_add, show V.log2 + (52 - V.log2) - V.log2 = 52 - V.log2 by omega]
    exact Nat.mul_le_mul_right _ h1
  have hK2 : K < 9007199254740992 := by
    rw [← hK, show (9007199254740992 : Nat) = 2 ^ ((V.log2 + 1) + (52 - V.log2)) by rw [show V.log2 + 1 + (52 - V.log2) = 53 by omega]]
    rw [Nat.pow_add]
    exact Nat.mul_lt_mul_of_pos_right h2 (Nat.two_pow_pos _)
  have kept : Toward.even.cut neg ((V * 2 ^ k) <<< (-(k : Int) - ((V.log2 : Int) - 52)).toNat) (((V.log2 : Int) - 52) - -(k : Int)).toNat = K := by
    rw [Nat.shiftLeft_eq]
    by_cases hk : k ≤ 52 - V.log2
    · have e1 : (-(k : Int) - ((V.log2 : Int) - 52)).toNat = 52 - V.log2 - k := by omega
      have e2 : (((V.log2 : Int) - 52) - -(k : Int)).toNat = 0 := by omega
      rw [e1, e2]
      have := cut_exact neg (V * 2 ^ k * 2 ^ (52 - V.log2 - k)) 0 (Nat.zero_le _)
      rw [Nat.pow_zero, Nat.mul_one] at this
      rw [this, Nat.mul_assoc, ← Nat.pow_add, show k + (52 - V.log2 - k) = 52 - V.log2 by omega, hK]
    · have e1 : (-(k : Int) - ((V.log2 : Int) - 52)).toNat = 0 := by omega
      have e2 : (((V.log2 : Int) - 52) - -(k : Int)).toNat = k - (52 - V.log2) := by omega
      rw [e1, e2, Nat.pow_zero, Nat.mul_one]
      have e3 : V * 2 ^ k = K * 2 ^ (k - (52 - V.log2)) := by
        rw [← hK, Nat.mul_assoc, ← Nat.pow_add, show 52 - V.log2 + (k - (52 - V.log2)) = k by omega]
      rw [e3]
      refine cut_exact neg K _ ?_
      rw [← e3, log2_two V k h0]
      omega
  rw [kept]
  have e4 : (((V.log2 : Int) - 52) - -1074).toNat = V.log2 + 1022 := by omega
  have e6 : ((V.log2 + 1022 : Nat) : Int) - 1074 = (V.log2 : Int) - 52 := by omega
  rw [e4, Nat.min_eq_left (by omega), read_word neg _ K hK1 hK2 (by omega), e6]
theorem near_big (neg : Bool) (V k : Nat) (hV : 9007199254740992 ≤ V) (hV2 : V.log2 ≤ 900) :
    ∃ K p, double.read (double.nearest neg (V * 2 ^ k) (-(k : Int))) = .number neg K p ∧ 4503599627370496 ≤ K ∧ 1 ≤ p := by
  have h0 : V ≠ 0 := by omega
  have hL : 53 ≤ V.log2 := (Nat.le_log2 h0).2 (by rw [show (2 : Nat) ^ 53 = 9007199254740992 by decide]; exact hV)
  have h1 := Nat.log2_self_le h0
  have h2 := Nat.lt_log2_self (n := V)
  have hM : V * 2 ^ k ≠ 0 := Nat.mul_ne_zero h0 (by have := Nat.two_pow_pos k; omega)
  have hb : double.binade = 4503599627370496 := by decide
  have hi : double.infRung = 2047 * 4503599627370496 := by decide
  have hl : double.leastPlace = -1074 := by decide
  have hf : double.fractionBits = 52 := by decide
  unfold Format.nearest
  rw [if_neg hM, hb, hi, hl, hf, log2_two V k h0]
  have hlast : max (-(k : Int) + ((V.log2 + k : Nat) : Int) - ((52 : Nat) : Int)) (-1074) = (V.log2 : Int) - 52 := by omega
  simp only [hlast]
  have e1 : (-(k : Int) - ((V.log2 : Int) - 52)).toNat = 0 := by omega
  have e2 : (((V.log2 : Int) - 52) - -(k : Int)).toNat = V.log2 - 52 + k := by omega
  rw [e1, e2, Nat.shiftLeft_zero]
  obtain ⟨c1, c2⟩ := cut_near neg (V * 2 ^ k) (V.log2 - 52 + k) (by rw [log2_two V k h0]; omega)
  have q1 : 4503599627370496 ≤ V * 2 ^ k / 2 ^ (V.log2 - 52 + k) := by
    rw [Nat.le_div_iff_mul_le (Nat.two_pow_pos _), ← pow52, ← Nat.pow_add, show 52 + (V.log2 - 52 + k) = V.log2 + k by omega, Nat.pow_add]
    exact Nat.mul_le_mul_right _ h1
  have q2 : V * 2 ^ k / 2 ^ (V.log2 - 52 + k) < 9007199254740992 := by
    rw [Nat.div_lt_iff_lt_mul (Nat.two_pow_pos _), show (9007199254740992 : Nat) = 2 ^ 53 by decide, ← Nat.pow_add, show 53 + (V.log2 - 52 + k) = (V.log2 + 1) + k by omega, Nat.pow_add]
    exact Nat.mul_lt_mul_of_pos_right h2 (Nat.two_pow_pos _)
  generalize Toward.even.cut neg (V * 2 ^ k) (V.log2 - 52 + k) = K at c1 c2
  generalize V * 2 ^ k / 2 ^ (V.log2 - 52 + k) = low at c1 c2 q1 q2
  have e4 : (((V.log2 : Int) - 52) - -1074).toNat = V.log2 + 1022 := by omega
  rw [e4, Nat.min_eq_left (by omega)]
  by_cases hK : K < 9007199254740992
  · exact ⟨K, _, read_word neg _ K (by omega) hK (by omega), by omega, by omega⟩
  · have hK' : K = 9007199254740992 := by omega
    rw [hK', show (V.log2 + 1022) * 4503599627370496 + 9007199254740992 = (V.log2 + 1023) * 4503599627370496 + 4503599627370496 by omega]
    exact ⟨4503599627370496, _, read_word neg _ _ (by omega) (by omega) (by omega), by omega, by omega⟩

/-- 'float64(a)' for a number that fits. -/
theorem of_int (a : Int) (h : a.natAbs < 9007199254740992) (h0 : a ≠ 0) :
    double.read (FloatKind.f64.nearest a) = .number (decide (a < 0)) (a.natAbs * 2 ^ (52 - a.natAbs.log2)) ((a.natAbs.log2 : Int) - 52) := by
  have := near_small (decide (a < 0)) a.natAbs 0 (by omega) h
  rw [Nat.pow_zero, Nat.mul_one] at this
  exact this
theorem of_zero : double.read (FloatKind.f64.nearest 0) = .number false 0 (-1074) := by decide

/-- What a product of two floats is held against. -/
theorem signed_lt (neg : Bool) (m : Nat) (u : Nat) : signed neg m u = if neg = true then -((m * 2 ^ u : Nat) : Int) else ((m * 2 ^ u : Nat) : Int) := by
  unfold signed
  rw [Nat.shiftLeft_eq]
/-- A whole number v as it lies in a word, against 2 * 10^12 and - 2 * 10^12. -/
structure Holds (c : Nat) (v : Int) : Prop where
  gt : ((double.read c).order (.number false (2000000000000 * 4096) (-12)) == some .gt) = decide (2000000000000 < v)
  lt : ((double.read c).order (.number true (2000000000000 * 4096) (-12)) == some .lt) = decide (v < -2000000000000)
theorem order_num (s t : Bool) (m n : Nat) (i j : Int) : (Datum.number s m i).order (.number t n j) = some (compare (signed s m (i - min i j).toNat) (signed t n (j - min i j).toNat)) := rfl
theorem cmp_gt (a b : Int) : (some (compare a b) == some Ordering.gt) = decide (b < a) := by
  rcases Int.lt_trichotomy a b with h | h | h
  · rw [Int.compare_eq_lt.2 h]; simp; omega
  · rw [Int.compare_eq_eq.2 h]; simp; omega
  · rw [Int.compare_eq_gt.2 h]; simp; omega
theorem cmp_lt (a b : Int) : (some (compare a b) == some Ordering.lt) = decide (a < b) := by
  rcases Int.lt_trichotomy a b with h | h | h
  · rw [Int.compare_eq_lt.2 h]; simp; omega
  · rw [Int.compare_eq_eq.2 h]; simp; omega
  · rw [Int.compare_eq_gt.2 h]; simp; omega
theorem holds_exact (c : Nat) (s : Bool) (V : Nat) (h0 : V ≠ 0) (hV : V < 9007199254740992) (h : double.read c = .number s (V * 2 ^ (52 - V.log2)) ((V.log2 : Int) - 52)) :
    Holds c (if s = true then -(V : Int) else V) := by
  have hL : V.log2 ≤ 52 := by
    have : V.log2 < 53 := (Nat.log2_lt h0).2 (by rw [show (2 : Nat) ^ 53 = 9007199254740992 by decide]; exact hV)
    omega
  -- both sides times a power of two
  obtain ⟨u, v, hu, hv, huv⟩ : ∃ u v : Nat, (((V.log2 : Int) - 52) - min ((V.log2 : Int) - 52) (-12)).toNat = u ∧ ((-12 : Int) - min ((V.log2 : Int) - 52) (-12)).toNat = v ∧ (52 - V.log2) + u = 12 + v := ⟨_, _, rfl, rfl, by omega⟩
  have e1 : V * 2 ^ (52 - V.log2) * 2 ^ u = V * 2 ^ (12 + v) := by rw [Nat.mul_assoc, ← Nat.pow_add, huv]
  have e2 : 2000000000000 * 4096 * 2 ^ v = 2000000000000 * 2 ^ (12 + v) := by rw [Nat.pow_add, show (2 : Nat) ^ 12 = 4096 by decide, Nat.mul_assoc]
  have hp := Nat.two_pow_pos (12 + v)
  have mono : ∀ x y : Nat, x * 2 ^ (12 + v) < y * 2 ^ (12 + v) ↔ x < y := fun x y => Nat.mul_lt_mul_right hp
  constructor
  · rw [h, order_num, cmp_gt, hu, hv, signed_lt, signed_lt, e1, e2]
    cases s
    · simp only [Bool.false_eq_true, if_false]
      rw [decide_eq_decide]
      have := mono 2000000000000 V
      omega
    · simp only [Bool.false_eq_true, if_false, if_true]
      rw [decide_eq_decide]
      have : 0 ≤ ((V * 2 ^ (12 + v) : Nat) : Int) := Int.natCast_nonneg _
      have : 0 ≤ ((2000000000000 * 2 ^ (12 + v) : Nat) : Int) := Int.natCast_nonneg _
      omega
  · rw [h, order_num, cmp_lt, hu, hv, signed_lt, signed_lt, e1, e2]
    cases s
    · simp only [Bool.false_eq_true, if_false, if_true]
      rw [decide_eq_decide]
      have : 0 ≤ ((V * 2 ^ (12 + v) : Nat) : Int) := Int.natCast_nonneg _
      have : 0 ≤ ((2000000000000 * 2 ^ (12 + v) : Nat) : Int) := Int.natCast_nonneg _
      omega
    · simp only [if_true]
      rw [decide_eq_decide]
      have := mono 2000000000000 V
      omega
theorem holds_big (c : Nat) (s : Bool) (K : Nat) (p : Int) (hK : 4503599627370496 ≤ K) (hp : 1 ≤ p) (h : double.read c = .number s K p) (v : Int) (hv : 9007199254740992 ≤ v.natAbs) (hs : s = decide (v < 0)) : Holds c v := by
  have hmin : min p (-12) = -12 := by omega
  have e2 : ((-12 : Int) - -12).toNat = 0 := by decide
  obtain ⟨u, hu⟩ : ∃ u : Nat, (p - -12).toNat = 13 + u := ⟨(p - 1).toNat, by omega⟩
  have big : 2000000000000 * 4096 < K * 2 ^ (13 + u) := by
    have h1 : 2 ^ 13 ≤ 2 ^ (13 + u) := Nat.pow_le_pow_right (by omega) (by omega)
    have h2 : 4503599627370496 * 2 ^ 13 ≤ K * 2 ^ (13 + u) := Nat.mul_le_mul hK h1
    have h3 : 2000000000000 * 4096 < 4503599627370496 * 2 ^ 13 := by decide
    omega
  constructor
  · rw [h, order_num, cmp_gt, hmin, e2, hu, signed_lt, signed_lt, Nat.pow_zero, Nat.mul_one]
    subst hs
    generalize K * 2 ^ (13 + u) = Z at big
    by_cases hn : v < 0
    · simp only [hn, decide_true, if_true, Bool.false_eq_true, if_false]
      rw [decide_eq_decide]
      omega
    · simp only [hn, decide_false, Bool.false_eq_true, if_false]
      rw [decide_eq_decide]
      omega
  · rw [h, order_num, cmp_lt, hmin, e2, hu, signed_lt, signed_lt, Nat.pow_zero, Nat.mul_one]
    subst hs
    generalize K * 2 ^ (13 + u) = Z at big
    by_cases hn : v < 0
    · simp only [hn, decide_true, if_true]
      rw [decide_eq_decide]
      omega
    · simp only [hn, decide_false, if_true, Bool.false_eq_true, if_false]
      rw [decide_eq_decide]
      omega
theorem holds_zero (c : Nat) (s : Bool) (p : Int) (h : double.read c = .number s 0 p) : Holds c 0 := by
  have z : ∀ u, signed s 0 u = 0 := fun u => by rw [signed_lt, Nat.zero_mul]; cases s <;> rfl
  have hp := fun u : Nat => Nat.two_pow_pos u
  have h1 := hp ((-12 : Int) - min p (-12)).toNat
  have h2 : 0 < 2000000000000 * 4096 * 2 ^ ((-12 : Int) - min p (-12)).toNat := Nat.mul_pos (by omega) h1
  generalize hZ : 2000000000000 * 4096 * 2 ^ ((-12 : Int) - min p (-12)).toNat = Z at h2
  constructor
  · rw [h, order_num, cmp_gt, z, signed_lt, hZ]
    rw [decide_eq_decide]
    simp only [Bool.false_eq_true, if_false]
    omega
  · rw [h, order_num, cmp_lt, z, signed_lt, hZ]
    rw [decide_eq_decide]
    simp only [if_true]
    omega
/-- The product of 'float64(a)' and 'float64(b)'. -/
theorem mul_holds (a b : Int) (ha : -1000000000000 ≤ a ∧ a ≤ 1000000000000) (hb : -1000000000000 ≤ b ∧ b ≤ 1000000000000) :
    ∃ c, double.mul (FloatKind.f64.nearest a) (FloatKind.f64.nearest b) = some c ∧ Holds c (a * b) := by
  unfold Format.mul
  by_cases h0 : a = 0
  · subst h0
    rw [of_zero, Int.zero_mul]
    by_cases h1 : b = 0
    · subst h1
      rw [of_zero]
      exact ⟨_, rfl, holds_zero _ false (-1074) (by decide)⟩
    · rw [of_int b (by omega) h1]
      refine ⟨_, rfl, holds_zero _ (false ^^ decide (b < 0)) (-1074) ?_⟩
      show double.read (double.nearest _ (0 * _) _) = _
      rw [Nat.zero_mul]
      unfold Format.nearest
      rw [if_pos rfl]
      exact read_zero _
  · by_cases h1 : b = 0
    · subst h1
      rw [of_zero, of_int a (by omega) h0, Int.mul_zero]
      refine ⟨_, rfl, holds_zero _ (decide (a < 0) ^^ false) (-1074) ?_⟩
      show double.read (double.nearest _ (_ * 0) _) = _
      rw [Nat.mul_zero]
      unfold Format.nearest
      rw [if_pos rfl]
      exact read_zero _
    · rw [of_int a (by omega) h0, of_int b (by omega) h1]
      have hAB : a.natAbs * b.natAbs = (a * b).natAbs := (Int.natAbs_mul a b).symm
      have hne : (a * b).natAbs ≠ 0 := by rw [← hAB]; exact Nat.mul_ne_zero (by omega) (by omega)
      have ha39 : a.natAbs.log2 ≤ 52 := by
        have : a.natAbs.log2 < 53 := (Nat.log2_lt (by omega)).2 (by rw [show (2 : Nat) ^ 53 = 9007199254740992 by decide]; omega)
        omega
      have hb39 : b.natAbs.log2 ≤ 52 := by
        have : b.natAbs.log2 < 53 := (Nat.log2_lt (by omega)).2 (by rw [show (2 : Nat) ^ 53 = 9007199254740992 by decide]; omega)
        omega
      have hsg : (decide (a < 0) ^^ decide (b < 0)) = decide (a * b < 0) := by
        rcases Int.lt_trichotomy a 0 with h2 | h2 | h2
        · rcases Int.lt_trichotomy b 0 with h3 | h3 | h3
          · have := Int.mul_pos_of_neg_of_neg h2 h3
            simp [h2, h3]; omega
          · exact absurd h3 h1
          · have := Int.mul_neg_of_neg_of_pos h2 h3
            have h4 : ¬ b < 0 := by omega
            simp [h2, h4, this]
        · exact absurd h2 h0
        · rcases Int.lt_trichotomy b 0 with h3 | h3 | h3
          · have := Int.mul_neg_of_pos_of_neg h2 h3
            have h4 : ¬ a < 0 := by omega
            simp [h3, h4, this]
          · exact absurd h3 h1
          · have := Int.mul_pos h2 h3
            have h4 : ¬ a < 0 := by omega
            have h5 : ¬ b < 0 := by omega
            simp [h4, h5]; omega
      have hmag : a.natAbs * 2 ^ (52 - a.natAbs.log2) * (b.natAbs * 2 ^ (52 - b.natAbs.log2)) = (a * b).natAbs * 2 ^ ((52 - a.natAbs.log2) + (52 - b.natAbs.log2)) := by
        rw [Nat.pow_add, ← hAB]
        simp only [Nat.mul_assoc, Nat.mul_left_comm, Nat.mul_comm]
      have hpl : ((a.natAbs.log2 : Int) - 52) + ((b.natAbs.log2 : Int) - 52) = -(((52 - a.natAbs.log2) + (52 - b.natAbs.log2) : Nat) : Int) := by omega
      refine ⟨_, rfl, ?_⟩
      have hread : ∀ c, c = double.write (.number (decide (a < 0) ^^ decide (b < 0)) (a.natAbs * 2 ^ (52 - a.natAbs.log2) * (b.natAbs * 2 ^ (52 - b.natAbs.log2))) (((a.natAbs.log2 : Int) - 52) + ((b.natAbs.log2 : Int) - 52))) → Holds c (a * b) := by
        intro c hc
        rw [hsg, hmag, hpl] at hc
        have hc' : c = double.nearest (decide (a * b < 0)) ((a * b).natAbs * 2 ^ ((52 - a.natAbs.log2) + (52 - b.natAbs.log2))) (-(((52 - a.natAbs.log2) + (52 - b.natAbs.log2) : Nat) : Int)) := hc
        by_cases hsm : (a * b).natAbs < 9007199254740992
        · have hr := near_small (decide (a * b < 0)) (a * b).natAbs ((52 - a.natAbs.log2) + (52 - b.natAbs.log2)) hne hsm
          rw [← hc'] at hr
          have := holds_exact c _ _ hne hsm hr
          have e : (if decide (a * b < 0) = true then -((a * b).natAbs : Int) else ((a * b).natAbs : Int)) = a * b := by
            by_cases hn : a * b < 0
            · simp only [hn, decide_true, if_true]; omega
            · simp only [hn, decide_false, Bool.false_eq_true, if_false]; omega
          rw [e] at this
          exact this
        · have hlog : (a * b).natAbs.log2 ≤ 900 := by
            have hle : (a * b).natAbs ≤ 1000000000000 * 1000000000000 := by rw [← hAB]; exact Nat.mul_le_mul (by omega) (by omega)
            have : (a * b).natAbs.log2 < 80 := (Nat.log2_lt hne).2 (by have : (1000000000000 * 1000000000000 : Nat) < 2 ^ 80 := by decide
                                                                       omega)
            omega
          obtain ⟨K, p, hr, hK, hp⟩ := near_big (decide (a * b < 0)) (a * b).natAbs ((52 - a.natAbs.log2) + (52 - b.natAbs.log2)) (by omega) hlog
          rw [← hc'] at hr
          exact holds_big c _ K p hK hp hr (a * b) (by omega) rfl
      exact hread _ rfl
end Go.Proofs.YtmelebfpkjnfdaaGreatDoor
