/-
  bound.Bounds.
-/
import Derived.Test.YtkomgidcgepknaaGreatDoorBase
import GoSem.Core.Float
import Derived.Test.YtkomgidcgepknaaGreatDoorBndP
import Derived.Test.YtkomgidcgepknaaGreatDoorNodA
import Derived.WalkLawsBesides
import Derived.Test.YtkomgidcgepknaaGreatDoorExpD
import Derived.Maps.OwnSet
import Derived.Test.YtkomgidcgepknaaGreatDoorExpH
import Derived.Test.YtkomgidcgepknaaGreatDoorExpL
import Derived.Test.YtkomgidcgepknaaGreatDoorMore
import Derived.Test.YtkomgidcgepknaaGreatDoorExpG
set_option linter.unusedVariables false
set_option linter.unusedSimpArgs false
namespace Go.Proofs.YtkomgidcgepknaaGreatDoor
open Ieee

theorem log2_two (V k : Nat) (h : V ≠ 0) : (V * 2 ^ k).log2 = V.log2 + k := by
  have hpos : V * 2 ^ k ≠ 0 := Nat.mul_ne_zero h (by have := Nat.two_pow_pos k; omega)
  rw [Nat.log2_eq_iff hpos]
  have h1 := Nat.log2_self_le h
  have h2 := Nat.lt_log2_self (n := V)
  have hk := Nat.two_pow_pos k
  constructor
  · rw [Nat.pow_add]; exact Nat.mul_le_mul_right _ h1
  · rw [show V.log2 + k + 1 = (V.log2 + 1) + k by omega, Nat.pow_add]
    exact Nat.mul_lt_mul_of_pos_right h2 hk
theorem cut_exact (neg : Bool) (q d : Nat) (h : d ≤ (q * 2 ^ d).log2 + 2) : Toward.even.cut neg (q * 2 ^ d) d = q := by
  unfold Toward.cut
  rw [Nat.min_eq_left h, Nat.one_shiftLeft]
  have hp := Nat.two_pow_pos d
  have h0 : (2 ^ d == 0) = false := by simp
  simp only [Nat.mul_div_cancel _ hp, Nat.mul_mod_left, Nat.mul_zero, Nat.not_lt_zero, decide_false, Bool.false_or, h0, Bool.false_and, Bool.toNat_false, Nat.add_zero]
theorem cut_near (neg : Bool) (n d : Nat) (h : d ≤ n.log2 + 2) : n / 2 ^ d ≤ Toward.even.cut neg n d ∧ Toward.even.cut neg n d ≤ n / 2 ^ d + 1 := by
  unfold Toward.cut
  rw [Nat.min_eq_left h, Nat.one_shiftLeft]
  refine ⟨Nat.le_add_right _ _, ?_⟩
  have : ∀ b : Bool, b.toNat ≤ 1 := by decide
  exact Nat.add_le_add_left (this _) _

/-- The word of a sign, a step and a significand, read. -/
theorem read_word (neg : Bool) (E K : Nat) (h1 : 4503599627370496 ≤ K) (h2 : K < 9007199254740992) (hE : E < 2046) :
    double.read (double.word neg (E * 4503599627370496 + K)) = .number neg K ((E : Int) - 1074) := by
  have hw : double.signWeight = 9223372036854775808 := by decide
  have hb : double.binade = 4503599627370496 := by decide
  have hi : double.infRung = 2047 * 4503599627370496 := by decide
  have hl : double.leastPlace = -1074 := by decide
  have hr : E * 4503599627370496 + K < 9223372036854775808 := by omega
  unfold Format.read Format.word
  rw [hw, hb, hi, hl]
  have e1 : (if neg = true then 9223372036854775808 + (E * 4503599627370496 + K) else E * 4503599627370496 + K) % 9223372036854775808 = E * 4503599627370496 + K := by
    cases neg
    · simp only [Bool.false_eq_true, if_false]; omega
    · simp only [if_true]; omega
  have e2 : ((if neg = true then 9223372036854775808 + (E * 4503599627370496 + K) else E * 4503599627370496 + K) / 9223372036854775808 % 2 == 1) = neg := by
    cases neg
    · simp only [Bool.false_eq_true, if_false]
      have : (E * 4503599627370496 + K) / 9223372036854775808 = 0 := by omega
      rw [this]; rfl
    · simp only [if_true]
      have : (9223372036854775808 + (E * 4503599627370496 + K)) / 9223372036854775808 = 1 := by omega
      rw [this]; rfl
  simp only [e1, e2]
  rw [if_neg (by omega), if_pos (by omega)]
  have e3 : 4503599627370496 + (E * 4503599627370496 + K) % 4503599627370496 = K := by omega
  have e4 : (E * 4503599627370496 + K) / 4503599627370496 - 1 = E := by omega
  rw [e3, e4]
  have e5 : (-1074 : Int) + ((E : Nat) : Int) = (E : Int) - 1074 := by omega
  rw [e5]
theorem read_zero (neg : Bool) : double.read (double.word neg 0) = .number neg 0 (-1074) := by cases neg <;> decide
theorem pow52 : (2 : Nat) ^ 52 = 4503599627370496 := by decide
/-- A positive number V, written as V * 2^k at the place -k: what is read of its nearest word. -/
theorem near_small (neg : Bool) (V k : Nat) (h0 : V ≠ 0) (hV : V < 9007199254740992) :
    double.read (double.nearest neg (V * 2 ^ k) (-(k : Int))) = .number neg (V * 2 ^ (52 - V.log2)) ((V.log2 : Int) - 52) := by
  have hL : V.log2 ≤ 52 := by
    have : V.log2 < 53 := (Nat.log2_lt h0).2 (by rw [show (2 : Nat) ^ 53 = 9007199254740992 by decide]; exact hV)
    omega
  have h1 := Nat.log2_self_le h0
  have h2 := Nat.lt_log2_self (n := V)
  have hM : V * 2 ^ k ≠ 0 := Nat.mul_ne_zero h0 (by have := Nat.two_pow_pos k; omega)
  have hb : double.binade = 4503599627370496 := by decide
  have hi : double.infRung = 2047 * 4503599627370496 := by decide
  have hl : double.leastPlace = -1074 := by decide
  have hf : double.fractionBits = 52 := by decide
  unfold Format.nearest
  rw [if_neg hM, hb, hi, hl, hf, log2_two V k h0]
  have hlast : max (-(k : Int) + ((V.log2 + k : Nat) : Int) - ((52 : Nat) : Int)) (-1074) = (V.log2 : Int) - 52 := by omega
  simp only [hlast]
  generalize hK : V * 2 ^ (52 - V.log2) = K
  have hK1 : 4503599627370496 ≤ K := by
    rw [← hK, ← pow52, show (52 : Nat) = V.log2 + (52 - V.log2) by omega]
    rw [Nat.pow_add, show V.log2 + (52 - V.log2) - V.log2 = 52 - V.log2 by omega]
    exact Nat.mul_le_mul_right _ h1
  have hK2 : K < 9007199254740992 := by
    rw [← hK, show (9007199254740992 : Nat) = 2 ^ ((V.log2 + 1) + (52 - V.log2)) by rw [show V.log2 + 1 + (52 - V.log2) = 53 by omega]]
    rw [Nat.pow_add]
    exact Nat.mul_lt_mul_of_pos_right h2 (Nat.two_pow_pos _)
  have kept : Toward.even.cut neg ((V * 2 ^ k) <<< (-(k : Int) - ((V.log2 : Int) - 52)).toNat) (((V.log2 : Int) - 52) - -(k : Int)).toNat = K := by
    rw [Nat.shiftLeft_eq]
    by_cases hk : k ≤ 52 - V.log2
    · have e1 : (-(k : Int) - ((V.log2 : Int) - 52)).toNat = 52 - V.log2 - k := by omega
      have e2 : (((V.log2 : Int) - 52) - -(k : Int)).toNat = 0 := by omega
      rw [e1, e2]
      have := cut_exact neg (V * 2 ^ k * 2 ^ (52 - V.log2 - k)) 0 (Nat.zero_le _)
      rw [Nat.pow_zero, Nat.mul_one] at this
      rw [this, Nat.mul_assoc, ← Nat.pow_add, show k + (52 - V.log2 - k) = 52 - V.log2 by omega, hK]
    · have e1 : (-(k : Int) - ((V.log2 : Int) - 52)).toNat = 0 := by omega
      have e2 : (((V.log2 : Int) - 52) - -(k : Int)).toNat = k - (52 - V.log2) := by omega
      rw [e1, e2, Nat.pow_zero, Nat.mul_one]
      have e3 : V * 2 ^ k = K * 2 ^ (k - (52 - V.log2)) := by
        rw [← hK, Nat.mul_assoc, ← Nat.pow_add, show 52 - V.log2 + (k - (52 - V.log2)) = k by omega]
      rw [e3]
      refine cut_exact neg K _ ?_
      rw [← e3, log2_two V k h0]
      omega
  rw [kept]
  have e4 : (((V.log2 : Int) - 52) - -1074).toNat = V.log2 + 1022 := by omega
  have e6 : ((V.log2 + 1022 : Nat) : Int) - 1074 = (V.log2 : Int) - 52 := by omega
  rw [e4, Nat.min_eq_left (by omega), read_word neg _ K hK1 hK2 (by omega), e6]
theorem near_big (neg : Bool) (V k : Nat) (hV : 9007199254740992 ≤ V) (hV2 : V.log2 ≤ 900) :
    ∃ K p, double.read (double.nearest neg (V * 2 ^ k) (-(k : Int))) = .number neg K p ∧ 4503599627370496 ≤ K ∧ 1 ≤ p := by
  have h0 : V ≠ 0 := by omega
  have hL : 53 ≤ V.log2 := (Nat.le_log2 h0).2 (by rw [show (2 : Nat) ^ 53 = 9007199254740992 by decide]; exact hV)
  have h1 := Nat.log2_self_le h0
  have h2 := Nat.lt_log2_self (n := V)
  have hM : V * 2 ^ k ≠ 0 := Nat.mul_ne_zero h0 (by have := Nat.two_pow_pos k; omega)
  have hb : double.binade = 4503599627370496 := by decide
  have hi : double.infRung = 2047 * 4503599627370496 := by decide
  have hl : double.leastPlace = -1074 := by decide
  have hf : double.fractionBits = 52 := by decide
  unfold Format.nearest
  rw [if_neg hM, hb, hi, hl, hf, log2_two V k h0]
  have hlast : max (-(k : Int) + ((V.log2 + k : Nat) : Int) - ((52 : Nat) : Int)) (-1074) = (V.log2 : Int) - 52 := by omega
  simp only [hlast]
  have e1 : (-(k : Int) - ((V.log2 : Int) - 52)).toNat = 0 := by omega
  have e2 : (((V.log2 : Int) - 52) - -(k : Int)).toNat = V.log2 - 52 + k := by omega
  rw [e1, e2, Nat.shiftLeft_zero]
  obtain ⟨c1, c2⟩ := cut_near neg (V * 2 ^ k) (V.log2 - 52 + k) (by rw [log2_two V k h0]; omega)
  have q1 : 4503599627370496 ≤ V * 2 ^ k / 2 ^ (V.log2 - 52 + k) := by
    rw [Nat.le_div_iff_mul_le (Nat.two_pow_pos _), ← pow52, ← Nat.pow_add, show 52 + (V.log2 - 52 + k) = V.log2 + k by omega, Nat.pow_add]
    exact Nat.mul_le_mul_right _ h1
  have q2 : V * 2 ^ k / 2 ^ (V.log2 - 52 + k) < 9007199254740992 := by
    rw [Nat.div_lt_iff_lt_mul (Nat.two_pow_pos _), show (9007199254740992 : Nat) = 2 ^ 53 by decide, ← Nat.pow_add, show 53 + (V.log2 - 52 + k) = (V.log2 + 1) + k by omega, Nat.pow_add]
    exact Nat.mul_lt_mul_of_pos_right h2 (Nat.two_pow_pos _)
  generalize Toward.even.cut neg (V * 2 ^ k) (V.log2 - 52 + k) = K at c1 c2
  generalize V * 2 ^ k / 2 ^ (V.log2 - 52 + k) = low at c1 c2 q1 q2
  have e4 : (((V.log2 : Int) - 52) - -1074).toNat = V.log2 + 1022 := by omega
  rw [e4, Nat.min_eq_left (by omega)]
  by_cases hK : K < 9007199254740992
  · exact ⟨K, _, read_word neg _ K (by omega) hK (by omega), by omega, by omega⟩
  · have hK' : K = 9007199254740992 := by omega
    rw [hK', show (V.log2 + 1022) * 4503599627370496 + 9007199254740992 = (V.log2 + 1023) * 4503599627370496 + 4503599627370496 by omega]
    exact ⟨4503599627370496, _, read_word neg _ _ (by omega) (by omega) (by omega), by omega, by omega⟩

/-- 'float64(a)' for a number that fits. -/
theorem of_int (a : Int) (h : a.natAbs < 9007199254740992) (h0 : a ≠ 0) :
    double.read (FloatKind.f64.nearest a) = .number (decide (a < 0)) (a.natAbs * 2 ^ (52 - a.natAbs.log2)) ((a.natAbs.log2 : Int) - 52) := by
  have := near_small (decide (a < 0)) a.natAbs 0 (by omega) h
  rw [Nat.pow_zero, Nat.mul_one] at this
  exact this
theorem of_zero : double.read (FloatKind.f64.nearest 0) = .number false 0 (-1074) := by decide

/-- What a product of two floats is held against. -/
theorem signed_lt (neg : Bool) (m : Nat) (u : Nat) : signed neg m u = if neg = true then -((m * 2 ^ u : Nat) : Int) else ((m * 2 ^ u : Nat) : Int) := by
  unfold signed
  rw [Nat.shiftLeft_eq]
/-- A whole number v as it lies in a word, against 2 * 10^12 and - 2 * 10^12. -/
structure Holds (c : Nat) (v : Int) : Prop where
  gt : ((double.read c).order (.number false (2000000000000 * 4096) (-12)) == some .gt) = decide (2000000000000 < v)
  lt : ((double.read c).order (.number true (2000000000000 * 4096) (-12)) == some .lt) = decide (v < -2000000000000)
theorem order_num (s t : Bool) (m n : Nat) (i j : Int) : (Datum.number s m i).order (.number t n j) = some (compare (signed s m (i - min i j).toNat) (signed t n (j - min i j).toNat)) := rfl
theorem cmp_gt (a b : Int) : (some (compare a b) == some Ordering.gt) = decide (b < a) := by
  rcases Int.lt_trichotomy a b with h | h | h
  · rw [Int.compare_eq_lt.2 h]; simp; omega
  · rw [Int.compare_eq_eq.2 h]; simp; omega
  · rw [Int.compare_eq_gt.2 h]; simp; omega
theorem cmp_lt (a b : Int) : (some (compare a b) == some Ordering.lt) = decide (a < b) := by
  rcases Int.lt_trichotomy a b with h | h | h
  · rw [Int.compare_eq_lt.2 h]; simp; omega
  · rw [Int.compare_eq_eq.2 h]; simp; omega
  · rw [Int.compare_eq_gt.2 h]; simp; omega
theorem holds_exact (c : Nat) (s : Bool) (V : Nat) (h0 : V ≠ 0) (hV : V < 9007199254740992) (h : double.read c = .number s (V * 2 ^ (52 - V.log2)) ((V.log2 : Int) - 52)) :
    Holds c (if s = true then -(V : Int) else V) := by
  have hL : V.log2 ≤ 52 := by
    have : V.log2 < 53 := (Nat.log2_lt h0).2 (by rw [show (2 : Nat) ^ 53 = 9007199254740992 by decide]; exact hV)
    omega
  -- both sides times a power of two
  obtain ⟨u, v, hu, hv, huv⟩ : ∃ u v : Nat, (((V.log2 : Int) - 52) - min ((V.log2 : Int) - 52) (-12)).toNat = u ∧ ((-12 : Int) - min ((V.log2 : Int) - 52) (-12)).toNat = v ∧ (52 - V.log2) + u = 12 + v := ⟨_, _, rfl, rfl, by omega⟩
  have e1 : V * 2 ^ (52 - V.log2) * 2 ^ u = V * 2 ^ (12 + v) := by rw [Nat.mul_assoc, ← Nat.pow_add, huv]
  have e2 : 2000000000000 * 4096 * 2 ^ v = 2000000000000 * 2 ^ (12 + v) := by rw [Nat.pow_add, show (2 : Nat) ^ 12 = 4096 by decide, Nat.mul_assoc]
  have hp := Nat.two_pow_pos (12 + v)
  have mono : ∀ x y : Nat, x * 2 ^ (12 + v) < y * 2 ^ (12 + v) ↔ x < y := fun x y => Nat.mul_lt_mul_right hp
  constructor
  · rw [h, order_num, cmp_gt, hu, hv, signed_lt, signed_lt, e1, e2]
    cases s
    · simp only [Bool.false_eq_true, if_false]
      rw [decide_eq_decide]
      have := mono 2000000000000 V
      omega
    · simp only [Bool.false_eq_true, if_false, if_true]
      rw [decide_eq_decide]
      have : 0 ≤ ((V * 2 ^ (12 + v) : Nat) : Int) := Int.natCast_nonneg _
      have : 0 ≤ ((2000000000000 * 2 ^ (12 + v) : Nat) : Int) := Int.natCast_nonneg _
      omega
  · rw [h, order_num, cmp_lt, hu, hv, signed_lt, signed_lt, e1, e2]
    cases s
    · simp only [Bool.false_eq_true, if_false, if_true]
      rw [decide_eq_decide]
      have : 0 ≤ ((V * 2 ^ (12 + v) : Nat) : Int) := Int.natCast_nonneg _
      have : 0 ≤ ((2000000000000 * 2 ^ (12 + v) : Nat) : Int) := Int.natCast_nonneg _
      omega
    · simp only [if_true]
      rw [decide_eq_decide]
      have := mono 2000000000000 V
      omega
theorem holds_big (c : Nat) (s : Bool) (K : Nat) (p : Int) (hK : 4503599627370496 ≤ K) (hp : 1 ≤ p) (h : double.read c = .number s K p) (v : Int) (hv : 9007199254740992 ≤ v.natAbs) (hs : s = decide (v < 0)) : Holds c v := by
  have hmin : min p (-12) = -12 := by omega
  have e2 : ((-12 : Int) - -12).toNat = 0 := by decide
  obtain ⟨u, hu⟩ : ∃ u : Nat, (p - -12).toNat = 13 + u := ⟨(p - 1).toNat, by omega⟩
  have big : 2000000000000 * 4096 < K * 2 ^ (13 + u) := by
    have h1 : 2 ^ 13 ≤ 2 ^ (13 + u) := Nat.pow_le_pow_right (by omega) (by omega)
    have h2 : 4503599627370496 * 2 ^ 13 ≤ K * 2 ^ (13 + u) := Nat.mul_le_mul hK h1
    have h3 : 2000000000000 * 4096 < 4503599627370496 * 2 ^ 13 := by decide
    omega
  constructor
  · rw [h, order_num, cmp_gt, hmin, e2, hu, signed_lt, signed_lt, Nat.pow_zero, Nat.mul_one]
    subst hs
    generalize K * 2 ^ (13 + u) = Z at big
    by_cases hn : v < 0
    · simp only [hn, decide_true, if_true, Bool.false_eq_true, if_false]
      rw [decide_eq_decide]
      omega
    · simp only [hn, decide_false, Bool.false_eq_true, if_false]
      rw [decide_eq_decide]
      omega
  · rw [h, order_num, cmp_lt, hmin, e2, hu, signed_lt, signed_lt, Nat.pow_zero, Nat.mul_one]
    subst hs
    generalize K * 2 ^ (13 + u) = Z at big
    by_cases hn : v < 0
    · simp only [hn, decide_true, if_true]
      rw [decide_eq_decide]
      omega
    · simp only [hn, decide_false, if_true, Bool.false_eq_true, if_false]
      rw [decide_eq_decide]
      omega
theorem holds_zero (c : Nat) (s : Bool) (p : Int) (h : double.read c = .number s 0 p) : Holds c 0 := by
  have z : ∀ u, signed s 0 u = 0 := fun u => by rw [signed_lt, Nat.zero_mul]; cases s <;> rfl
  have hp := fun u : Nat => Nat.two_pow_pos u
  have h1 := hp ((-12 : Int) - min p (-12)).toNat
  have h2 : 0 < 2000000000000 * 4096 * 2 ^ ((-12 : Int) - min p (-12)).toNat := Nat.mul_pos (by omega) h1
  generalize hZ : 2000000000000 * 4096 * 2 ^ ((-12 : Int) - min p (-12)).toNat = Z at h2
  constructor
  · rw [h, order_num, cmp_gt, z, signed_lt, hZ]
    rw [decide_eq_decide]
    simp only [Bool.false_eq_true, if_false]
    omega
  · rw [h, order_num, cmp_lt, z, signed_lt, hZ]
    rw [decide_eq_decide]
    simp only [if_true]
    omega
/-- The product of 'float64(a)' and 'float64(b)'. -/
theorem mul_holds (a b : Int) (ha : -1000000000000 ≤ a ∧ a ≤ 1000000000000) (hb : -1000000000000 ≤ b ∧ b ≤ 1000000000000) :
    ∃ c, double.mul (FloatKind.f64.nearest a) (FloatKind.f64.nearest b) = some c ∧ Holds c (a * b) := by
  unfold Format.mul
  by_cases h0 : a = 0
  · subst h0
    rw [of_zero, Int.zero_mul]
    by_cases h1 : b = 0
    · subst h1
      rw [of_zero]
      exact ⟨_, rfl, holds_zero _ false (-1074) (by decide)⟩
    · rw [of_int b (by omega) h1]
      refine ⟨_, rfl, holds_zero _ (false ^^ decide (b < 0)) (-1074) ?_⟩
      show double.read (double.nearest _ (0 * _) _) = _
      rw [Nat.zero_mul]
      unfold Format.nearest
      rw [if_pos rfl]
      exact read_zero _
  · by_cases h1 : b = 0
    · subst h1
      rw [of_zero, of_int a (by omega) h0, Int.mul_zero]
      refine ⟨_, rfl, holds_zero _ (decide (a < 0) ^^ false) (-1074) ?_⟩
      show double.read (double.nearest _ (_ * 0) _) = _
      rw [Nat.mul_zero]
      unfold Format.nearest
      rw [if_pos rfl]
      exact read_zero _
    · rw [of_int a (by omega) h0, of_int b (by omega) h1]
      have hAB : a.natAbs * b.natAbs = (a * b).natAbs := (Int.natAbs_mul a b).symm
      have hne : (a * b).natAbs ≠ 0 := by rw [← hAB]; exact Nat.mul_ne_zero (by omega) (by omega)
      have ha39 : a.natAbs.log2 ≤ 52 := by
        have : a.natAbs.log2 < 53 := (Nat.log2_lt (by omega)).2 (by rw [show (2 : Nat) ^ 53 = 9007199254740992 by decide]; omega)
        omega
      have hb39 : b.natAbs.log2 ≤ 52 := by
        have : b.natAbs.log2 < 53 := (Nat.log2_lt (by omega)).2 (by rw [show (2 : Nat) ^ 53 = 9007199254740992 by decide]; omega)
        omega
      have hsg : (decide (a < 0) ^^ decide (b < 0)) = decide (a * b < 0) := by
        rcases Int.lt_trichotomy a 0 with h2 | h2 | h2
        · rcases Int.lt_trichotomy b 0 with h3 | h3 | h3
          · have := Int.mul_pos_of_neg_of_neg h2 h3
            simp [h2, h3]; omega
          · exact absurd h3 h1
          · have := Int.mul_neg_of_neg_of_pos h2 h3
            have h4 : ¬ b < 0 := by omega
            simp [h2, h4, this]
        · exact absurd h2 h0
        · rcases Int.lt_trichotomy b 0 with h3 | h3 | h3
          · have := Int.mul_neg_of_pos_of_neg h2 h3
            have h4 : ¬ a < 0 := by omega
            simp [h3, h4, this]
          · exact absurd h3 h1
          · have := Int.mul_pos h2 h3
            have h4 : ¬ a < 0 := by omega
            have h5 : ¬ b < 0 := by omega
            simp [h4, h5]; omega
      have hmag : a.natAbs * 2 ^ (52 - a.natAbs.log2) * (b.natAbs * 2 ^ (52 - b.natAbs.log2)) = (a * b).natAbs * 2 ^ ((52 - a.natAbs.log2) + (52 - b.natAbs.log2)) := by
        rw [Nat.pow_add, ← hAB]
        simp only [Nat.mul_assoc, Nat.mul_left_comm, Nat.mul_comm]
      have hpl : ((a.natAbs.log2 : Int) - 52) + ((b.natAbs.log2 : Int) - 52) = -(((52 - a.natAbs.log2) + (52 - b.natAbs.log2) : Nat) : Int) := by omega
      refine ⟨_, rfl, ?_⟩
      have hread : ∀ c, c = double.write (.number (decide (a < 0) ^^ decide (b < 0)) (a.natAbs * 2 ^ (52 - a.natAbs.log2) * (b.natAbs * 2 ^ (52 - b.natAbs.log2))) (((a.natAbs.log2 : Int) - 52) + ((b.natAbs.log2 : Int) - 52))) → Holds c (a * b) := by
        intro c hc
        rw [hsg, hmag, hpl] at hc
        have hc' : c = double.nearest (decide (a * b < 0)) ((a * b).natAbs * 2 ^ ((52 - a.natAbs.log2) + (52 - b.natAbs.log2))) (-(((52 - a.natAbs.log2) + (52 - b.natAbs.log2) : Nat) : Int)) := hc
        by_cases hsm : (a * b).natAbs < 9007199254740992
        · have hr := near_small (decide (a * b < 0)) (a * b).natAbs ((52 - a.natAbs.log2) + (52 - b.natAbs.log2)) hne hsm
          rw [← hc'] at hr
          have := holds_exact c _ _ hne hsm hr
          have e : (if decide (a * b < 0) = true then -((a * b).natAbs : Int) else ((a * b).natAbs : Int)) = a * b := by
            by_cases hn : a * b < 0
            · simp only [hn, decide_true, if_true]; omega
            · simp only [hn, decide_false, Bool.false_eq_true, if_false]; omega
          rw [e] at this
          exact this
        · have hlog : (a * b).natAbs.log2 ≤ 900 := by
            have hle : (a * b).natAbs ≤ 1000000000000 * 1000000000000 := by rw [← hAB]; exact Nat.mul_le_mul (by omega) (by omega)
            have : (a * b).natAbs.log2 < 80 := (Nat.log2_lt hne).2 (by have : (1000000000000 * 1000000000000 : Nat) < 2 ^ 80 := by decide
                                                                       omega)
            omega
          obtain ⟨K, p, hr, hK, hp⟩ := near_big (decide (a * b < 0)) (a * b).natAbs ((52 - a.natAbs.log2) + (52 - b.natAbs.log2)) (by omega) hlog
          rw [← hc'] at hr
          exact holds_big c _ K p hK hp hr (a * b) (by omega) rfl
      exact hread _ rfl
end Go.Proofs.YtkomgidcgepknaaGreatDoor

set_option linter.unusedVariables false
set_option linter.unusedSimpArgs false
namespace Go.Proofs.YtkomgidcgepknaaGreatDoor
open Go.RowKit Go.Deep Go.Maps

theorem beyond_any (n : Int) (w : World) : Calls Tryz.prog 104 #[.int .i64 n] w fun e w' => e = .returned (.bool (beyondL n)) ∧ w = w' := by
  have HB : Hid (beyondL n = (decide (n < -1000000000000) || decide (1000000000000 < n))) := rfl
  by_cases h1 : n < -1000000000000
  · have h1' : decide (n < -1000000000000) = true := decide_eq_true h1
    rw [h1', Bool.true_or] at HB
    go_enter Tryz.func104, Tryz.ntmps104
    go_wp2
    go_ret
    exact ⟨by rw [HB.out]; rfl, rfl⟩
  · have h1' : decide (n < -1000000000000) = false := decide_eq_false h1
    rw [h1', Bool.false_or] at HB
    by_cases h2 : 1000000000000 < n
    · have h2' : decide (1000000000000 < n) = true := decide_eq_true h2
      rw [h2'] at HB
      go_enter Tryz.func104, Tryz.ntmps104
      go_wp2
      go_ret
      exact ⟨by rw [HB.out]; rfl, rfl⟩
    · have h2' : decide (1000000000000 < n) = false := decide_eq_false h2
      rw [h2'] at HB
      go_enter Tryz.func104, Tryz.ntmps104
      go_wp2
      go_ret
      exact ⟨by rw [HB.out]; rfl, rfl⟩

/-- Two numbers are a value. -/
abbrev spanV (s : Int × Int) : Value := .agg #[.int .i64 s.1, .int .i64 s.2]
theorem flags_any (m n : Bool) (w : World) : Calls Tryz.prog 147 #[.bool m, .bool n] w fun e w' => e = .returned (spanV (flagsL m n)) ∧ Below w.heap.size w w' := by
  cases m
  · go_enter Tryz.func147, Tryz.ntmps147
    go_wp2
    exact bodyPost_ret (v := .agg #[.int .i64 0, .int .i64 0]) (by simp [results, Tryz.results147, go_sem]) rfl ⟨rfl, (Below.refl _ _).alloc (Nat.le_refl _) _⟩
  · cases n
    · go_enter Tryz.func147, Tryz.ntmps147
      go_wp2
      exact bodyPost_ret (v := .agg #[.int .i64 1, .int .i64 1]) (by simp [results, Tryz.results147, go_sem]) rfl ⟨rfl, (Below.refl _ _).alloc (Nat.le_refl _) _⟩
    · go_enter Tryz.func147, Tryz.ntmps147
      go_wp2
      exact bodyPost_ret (v := .agg #[.int .i64 0, .int .i64 1]) (by simp [results, Tryz.results147, go_sem]) rfl ⟨rfl, (Below.refl _ _).alloc (Nat.le_refl _) _⟩

theorem tdiv_bd (a b : Int) (ha : -1000000000000 ≤ a ∧ a ≤ 1000000000000) : -1000000000000 ≤ a.tdiv b ∧ a.tdiv b ≤ 1000000000000 := by
  have h := Int.natAbs_tdiv a b
  have h2 : a.natAbs / b.natAbs ≤ a.natAbs := Nat.div_le_self _ _
  have h3 : (a.tdiv b).natAbs ≤ a.natAbs := by rw [h]; exact h2
  omega
set_option maxHeartbeats 400000 in
theorem over_any (a b : Int) (w : World) (ha : -1000000000000 ≤ a ∧ a ≤ 1000000000000) : Calls Tryz.prog 146 #[.int .i64 a, .int .i64 b] w fun e w' => e = .returned (.int .i64 (overL a b)) ∧ w = w' := by
  have hd := tdiv_bd a b ha
  obtain ⟨ha1, ha2⟩ := ha
  by_cases hb : b = 0
  · subst hb
    go_enter Tryz.func146, Tryz.ntmps146
    go_wp2
    go_ret
    exact ⟨rfl, rfl⟩
  · have hb' : (b == 0) = false := beq_eq_false_iff_ne.2 hb
    have HO : Hid (overL a b = if a.tmod b ≠ 0 ∧ (decide (a < 0) ≠ decide (b < 0)) then a.tdiv b - 1 else a.tdiv b) := by
      show _ = _
      unfold overL
      rw [if_neg hb]
    go_enter Tryz.func146, Tryz.ntmps146
    go_wp2
    · go_ret
      have hm : a.tmod b = 0 := by assumption
      exact ⟨by rw [HO.out, if_neg (fun h => h.1 hm)]; rfl, rfl⟩
    · go_ret
      have hc : (a.tmod b != 0) = true ∧ (!decide (a < 0) == decide (b < 0)) = true := by assumption
      have h2 : decide (a < 0) ≠ decide (b < 0) := by
        intro e
        have := hc.2
        rw [e] at this
        revert this
        cases decide (b < 0) <;> decide
      exact ⟨by rw [HO.out, if_pos ⟨bne_iff_ne.1 hc.1, h2⟩]; rfl, rfl⟩
    · go_ret
      have hc : (a.tmod b != 0) = false ∨ (!decide (a < 0) == decide (b < 0)) = false := by assumption
      have h2 : ¬ (a.tmod b ≠ 0 ∧ decide (a < 0) ≠ decide (b < 0)) := by
        rintro ⟨e1, e2⟩
        rcases hc with hc | hc
        · rw [bne_iff_ne.2 e1] at hc
          cases hc
        · revert hc e2
          cases decide (a < 0) <;> cases decide (b < 0) <;> decide
      exact ⟨by rw [HO.out, if_neg h2]; rfl, rfl⟩

theorem times_lit (a b : Int) : timesL a b = if 2000000000000 < a * b then 2000000000000 else if a * b < -2000000000000 then -2000000000000 else a * b := by
  unfold timesL MB
  rfl
theorem read_gt : Ieee.double.read 4791014804267466752 = .number false (2000000000000 * 4096) (-12) := by decide +kernel
theorem read_lt : Ieee.double.read 14014386841122242560 = .number true (2000000000000 * 4096) (-12) := by decide +kernel
theorem held_gt {c : Nat} {v : Int} (h : Holds c v) : (FloatKind.f64.format.order c 4791014804267466752 == some Ordering.gt) = decide (2000000000000 < v) := by
  have := h.gt
  rw [← read_gt] at this
  exact this
theorem held_lt {c : Nat} {v : Int} (h : Holds c v) : (FloatKind.f64.format.order c 14014386841122242560 == some Ordering.lt) = decide (v < -2000000000000) := by
  have := h.lt
  rw [← read_lt] at this
  exact this
set_option maxHeartbeats 400000 in
theorem times_any (a b : Int) (w : World) (ha : -1000000000000 ≤ a ∧ a ≤ 1000000000000) (hb : -1000000000000 ≤ b ∧ b ≤ 1000000000000) : Calls Tryz.prog 145 #[.int .i64 a, .int .i64 b] w fun e w' => e = .returned (.int .i64 (timesL a b)) ∧ w = w' := by
  obtain ⟨c, hc, hh⟩ := mul_holds a b ha hb
  obtain ⟨ha1, ha2⟩ := ha
  obtain ⟨hb1, hb2⟩ := hb
  have hc' : floatBits .mul .f64 (floatOfInt .f64 a) (floatOfInt .f64 b) = some c := hc
  have hmul := run_float_arith (P := Tryz.prog) (w := w) .mul 213 .f64 _ _ c hc'
  have HH := hide hh
  clear hc hc' hh
  go_enter Tryz.func145, Tryz.ntmps145
  go_wp2
  · go_ret
    have hg : (FloatKind.f64.format.order c 4791014804267466752 == some Ordering.gt) = true := by assumption
    rw [held_gt HH.out] at hg
    refine ⟨ret_int ?_, rfl⟩
    rw [times_lit]
    rw [if_pos (of_decide_eq_true hg)]
  · go_ret
    have hg : (FloatKind.f64.format.order c 4791014804267466752 == some Ordering.gt) = false := by assumption
    have hl : (FloatKind.f64.format.order c 14014386841122242560 == some Ordering.lt) = true := by assumption
    rw [held_gt HH.out] at hg
    rw [held_lt HH.out] at hl
    refine ⟨ret_int ?_, rfl⟩
    rw [times_lit]
    rw [if_neg (of_decide_eq_false hg), if_pos (of_decide_eq_true hl)]
  · go_ret
    have hg : (FloatKind.f64.format.order c 4791014804267466752 == some Ordering.gt) = false := by assumption
    have hl : (FloatKind.f64.format.order c 14014386841122242560 == some Ordering.lt) = false := by assumption
    rw [held_gt HH.out] at hg
    rw [held_lt HH.out] at hl
    have g1 := of_decide_eq_false hg
    have g2 := of_decide_eq_false hl
    refine ⟨ret_int ?_, rfl⟩
    rw [times_lit]
    rw [if_neg g1, if_neg g2]
    exact W_in (by omega)

theorem hull_same (y : Int) (l : List Int) : hullL (y :: l) = l.foldl (fun h n => (min h.1 n, max h.2 n)) (min y y, max y y) := by
  rw [Int.min_self, Int.max_self]
  rfl
/-- The hull of the first k numbers, beginning with the first one itself. -/
def hullK (y : Int) (l : List Int) : Int × Int := l.foldl (fun h n => (min h.1 n, max h.2 n)) (y, y)
theorem hullK_snoc (y : Int) (l : List Int) (x : Int) : hullK y (l ++ [x]) = (min (hullK y l).1 x, max (hullK y l).2 x) := by
  unfold hullK
  rw [List.foldl_append]
  rfl
theorem hullK_all (y : Int) (l : List Int) : hullK y (y :: l) = hullL (y :: l) := by
  rw [hull_same]
  rfl

set_option maxHeartbeats 1000000 in
theorem hull_any (A : Option Addr) (n c : Nat) (xs : List Int) (w : World) (h : RI w w.heap.size A n xs) (hn : 0 < n) (hm : n ≤ maxLen) :
    Calls Tryz.prog 144 #[.slice A n c] w fun e w' => e = .returned (spanV (hullL xs)) ∧ Below w.heap.size w w' := by
  unfold maxLen at hm
  have hlen := h.len
  obtain ⟨b, off, rfl, hb, g0⟩ := h.at_ (k := 0) hn
  rw [Nat.add_zero] at g0
  have h0 : (0 : Int) < (n : Int) := by omega
  have H := hide h
  have hA : ∀ (o : Obj) (bb off : Nat), bb < w.heap.size → (w.alloc o).cell? ⟨bb, off, none⟩ = w.cell? ⟨bb, off, none⟩ := fun o bb off h => World.cell?_alloc_lt w o ⟨bb, off, none⟩ h
  go_enter Tryz.func144, Tryz.ntmps144
  go_wp2
  go_region
  have b2 : Blk ((w.alloc (Obj.cells #[.int .i64 0, .int .i64 0] 149)).alloc (Obj.cells #[.int .i64 (nth xs 0), .int .i64 (nth xs 0)] 149)).drew w.heap.size 149 #[.int .i64 0, .int .i64 0] := (Blk.new _ _ _).alloc _
  have b3 : Blk ((w.alloc (Obj.cells #[.int .i64 0, .int .i64 0] 149)).alloc (Obj.cells #[.int .i64 (nth xs 0), .int .i64 (nth xs 0)] 149)).drew (w.heap.size + 1) 149 #[.int .i64 (nth xs 0), .int .i64 (nth xs 0)] := by
    have := Blk.new (w.alloc (Obj.cells #[.int .i64 0, .int .i64 0] 149)) 149 #[.int .i64 (nth xs 0), .int .i64 (nth xs 0)]
    rw [show (w.alloc (Obj.cells #[.int .i64 0, .int .i64 0] 149)).heap.size = w.heap.size + 1 from by simp] at this
    exact this
  have hb1 : Below w.heap.size w ((w.alloc (Obj.cells #[.int .i64 0, .int .i64 0] 149)).alloc (Obj.cells #[.int .i64 (nth xs 0), .int .i64 (nth xs 0)] 149)).drew := (((Below.refl _ _).alloc (Nat.le_refl _) _).alloc (by simp) _).drew
  generalize ((w.alloc (Obj.cells #[.int .i64 0, .int .i64 0] 149)).alloc (Obj.cells #[.int .i64 (nth xs 0), .int .i64 (nth xs 0)] 149)).drew = w1 at b2 b3 hb1 ⊢
  clear hA g0 h
  go_wp2
  go_loopw [15] (fun i wr => ∃ k : Nat, k ≤ n ∧ i = .int .i64 k ∧ Blk wr w.heap.size 149 #[.int .i64 0, .int .i64 0] ∧ Blk wr (w.heap.size + 1) 149 #[.int .i64 (hullK (nth xs 0) (xs.take k)).1, .int .i64 (hullK (nth xs 0) (xs.take k)).2] ∧ Below w.heap.size w wr) (fun i _ => n - (intOf i).toNat)
  case atStart => exact ⟨0, Nat.zero_le _, rfl, b2, b3, hb1⟩
  case round =>
    clear b2 b3 hb1
    obtain ⟨k, hk, rfl, b2, b3, hbr⟩ := hrel
    by_cases hlt : k < n
    · obtain ⟨b', off', hA', hb', gk⟩ := H.out.at_ hlt
      injection hA' with hA'
      injection hA' with e1 e2
      subst e1 e2
      have gk' : wr.cell? ⟨b, off + k, none⟩ = some (.int .i64 (nth xs k)) := (hbr.cell (p := ⟨b, off + k, none⟩) hb).trans gk
      have HS := hide (hullK_snoc (nth xs 0) (xs.take k) (nth xs k))
      have HT := hide (nth_take (xs := xs) (k := k) (by omega))
      have B2 := hide b2
      have B3 := hide b3
      generalize hullK (nth xs 0) (xs.take k) = hk2 at HS B3 b3 ⊢
      obtain ⟨lo, hi⟩ := hk2
      dsimp only at HS B3 b3 ⊢
      have c0 : wr.cell? ⟨w.heap.size + 1, 0, none⟩ = some (.int .i64 lo) := b3.cell 0
      have c1 : wr.cell? ⟨w.heap.size + 1, 1, none⟩ = some (.int .i64 hi) := b3.cell 1
      have f0 := b3.frozen 0
      have f1 := b3.frozen 1
      clear gk b2 b3
      go_wp2
      have n2 : Blk ((wr.setCell ⟨w.heap.size + 1, 0, none⟩ (.int .i64 (min lo (nth xs k)))).setCell ⟨w.heap.size + 1, 1, none⟩ (.int .i64 (max hi (nth xs k)))) w.heap.size 149 #[.int .i64 0, .int .i64 0] := (B2.out.far (p := ⟨w.heap.size + 1, 0, none⟩) (by show w.heap.size ≠ w.heap.size + 1; omega) _).far (p := ⟨w.heap.size + 1, 1, none⟩) (by show w.heap.size ≠ w.heap.size + 1; omega) _
      have n3 : Blk ((wr.setCell ⟨w.heap.size + 1, 0, none⟩ (.int .i64 (min lo (nth xs k)))).setCell ⟨w.heap.size + 1, 1, none⟩ (.int .i64 (max hi (nth xs k)))) (w.heap.size + 1) 149 #[.int .i64 (min lo (nth xs k)), .int .i64 (max hi (nth xs k))] := Blk.set_ (Blk.set_ B3.out 0 _) 1 _
      have nb : Below w.heap.size w ((wr.setCell ⟨w.heap.size + 1, 0, none⟩ (.int .i64 (min lo (nth xs k)))).setCell ⟨w.heap.size + 1, 1, none⟩ (.int .i64 (max hi (nth xs k)))) := (hbr.setCell (p := ⟨w.heap.size + 1, 0, none⟩) (Nat.le_succ _) _).setCell (p := ⟨w.heap.size + 1, 1, none⟩) (Nat.le_succ _) _
      go_roundw
      case rel => exact ⟨k + 1, by omega, by go_num, n2, by rw [HT.out, HS.out]; exact n3, nb⟩
      case measure => simp [intOf]; omega
    · obtain rfl : k = n := by omega
      rw [List.take_of_length_le (by omega)] at b3
      have hne : ∃ y l, xs = y :: l := by
        cases xs with
        | nil => simp at hlen; omega
        | cons y l => exact ⟨y, l, rfl⟩
      obtain ⟨y, l, rfl⟩ := hne
      have hy : nth (y :: l) 0 = y := rfl
      rw [hy, hullK_all] at b3
      have B3 := hide b3
      have c0 : wr.cell? ⟨w.heap.size + 1, 0, none⟩ = some (.int .i64 (hullL (y :: l)).1) := b3.cell 0
      have c1 : wr.cell? ⟨w.heap.size + 1, 1, none⟩ = some (.int .i64 (hullL (y :: l)).2) := b3.cell 1
      have d0 : wr.cell? ⟨w.heap.size, 0, none⟩ = some (.int .i64 0) := b2.cell 0
      have d1 : wr.cell? ⟨w.heap.size, 1, none⟩ = some (.int .i64 0) := b2.cell 1
      have f0 := b2.frozen 0
      have f1 := b2.frozen 1
      have B2 := hide b2
      clear b2 b3 hy
      go_wp2
      have r2 : Blk ((wr.setCell ⟨w.heap.size, 0, none⟩ (.int .i64 (hullL (y :: l)).1)).setCell ⟨w.heap.size, 1, none⟩ (.int .i64 (hullL (y :: l)).2)) w.heap.size 149 #[.int .i64 (hullL (y :: l)).1, .int .i64 (hullL (y :: l)).2] := Blk.set_ (Blk.set_ B2.out 0 _) 1 _
      have rb : Below w.heap.size w ((wr.setCell ⟨w.heap.size, 0, none⟩ (.int .i64 (hullL (y :: l)).1)).setCell ⟨w.heap.size, 1, none⟩ (.int .i64 (hullL (y :: l)).2)) := (hbr.setCell (p := ⟨w.heap.size, 0, none⟩) (Nat.le_refl _) _).setCell (p := ⟨w.heap.size, 1, none⟩) (Nat.le_refl _) _
      generalize (wr.setCell ⟨w.heap.size, 0, none⟩ (.int .i64 (hullL (y :: l)).1)).setCell ⟨w.heap.size, 1, none⟩ (.int .i64 (hullL (y :: l)).2) = w5 at r2 rb ⊢
      have e0 : w5.cell? ⟨w.heap.size, 0, none⟩ = some (.int .i64 (hullL (y :: l)).1) := r2.cell 0
      have e1 : w5.cell? ⟨w.heap.size, 1, none⟩ = some (.int .i64 (hullL (y :: l)).2) := r2.cell 1
      exact bodyPost_ret (v := spanV (hullL (y :: l))) (by simp [results, Tryz.results144, go_sem, e0, e1]) rfl ⟨rfl, rb⟩
end Go.Proofs.YtkomgidcgepknaaGreatDoor

set_option linter.unusedVariables false
set_option linter.unusedSimpArgs false
namespace Go.Proofs.YtkomgidcgepknaaGreatDoor
open Go.RowKit Go.Deep Go.Maps

/-- The cells of pairs. -/
def cellsS (ss : List (Int × Int)) : List Value := ss.flatMap fun s => [.int .i64 s.1, .int .i64 s.2]
theorem cellsS_snoc (ss : List (Int × Int)) (s : Int × Int) : cellsS (ss ++ [s]) = cellsS ss ++ [.int .i64 s.1, .int .i64 s.2] := by simp [cellsS]
theorem cellsS_len : ∀ ss : List (Int × Int), (cellsS ss).length = ss.length * 2
  | [] => rfl
  | s :: ss => by
    have := cellsS_len ss
    unfold cellsS at this ⊢
    rw [List.flatMap_cons, List.length_append, this]
    simp
    omega
theorem Reads.atN {w : World} {B size : Nat} {A : Option Addr} {n : Nat} {xs : List Value} (h : Reads w B size A n xs) (hn : 0 < n) {c0 : Value} (h0 : xs[0]? = some c0) : ∃ b off, A = some ⟨b, off, none⟩ ∧ b < B ∧ ∀ j u, xs[j]? = some u → w.cell? ⟨b, off + j, none⟩ = some u := by
  obtain ⟨ad, hA, hb, hc⟩ := h.2 hn
  obtain ⟨b, off, spot⟩ := ad
  have hsp : spot = none := by
    have := hc 0 _ h0
    simpa [Addr.add] using World.cell?_spot this
  subst hsp
  exact ⟨b, off, hA, hb, fun j u hu => by have := hc j u hu; rwa [add_lit] at this⟩
theorem cellsS_get {s : Int × Int} : ∀ (ss : List (Int × Int)) (i : Nat), ss[i]? = some s → (cellsS ss)[i * 2]? = some (.int .i64 s.1) ∧ (cellsS ss)[i * 2 + 1]? = some (.int .i64 s.2)
  | [], i, h => by simp at h
  | y :: ss, 0, h => by
    simp only [List.getElem?_cons_zero, Option.some.injEq] at h
    subst h
    exact ⟨rfl, rfl⟩
  | y :: ss, i + 1, h => by
    have := cellsS_get ss i (by simpa using h)
    rw [show (i + 1) * 2 = (i * 2) + 1 + 1 from by omega]
    unfold cellsS at this ⊢
    simpa only [List.flatMap_cons, List.cons_append, List.nil_append, List.getElem?_cons_succ] using this
theorem cellsS_one : ∀ (ss : List (Int × Int)), ∀ u ∈ cellsS ss, u.oneCell' = true := by
  intro ss u hu
  unfold cellsS at hu
  obtain ⟨s, _, hs⟩ := List.mem_flatMap.1 hu
  simp only [List.mem_cons, List.not_mem_nil, or_false] at hs
  rcases hs with rfl | rfl <;> rfl
/-- '.slice A n c' reads as the pairs ss, below block B. -/
def RSp (w : World) (B : Nat) (A : Option Addr) (n : Nat) (ss : List (Int × Int)) : Prop := Reads w B 2 A n (cellsS ss)
theorem RSp.len {w : World} {B : Nat} {A : Option Addr} {n : Nat} {ss : List (Int × Int)} (h : RSp w B A n ss) : ss.length = n := by
  have := h.1
  rw [cellsS_len] at this
  omega
theorem RSp.at_ {w : World} {B : Nat} {A : Option Addr} {n : Nat} {ss : List (Int × Int)} (h : RSp w B A n ss) {i : Nat} (hi : i < n) : ∃ b off, A = some ⟨b, off, none⟩ ∧ b < B ∧
    w.cell? ⟨b, off + i * 2, none⟩ = some (.int .i64 (ss.getD i (0, 0)).1) ∧ w.cell? ⟨b, off + i * 2 + 1, none⟩ = some (.int .i64 (ss.getD i (0, 0)).2) := by
  have hl := h.len
  have hs : ∀ j, j < n → ss[j]? = some (ss.getD j (0, 0)) := fun j hj => by
    rw [List.getD_eq_getElem?_getD, List.getElem?_eq_getElem (by omega)]
    rfl
  have h0 := (cellsS_get ss 0 (hs 0 (by omega))).1
  obtain ⟨b, off, hA, hb, hc⟩ := Reads.atN (A := A) (w := w) (B := B) (xs := cellsS ss) (n := n) h (by omega) h0
  obtain ⟨g0, g1⟩ := cellsS_get ss i (hs i hi)
  exact ⟨b, off, hA, hb, hc _ _ g0, by have := hc _ _ g1; rwa [← Nat.add_assoc] at this⟩
theorem RSp.below {w w' : World} {B B' : Nat} {A : Option Addr} {n : Nat} {ss : List (Int × Int)} (h : RSp w B A n ss) (hb : Below B w w') : RSp w' B A n ss := Reads.below h hb
theorem RSp.drewN {w : World} {B : Nat} {A : Option Addr} {n : Nat} {ss : List (Int × Int)} (h : RSp w B A n ss) (k : Nat) : RSp (w.drewN k) B A n ss := h
/-- The first two (and the third) of some pairs. -/
theorem RSp.two {w : World} {B : Nat} {A : Option Addr} {n : Nat} {x y : Int × Int} {l : List (Int × Int)} (h : RSp w B A n (x :: y :: l)) : ∃ b off, A = some ⟨b, off, none⟩ ∧ b < B ∧
    w.cell? ⟨b, off, none⟩ = some (.int .i64 x.1) ∧ w.cell? ⟨b, off + 1, none⟩ = some (.int .i64 x.2) ∧ w.cell? ⟨b, off + 2, none⟩ = some (.int .i64 y.1) ∧ w.cell? ⟨b, off + 2 + 1, none⟩ = some (.int .i64 y.2) ∧ w.cell? ⟨b, off + 3, none⟩ = some (.int .i64 y.2) := by
  have hl := h.len
  simp at hl
  obtain ⟨b, off, hA, hb, a0, a1⟩ := h.at_ (i := 0) (by omega)
  obtain ⟨b', off', hA', hb', b0, b1⟩ := h.at_ (i := 1) (by omega)
  rw [hA] at hA'
  injection hA' with hA'
  injection hA' with e1 e2
  subst e1 e2
  exact ⟨b, off, hA, hb, a0, a1, b0, b1, b1⟩

/-- A result of two numbers, in memory. -/
theorem span_put {w w1 : World} {g : Nat} {v0 v1 : Value} {a b : Int} (h : Blk w1 g 149 #[v0, v1]) (hb : Below w.heap.size w w1) (hg : w.heap.size ≤ g) :
    Blk ((w1.setCell ⟨g, 0, none⟩ (.int .i64 a)).setCell ⟨g, 1, none⟩ (.int .i64 b)) g 149 #[.int .i64 a, .int .i64 b] ∧ Below w.heap.size w ((w1.setCell ⟨g, 0, none⟩ (.int .i64 a)).setCell ⟨g, 1, none⟩ (.int .i64 b)) :=
  ⟨Blk.set_ (Blk.set_ h 0 _) 1 _, (hb.setCell (p := ⟨g, 0, none⟩) hg _).setCell (p := ⟨g, 1, none⟩) hg _⟩

set_option maxHeartbeats 1000000 in
set_option maxRecDepth 20000 in
theorem add_any (A : Option Addr) (n c : Nat) (x y : Int × Int) (w : World) (h : RSp w w.heap.size A n [x, y]) (hx : inS x) (hy : inS y) :
    Calls Tryz.prog 94 #[.slice A n c] w fun e w' => e = .returned (spanV (nodeB 3 x y (0, 0))) ∧ Below w.heap.size w w' := by
  obtain rfl : 2 = n := h.len
  obtain ⟨b, off, rfl, hb, a0, a1, b0, _, b1⟩ := h.two
  obtain ⟨x1, x2⟩ := x
  obtain ⟨y1, y2⟩ := y
  obtain ⟨⟨p1, p2⟩, p3, p4⟩ := hx
  obtain ⟨⟨q1, q2⟩, q3, q4⟩ := hy
  dsimp only at a0 a1 b0 b1 p1 p2 p3 p4 q1 q2 q3 q4 ⊢
  have hb0 : Below w.heap.size w (w.alloc (Obj.cells #[.int .i64 0, .int .i64 0] 149)) := (Below.refl _ _).alloc (Nat.le_refl _) _
  have n0 := Blk.new w 149 #[.int .i64 0, .int .i64 0]
  go_enter Tryz.func94, Tryz.ntmps94
  go_upto_region 1 with (fail)
  generalize w.alloc (Obj.cells #[.int .i64 0, .int .i64 0] 149) = w0 at hb0 n0 ⊢
  have e0 : w0.cell? ⟨b, off, none⟩ = some (.int .i64 x1) := (hb0.cell (p := ⟨b, off, none⟩) hb).trans a0
  have e1 : w0.cell? ⟨b, off + 1, none⟩ = some (.int .i64 x2) := (hb0.cell (p := ⟨b, off + 1, none⟩) hb).trans a1
  have e2 : w0.cell? ⟨b, off + 2, none⟩ = some (.int .i64 y1) := (hb0.cell (p := ⟨b, off + 2, none⟩) hb).trans b0
  have e3 : w0.cell? ⟨b, off + 3, none⟩ = some (.int .i64 y2) := (hb0.cell (p := ⟨b, off + 3, none⟩) hb).trans b1
  have c0 : w0.cell? ⟨w.heap.size, 0, none⟩ = some (.int .i64 0) := n0.cell 0
  have c1 : w0.cell? ⟨w.heap.size, 1, none⟩ = some (.int .i64 0) := n0.cell 1
  have f0 := n0.frozen 0
  have f1 := n0.frozen 1
  have N0 := hide n0
  clear n0 a0 a1 b0 b1 h
  go_still_tail 19, (by kernel_rfl)
  change wpList _ _ _ _ _ w0.drew
  go_wp2
  obtain ⟨r2', rb'⟩ := span_put (a := x1 + y1) (b := x2 + y2) N0.out hb0 (Nat.le_refl _)
  have r2 := r2'.drew
  have rb := rb'.drew
  clear r2' rb'
  generalize ((w0.setCell ⟨w.heap.size, 0, none⟩ (.int .i64 (x1 + y1))).setCell ⟨w.heap.size, 1, none⟩ (.int .i64 (x2 + y2))).drew = w5 at r2 rb ⊢
  have d0 : w5.cell? ⟨w.heap.size, 0, none⟩ = some (.int .i64 (x1 + y1)) := r2.cell 0
  have d1 : w5.cell? ⟨w.heap.size, 1, none⟩ = some (.int .i64 (x2 + y2)) := r2.cell 1
  exact bodyPost_ret (v := .agg #[.int .i64 (x1 + y1), .int .i64 (x2 + y2)]) (by simp [results, Tryz.results94, go_sem, d0, d1]) rfl ⟨rfl, rb⟩

set_option maxHeartbeats 1000000 in
set_option maxRecDepth 20000 in
theorem sub_any (A : Option Addr) (n c : Nat) (x y : Int × Int) (w : World) (h : RSp w w.heap.size A n [x, y]) (hx : inS x) (hy : inS y) :
    Calls Tryz.prog 95 #[.slice A n c] w fun e w' => e = .returned (spanV (nodeB 4 x y (0, 0))) ∧ Below w.heap.size w w' := by
  obtain rfl : 2 = n := h.len
  obtain ⟨b, off, rfl, hb, a0, a1, b0, _, b1⟩ := h.two
  obtain ⟨x1, x2⟩ := x
  obtain ⟨y1, y2⟩ := y
  obtain ⟨⟨p1, p2⟩, p3, p4⟩ := hx
  obtain ⟨⟨q1, q2⟩, q3, q4⟩ := hy
  dsimp only at a0 a1 b0 b1 p1 p2 p3 p4 q1 q2 q3 q4 ⊢
  have hb0 : Below w.heap.size w (w.alloc (Obj.cells #[.int .i64 0, .int .i64 0] 149)) := (Below.refl _ _).alloc (Nat.le_refl _) _
  have n0 := Blk.new w 149 #[.int .i64 0, .int .i64 0]
  go_enter Tryz.func95, Tryz.ntmps95
  go_upto_region 1 with (fail)
  generalize w.alloc (Obj.cells #[.int .i64 0, .int .i64 0] 149) = w0 at hb0 n0 ⊢
  have e0 : w0.cell? ⟨b, off, none⟩ = some (.int .i64 x1) := (hb0.cell (p := ⟨b, off, none⟩) hb).trans a0
  have e1 : w0.cell? ⟨b, off + 1, none⟩ = some (.int .i64 x2) := (hb0.cell (p := ⟨b, off + 1, none⟩) hb).trans a1
  have e2 : w0.cell? ⟨b, off + 2, none⟩ = some (.int .i64 y1) := (hb0.cell (p := ⟨b, off + 2, none⟩) hb).trans b0
  have e3 : w0.cell? ⟨b, off + 3, none⟩ = some (.int .i64 y2) := (hb0.cell (p := ⟨b, off + 3, none⟩) hb).trans b1
  have c0 : w0.cell? ⟨w.heap.size, 0, none⟩ = some (.int .i64 0) := n0.cell 0
  have c1 : w0.cell? ⟨w.heap.size, 1, none⟩ = some (.int .i64 0) := n0.cell 1
  have f0 := n0.frozen 0
  have f1 := n0.frozen 1
  have N0 := hide n0
  clear n0 a0 a1 b0 b1 h
  go_still_tail 19, (by kernel_rfl)
  change wpList _ _ _ _ _ w0.drew
  go_wp2
  obtain ⟨r2', rb'⟩ := span_put (a := x1 - y2) (b := x2 - y1) N0.out hb0 (Nat.le_refl _)
  have r2 := r2'.drew
  have rb := rb'.drew
  clear r2' rb'
  generalize ((w0.setCell ⟨w.heap.size, 0, none⟩ (.int .i64 (x1 - y2))).setCell ⟨w.heap.size, 1, none⟩ (.int .i64 (x2 - y1))).drew = w5 at r2 rb ⊢
  have d0 : w5.cell? ⟨w.heap.size, 0, none⟩ = some (.int .i64 (x1 - y2)) := r2.cell 0
  have d1 : w5.cell? ⟨w.heap.size, 1, none⟩ = some (.int .i64 (x2 - y1)) := r2.cell 1
  exact bodyPost_ret (v := .agg #[.int .i64 (x1 - y2), .int .i64 (x2 - y1)]) (by simp [results, Tryz.results95, go_sem, d0, d1]) rfl ⟨rfl, rb⟩

set_option maxHeartbeats 1000000 in
set_option maxRecDepth 20000 in
theorem min_any (A : Option Addr) (n c : Nat) (x y : Int × Int) (w : World) (h : RSp w w.heap.size A n [x, y]) (hx : inS x) (hy : inS y) :
    Calls Tryz.prog 98 #[.slice A n c] w fun e w' => e = .returned (spanV (nodeB 7 x y (0, 0))) ∧ Below w.heap.size w w' := by
  obtain rfl : 2 = n := h.len
  obtain ⟨b, off, rfl, hb, a0, a1, b0, _, b1⟩ := h.two
  obtain ⟨x1, x2⟩ := x
  obtain ⟨y1, y2⟩ := y
  obtain ⟨⟨p1, p2⟩, p3, p4⟩ := hx
  obtain ⟨⟨q1, q2⟩, q3, q4⟩ := hy
  dsimp only at a0 a1 b0 b1 p1 p2 p3 p4 q1 q2 q3 q4 ⊢
  have hb0 : Below w.heap.size w (w.alloc (Obj.cells #[.int .i64 0, .int .i64 0] 149)) := (Below.refl _ _).alloc (Nat.le_refl _) _
  have n0 := Blk.new w 149 #[.int .i64 0, .int .i64 0]
  go_enter Tryz.func98, Tryz.ntmps98
  go_upto_region 1 with (fail)
  generalize w.alloc (Obj.cells #[.int .i64 0, .int .i64 0] 149) = w0 at hb0 n0 ⊢
  have e0 : w0.cell? ⟨b, off, none⟩ = some (.int .i64 x1) := (hb0.cell (p := ⟨b, off, none⟩) hb).trans a0
  have e1 : w0.cell? ⟨b, off + 1, none⟩ = some (.int .i64 x2) := (hb0.cell (p := ⟨b, off + 1, none⟩) hb).trans a1
  have e2 : w0.cell? ⟨b, off + 2, none⟩ = some (.int .i64 y1) := (hb0.cell (p := ⟨b, off + 2, none⟩) hb).trans b0
  have e3 : w0.cell? ⟨b, off + 3, none⟩ = some (.int .i64 y2) := (hb0.cell (p := ⟨b, off + 3, none⟩) hb).trans b1
  have c0 : w0.cell? ⟨w.heap.size, 0, none⟩ = some (.int .i64 0) := n0.cell 0
  have c1 : w0.cell? ⟨w.heap.size, 1, none⟩ = some (.int .i64 0) := n0.cell 1
  have f0 := n0.frozen 0
  have f1 := n0.frozen 1
  have N0 := hide n0
  clear n0 a0 a1 b0 b1 h
  go_still_tail 19, (by kernel_rfl)
  change wpList _ _ _ _ _ w0.drew
  go_wp2
  obtain ⟨r2', rb'⟩ := span_put (a := min x1 y1) (b := min x2 y2) N0.out hb0 (Nat.le_refl _)
  have r2 := r2'.drew
  have rb := rb'.drew
  clear r2' rb'
  generalize ((w0.setCell ⟨w.heap.size, 0, none⟩ (.int .i64 (min x1 y1))).setCell ⟨w.heap.size, 1, none⟩ (.int .i64 (min x2 y2))).drew = w5 at r2 rb ⊢
  have d0 : w5.cell? ⟨w.heap.size, 0, none⟩ = some (.int .i64 (min x1 y1)) := r2.cell 0
  have d1 : w5.cell? ⟨w.heap.size, 1, none⟩ = some (.int .i64 (min x2 y2)) := r2.cell 1
  exact bodyPost_ret (v := .agg #[.int .i64 (min x1 y1), .int .i64 (min x2 y2)]) (by simp [results, Tryz.results98, go_sem, d0, d1]) rfl ⟨rfl, rb⟩

set_option maxHeartbeats 1000000 in
set_option maxRecDepth 20000 in
theorem max_any (A : Option Addr) (n c : Nat) (x y : Int × Int) (w : World) (h : RSp w w.heap.size A n [x, y]) (hx : inS x) (hy : inS y) :
    Calls Tryz.prog 99 #[.slice A n c] w fun e w' => e = .returned (spanV (nodeB 8 x y (0, 0))) ∧ Below w.heap.size w w' := by
  obtain rfl : 2 = n := h.len
  obtain ⟨b, off, rfl, hb, a0, a1, b0, _, b1⟩ := h.two
  obtain ⟨x1, x2⟩ := x
  obtain ⟨y1, y2⟩ := y
  obtain ⟨⟨p1, p2⟩, p3, p4⟩ := hx
  obtain ⟨⟨q1, q2⟩, q3, q4⟩ := hy
  dsimp only at a0 a1 b0 b1 p1 p2 p3 p4 q1 q2 q3 q4 ⊢
  have hb0 : Below w.heap.size w (w.alloc (Obj.cells #[.int .i64 0, .int .i64 0] 149)) := (Below.refl _ _).alloc (Nat.le_refl _) _
  have n0 := Blk.new w 149 #[.int .i64 0, .int .i64 0]
  go_enter Tryz.func99, Tryz.ntmps99
  go_upto_region 1 with (fail)
  generalize w.alloc (Obj.cells #[.int .i64 0, .int .i64 0] 149) = w0 at hb0 n0 ⊢
  have e0 : w0.cell? ⟨b, off, none⟩ = some (.int .i64 x1) := (hb0.cell (p := ⟨b, off, none⟩) hb).trans a0
  have e1 : w0.cell? ⟨b, off + 1, none⟩ = some (.int .i64 x2) := (hb0.cell (p := ⟨b, off + 1, none⟩) hb).trans a1
  have e2 : w0.cell? ⟨b, off + 2, none⟩ = some (.int .i64 y1) := (hb0.cell (p := ⟨b, off + 2, none⟩) hb).trans b0
  have e3 : w0.cell? ⟨b, off + 3, none⟩ = some (.int .i64 y2) := (hb0.cell (p := ⟨b, off + 3, none⟩) hb).trans b1
  have c0 : w0.cell? ⟨w.heap.size, 0, none⟩ = some (.int .i64 0) := n0.cell 0
  have c1 : w0.cell? ⟨w.heap.size, 1, none⟩ = some (.int .i64 0) := n0.cell 1
  have f0 := n0.frozen 0
  have f1 := n0.frozen 1
  have N0 := hide n0
  clear n0 a0 a1 b0 b1 h
  go_still_tail 19, (by kernel_rfl)
  change wpList _ _ _ _ _ w0.drew
  go_wp2
  obtain ⟨r2', rb'⟩ := span_put (a := max x1 y1) (b := max x2 y2) N0.out hb0 (Nat.le_refl _)
  have r2 := r2'.drew
  have rb := rb'.drew
  clear r2' rb'
  generalize ((w0.setCell ⟨w.heap.size, 0, none⟩ (.int .i64 (max x1 y1))).setCell ⟨w.heap.size, 1, none⟩ (.int .i64 (max x2 y2))).drew = w5 at r2 rb ⊢
  have d0 : w5.cell? ⟨w.heap.size, 0, none⟩ = some (.int .i64 (max x1 y1)) := r2.cell 0
  have d1 : w5.cell? ⟨w.heap.size, 1, none⟩ = some (.int .i64 (max x2 y2)) := r2.cell 1
  exact bodyPost_ret (v := .agg #[.int .i64 (max x1 y1), .int .i64 (max x2 y2)]) (by simp [results, Tryz.results99, go_sem, d0, d1]) rfl ⟨rfl, rb⟩

set_option maxHeartbeats 1000000 in
set_option maxRecDepth 20000 in
theorem neg_any (A : Option Addr) (n c : Nat) (x : Int × Int) (w : World) (h : RSp w w.heap.size A n [x]) (hx : inS x) :
    Calls Tryz.prog 103 #[.slice A n c] w fun e w' => e = .returned (spanV (nodeB 12 x (0, 0) (0, 0))) ∧ Below w.heap.size w w' := by
  obtain rfl : 1 = n := h.len
  obtain ⟨b, off, rfl, hb, a0, a1⟩ := h.at_ (i := 0) (by omega)
  rw [Nat.zero_mul, Nat.add_zero] at a0 a1
  obtain ⟨x1, x2⟩ := x
  obtain ⟨⟨p1, p2⟩, p3, p4⟩ := hx
  change w.cell? ⟨b, off, none⟩ = some (.int .i64 x1) at a0
  change w.cell? ⟨b, off + 1, none⟩ = some (.int .i64 x2) at a1
  dsimp only at p1 p2 p3 p4 ⊢
  have hb0 : Below w.heap.size w (w.alloc (Obj.cells #[.int .i64 0, .int .i64 0] 149)) := (Below.refl _ _).alloc (Nat.le_refl _) _
  have n0 := Blk.new w 149 #[.int .i64 0, .int .i64 0]
  go_enter Tryz.func103, Tryz.ntmps103
  go_upto_region 1 with (fail)
  generalize w.alloc (Obj.cells #[.int .i64 0, .int .i64 0] 149) = w0 at hb0 n0 ⊢
  have e0 : w0.cell? ⟨b, off, none⟩ = some (.int .i64 x1) := (hb0.cell (p := ⟨b, off, none⟩) hb).trans a0
  have e1 : w0.cell? ⟨b, off + 1, none⟩ = some (.int .i64 x2) := (hb0.cell (p := ⟨b, off + 1, none⟩) hb).trans a1
  have c0 : w0.cell? ⟨w.heap.size, 0, none⟩ = some (.int .i64 0) := n0.cell 0
  have c1 : w0.cell? ⟨w.heap.size, 1, none⟩ = some (.int .i64 0) := n0.cell 1
  have f0 := n0.frozen 0
  have f1 := n0.frozen 1
  have N0 := hide n0
  clear n0 a0 a1 h
  go_still_tail 11, (by kernel_rfl)
  change wpList _ _ _ _ _ w0.drew
  go_wp2
  obtain ⟨r2', rb'⟩ := span_put (a := -x2) (b := -x1) N0.out hb0 (Nat.le_refl _)
  have r2 := r2'.drew
  have rb := rb'.drew
  clear r2' rb'
  generalize ((w0.setCell ⟨w.heap.size, 0, none⟩ (.int .i64 (-x2))).setCell ⟨w.heap.size, 1, none⟩ (.int .i64 (-x1))).drew = w5 at r2 rb ⊢
  have d0 : w5.cell? ⟨w.heap.size, 0, none⟩ = some (.int .i64 (-x2)) := r2.cell 0
  have d1 : w5.cell? ⟨w.heap.size, 1, none⟩ = some (.int .i64 (-x1)) := r2.cell 1
  exact bodyPost_ret (v := .agg #[.int .i64 (-x2), .int .i64 (-x1)]) (by simp [results, Tryz.results103, go_sem, d0, d1]) rfl ⟨rfl, rb⟩

end Go.Proofs.YtkomgidcgepknaaGreatDoor

set_option linter.unusedVariables false
set_option linter.unusedSimpArgs false
namespace Go.Proofs.YtkomgidcgepknaaGreatDoor
open Go.RowKit Go.Deep Go.Maps

/-- No two ranges have one name. -/
def distinctR : List Rng → Bool
  | [] => true
  | r :: l => distinctR l && l.all fun x => decide (x.name ≠ r.name)
theorem valid_split : ∀ l : List Rng, validRs l = (l.all okR && distinctR l)
  | [] => rfl
  | r :: l => by
    have ih := valid_split l
    unfold validRs distinctR
    rw [ih, List.all_cons]
    cases okR r <;> cases l.all okR <;> cases distinctR l <;> simp
def hasR (l : List Rng) (t : ByteArray) : Bool := l.any fun r => decide (r.name = t)
theorem hasR_snoc (l : List Rng) (r : Rng) (t : ByteArray) : hasR (l ++ [r]) t = (hasR l t || decide (r.name = t)) := by simp [hasR]
theorem distinct_snoc (l : List Rng) (r : Rng) : distinctR (l ++ [r]) = (distinctR l && !hasR l r.name) := by
  induction l with
  | nil => rfl
  | cons x l ih =>
    show (distinctR (l ++ [r]) && (l ++ [r]).all fun y => decide (y.name ≠ x.name)) = ((distinctR l && l.all fun y => decide (y.name ≠ x.name)) && !(decide (x.name = r.name) || hasR l r.name))
    rw [ih, List.all_append, List.all_cons, List.all_nil, Bool.and_true]
    have e : decide (r.name ≠ x.name) = !decide (x.name = r.name) := by
      rw [Bool.eq_iff_iff]
      simp only [decide_eq_true_eq, Bool.not_eq_true', decide_eq_false_iff_not, ne_eq]
      exact ⟨fun h e => h e.symm, fun h e => h e.symm⟩
    rw [e]
    cases distinctR l <;> cases hasR l r.name <;> cases (l.all fun y => decide (y.name ≠ x.name)) <;> cases decide (x.name = r.name) <;> rfl
theorem look_has (l : List Rng) (t : ByteArray) : (look l t).isSome = hasR l t := by
  unfold look hasR
  rw [Option.isSome_map]
  induction l with
  | nil => rfl
  | cons x l ih =>
    rw [List.find?_cons, List.any_cons]
    cases decide (x.name = t)
    · exact ih
    · rfl
theorem look_snoc_new (l : List Rng) (r : Rng) (t : ByteArray) : look (l ++ [r]) t = match look l t with | some s => some s | none => if r.name = t then some (r.low, r.high) else none := by
  unfold look
  rw [List.find?_append]
  cases l.find? fun r => decide (r.name = t) with
  | some x => rfl
  | none =>
    simp only [Option.none_or, Option.map_none]
    by_cases h : r.name = t
    · simp [h]
    · simp [h]

/-- Block b is the map of the ranges l. -/
def RM (w : World) (b : Nat) (l : List Rng) : Prop :=
  ∃ D : DataW Value, w.ownsMap Tryz.prog 9 Rv b l.length D ∧ (∀ s kl, keyOf Tryz.prog 9 (.string s) = some kl → has D kl = hasR l s) ∧
    (Maps.size D ≤ l.length ∧ (Maps.size D = l.length ↔ distinctR l = true)) ∧
    (distinctR l = true → ∀ s kl, keyOf Tryz.prog 9 (.string s) = some kl → ∀ zd, D.atKey kl zd = match look l s with | none => zd | some x => .held (spanV x))
theorem RM.made (w : World) : RM (w.alloc (.map #[] 0)) w.heap.size [] := ⟨.map [], World.ownsMap_made _ _ _ _, fun _ _ _ => rfl, ⟨Nat.le_refl _, by simp [Maps.size, distinctR]⟩, fun _ _ _ _ _ => rfl⟩
theorem RM.kept {w w' : World} {b : Nat} {l : List Rng} (h : RM w b l) (hb : w'.heap[b]? = w.heap[b]?) : RM w' b l := by
  obtain ⟨D, ⟨es, clock, h1, h2⟩, hV⟩ := h
  exact ⟨D, ⟨es, clock, hb.trans h1, h2⟩, hV⟩
theorem RM.lt {w : World} {b : Nat} {l : List Rng} (h : RM w b l) : b < w.heap.size := by
  obtain ⟨D, hown, _⟩ := h
  exact hown.lt
theorem zeroSpan (w : World) : (zeroValue 149).run Tryz.prog w = .ok (.agg #[.int .i64 0, .int .i64 0]) w := by kernel_rfl
set_option maxRecDepth 20000 in
theorem RM.put {w : World} {b : Nat} {l : List Rng} (h : RM w b l) (hn : l.length < maxLen) (r : Rng) (hr : r.name.size ≤ maxLen) :
    ∃ w', (Instr.mapUpdate 141 (.map (some b)) (.string r.name) (spanV (r.low, r.high))).run Tryz.prog w = .ok () w' ∧ RM w' b (l ++ [r]) ∧ w.grownBy w' (some b) := by
  obtain ⟨kl, hkl⟩ := Option.isSome_iff_exists.1 (keyS hr)
  obtain ⟨D, hown, hh, ⟨hs1, hs2⟩, hV⟩ := h
  obtain ⟨w', hrun, hown', hgr⟩ := hown.update keyedS Tryz.underlying141 hn hkl (val := spanV (r.low, r.high)) (d := .held (spanV (r.low, r.high))) (ps := []) rfl
  have ht : Tidy D := World.ownsMap.tidy hown keyedS
  have hsz := Maps.size_put (k := kl) ht (.held (spanV (r.low, r.high)))
  rw [hh r.name kl hkl] at hsz
  refine ⟨w', hrun, ⟨D.put kl (.held (spanV (r.low, r.high))), by rw [List.length_append]; exact hown', fun s kj hj => ?_, ⟨?_, ?_⟩, fun hd s kj hj zd => ?_⟩, hgr⟩
  · rw [hasR_snoc]
    by_cases e : s = r.name
    · subst e
      obtain rfl : kj = kl := Option.some.inj (hj.symm.trans hkl)
      rw [has_put_same ht.isMap (keyedS.key hj), decide_eq_true rfl, Bool.or_true]
    · have hne : kj ≠ kl := fun he => e (Value.string.inj (keyedS.inj hj (he ▸ hkl)))
      rw [has_put_other hne, hh s kj hj, decide_eq_false (fun e2 => e e2.symm), Bool.or_false]
  · rw [List.length_append]
    rw [hsz]
    split <;> simp <;> omega
  · rw [distinct_snoc, List.length_append, hsz]
    cases hasR l r.name
    · rw [if_neg (by decide)]
      simp only [List.length_cons, List.length_nil, Nat.add_right_cancel_iff, Nat.zero_add, Bool.not_false, Bool.and_true]
      exact hs2
    · rw [if_pos rfl]
      simp
      omega
  · rw [distinct_snoc] at hd
    obtain ⟨hd1, hd2⟩ := Bool.and_eq_true_iff.1 hd
    rw [look_snoc_new]
    by_cases e : s = r.name
    · subst e
      obtain rfl : kj = kl := Option.some.inj (hj.symm.trans hkl)
      have hl : look l r.name = none := by
        have := look_has l r.name
        cases hl : look l r.name with
        | none => rfl
        | some x =>
          rw [hl] at this
          rw [← this] at hd2
          cases hd2
      rw [hl, if_pos rfl, atKey_put_same hown.isMap (keyedS.key hj)]
    · have hne : kj ≠ kl := fun he => e (Value.string.inj (keyedS.inj hj (he ▸ hkl)))
      rw [atKey_put_other hne, hV hd1 s kj hj zd, if_neg (fun e2 => e e2.symm)]
      cases look l s <;> rfl
set_option maxRecDepth 20000 in
theorem RM.look_ {w : World} {b : Nat} {l : List Rng} (h : RM w b l) (hd : distinctR l = true) {t : ByteArray} (ht : t.size ≤ maxLen) :
    (Instr.lookup 141 (.map (some b)) (.string t) true).run Tryz.prog w = .ok (.tuple #[spanV ((look l t).getD (0, 0)), .bool (look l t).isSome]) w := by
  obtain ⟨kl, hkl⟩ := Option.isSome_iff_exists.1 (keyS ht)
  obtain ⟨D, hown, hh, _, hV⟩ := h
  obtain ⟨v, ps, hrun, hv⟩ := hown.look_ok keyedS Tryz.underlying141 (zeroSpan w) (zd := .held (.agg #[.int .i64 0, .int .i64 0])) (zp := []) rfl hkl
  rw [hV hd t kl hkl] at hv
  rw [hh t kl hkl, ← look_has] at hrun
  rw [hrun]
  cases hl : look l t with
  | none =>
    rw [hl] at hv
    injection hv with hv
    injection hv with hv _
    injection hv with hv
    rw [hv]; rfl
  | some x =>
    rw [hl] at hv
    injection hv with hv
    injection hv with hv _
    injection hv with hv
    rw [hv]; rfl
theorem RM.len {w : World} {b : Nat} {l : List Rng} (h : RM w b l) (ty : TypeId) : ∃ n : Nat, (Builtin.len_ #[141] ty #[.map (some b)]).run Tryz.prog w = .ok (.int .i64 n) w ∧ (n = l.length ↔ distinctR l = true) := by
  obtain ⟨D, hown, _, ⟨_, hs⟩, _⟩ := h
  exact ⟨_, hown.len Tryz.underlying141 ty, hs⟩
end Go.Proofs.YtkomgidcgepknaaGreatDoor

/-
  bound.ranges.
-/
namespace Go.Proofs.YtkomgidcgepknaaGreatDoor
open Go.RowKit Go.Deep Go.Maps

/-- The cells of ranges. -/
def cellsR (rs : List Rng) : List Value := rs.flatMap fun r => [.string r.name, .int .i64 r.low, .int .i64 r.high]
theorem cellsR_len : ∀ rs : List Rng, (cellsR rs).length = rs.length * 3
  | [] => rfl
  | r :: rs => by
    have := cellsR_len rs
    unfold cellsR at this ⊢
    rw [List.flatMap_cons, List.length_append, this]
    simp
    omega
theorem cellsR_get {r : Rng} : ∀ (rs : List Rng) (i : Nat), rs[i]? = some r → (cellsR rs)[i * 3]? = some (.string r.name) ∧ (cellsR rs)[i * 3 + 1]? = some (.int .i64 r.low) ∧ (cellsR rs)[i * 3 + 2]? = some (.int .i64 r.high)
  | [], i, h => by simp at h
  | y :: rs, 0, h => by
    simp only [List.getElem?_cons_zero, Option.some.injEq] at h
    subst h
    exact ⟨rfl, rfl, rfl⟩
  | y :: rs, i + 1, h => by
    have := cellsR_get rs i (by simpa using h)
    rw [show (i + 1) * 3 = (i * 3) + 1 + 1 + 1 from by omega]
    unfold cellsR at this ⊢
    simpa only [List.flatMap_cons, List.cons_append, List.nil_append, List.getElem?_cons_succ] using this
theorem cellsR_one : ∀ (rs : List Rng), ∀ u ∈ cellsR rs, u.oneCell' = true := by
  intro rs u hu
  unfold cellsR at hu
  obtain ⟨s, _, hs⟩ := List.mem_flatMap.1 hu
  simp only [List.mem_cons, List.not_mem_nil, or_false] at hs
  rcases hs with rfl | rfl | rfl <;> rfl
theorem cellsR_append (rs ss : List Rng) : cellsR (rs ++ ss) = cellsR rs ++ cellsR ss := by simp [cellsR]
/-- '.slice A n c' reads as the ranges rs, below block B. -/
def RRg (w : World) (B : Nat) (A : Option Addr) (n : Nat) (rs : List Rng) : Prop := Reads w B 3 A n (cellsR rs)
def Rng.none_ : Rng := ⟨ByteArray.empty, 0, 0⟩
def rngAt (rs : List Rng) (i : Nat) : Rng := rs.getD i Rng.none_
theorem rngAt_get {rs : List Rng} {i : Nat} (h : i < rs.length) : rs[i]? = some (rngAt rs i) := by
  unfold rngAt
  rw [List.getD_eq_getElem?_getD, List.getElem?_eq_getElem h]
  rfl
theorem rng_take {rs : List Rng} {i : Nat} (h : i < rs.length) : rs.take (i + 1) = rs.take i ++ [rngAt rs i] := take_snoc rs i Rng.none_ h
section
variable {w w' : World} {B B' : Nat} {A : Option Addr} {n : Nat} {rs : List Rng}
theorem RRg.len (h : RRg w B A n rs) : rs.length = n := by
  have := h.1
  rw [cellsR_len] at this
  omega
theorem RRg.at_ (h : RRg w B A n rs) {i : Nat} (hi : i < n) : ∃ b off, A = some ⟨b, off, none⟩ ∧ b < B ∧
    w.cell? ⟨b, off + i * 3, none⟩ = some (.string (rngAt rs i).name) ∧ w.cell? ⟨b, off + i * 3 + 1, none⟩ = some (.int .i64 (rngAt rs i).low) ∧ w.cell? ⟨b, off + i * 3 + 2, none⟩ = some (.int .i64 (rngAt rs i).high) := by
  have hl := h.len
  have h0 := (cellsR_get rs 0 (rngAt_get (by omega))).1
  obtain ⟨b, off, hA, hb, hc⟩ := Reads.atN (A := A) (w := w) (B := B) (xs := cellsR rs) (n := n) h (by omega) h0
  obtain ⟨g0, g1, g2⟩ := cellsR_get rs i (rngAt_get (by omega))
  exact ⟨b, off, hA, hb, hc _ _ g0, by have := hc _ _ g1; rwa [← Nat.add_assoc] at this, by have := hc _ _ g2; rwa [← Nat.add_assoc] at this⟩
theorem RRg.below (h : RRg w B A n rs) (hb : Below B w w') : RRg w' B A n rs := Reads.below h hb
theorem RRg.more (h : RRg w B A n rs) (hB : B ≤ B') : RRg w B' A n rs := Reads.more h hB
theorem RRg.next (h : RRg w w.heap.size A n rs) (hb : Below w.heap.size w w') : RRg w' w'.heap.size A n rs := (h.below hb).more hb.size
end

theorem valid_false {rs : List Rng} {k : Nat} {r : Rng} (h : rs.take (k + 1) = rs.take k ++ [r]) (hr : okR r = false) : validRs rs = false := by
  have hmem : r ∈ rs := List.mem_of_mem_take (i := k + 1) (by rw [h]; simp)
  rw [valid_split]
  cases ha : rs.all okR
  · rfl
  · have := List.all_eq_true.1 ha r hmem
    rw [hr] at this
    cases this
theorem wpList_len_rm {w : World} {ops : Array Oper} {rest : List Oper} {o : Oper} {a : Act} {Q : Exit → Act → World → Prop} (hg : o.guard = none) (m : Operand) (hop : o.op = Op.call { callee := Callee.builtin Builtin.len, args := #[m], argTypes := #[141] })
    (b : Nat) (l : List Rng) (hm : a.eval m = .map (some b)) (h : RM w b l) (hK : ∀ n : Nat, (n = l.length ↔ distinctR l = true) → wpList Tryz.prog ops Q rest (a.put o.dst (.int .i64 n)) w) : wpList Tryz.prog ops Q (o :: rest) a w := by
  refine wpList_plain hg fun K' hK' => ?_
  obtain ⟨n, hrun, hn⟩ := h.len o.type
  unfold Oper.wp execOp
  simp only [hop, resolve, invoke, builtin, Sem.run_bind, Sem.run_pure, Result.andThen_ok, List.map_toArray, List.map_cons, List.map_nil, hm, hrun]
  exact hK' _ _ (hK n hn)

theorem beyond_is (n : Int) (w : World) (b : Bool) (h : beyondL n = b) : Calls Tryz.prog 104 #[.int .i64 n] w fun e w' => e = .returned (.bool b) ∧ w = w' := by
  have := beyond_any n w
  rw [h] at this
  exact this

/-- What ranges leaves: the map is told where the list is valid. -/
def RngPost (w : World) (rs : List Rng) (e : Ending) (w' : World) : Prop :=
  ∃ m, e = .returned (.tuple #[.map m, .bool (validRs rs)]) ∧ Below w.heap.size w w' ∧ (validRs rs = true → ∃ b, m = some b ∧ w.heap.size ≤ b ∧ RM w' b rs)

set_option maxHeartbeats 4000000 in
set_option maxRecDepth 20000 in
theorem ranges_any (A : Option Addr) (n c : Nat) (rs : List Rng) (w : World) (h : RRg w w.heap.size A n rs) (hn : n ≤ maxLen) (hm : ∀ r ∈ rs, r.name.size ≤ maxLen) :
    Calls Tryz.prog 93 #[.slice A n c] w (RngPost w rs) := by
  have HN := hide hn
  unfold maxLen at hn
  have hmm := @run_makeMap Tryz.prog
  have H := hide h
  have hlen := h.len
  have HLN := hide hlen
  have m0 := RM.made w
  have b0 : Below w.heap.size w (w.alloc (.map #[] 0)) := (Below.refl _ _).alloc (Nat.le_refl _) _
  clear h hlen
  go_enter Tryz.func93, Tryz.ntmps93
  go_wp2
  go_loopw [13] (fun i wr => ∃ k : Nat, k ≤ n ∧ i = .int .i64 k ∧ RM wr w.heap.size (rs.take k) ∧ (rs.take k).all okR = true ∧ Below w.heap.size w wr) (fun i _ => n - (intOf i).toNat)
  case atStart => exact ⟨0, Nat.zero_le _, rfl, m0, rfl, b0⟩
  case round =>
    clear m0 b0
    obtain ⟨k, hk, rfl, hR, hall, hbr⟩ := hrel
    have HR := hide hR
    have HA := hide hall
    have lR := hR.lt
    clear hR hall
    by_cases hlt : k < n
    · obtain ⟨b, off, rfl, hb, g0, g1, g2⟩ := H.out.at_ hlt
      have e0 : wr.cell? ⟨b, off + k * 3, none⟩ = some (.string (rngAt rs k).name) := (hbr.cell (p := ⟨b, off + k * 3, none⟩) hb).trans g0
      have e1 : wr.cell? ⟨b, off + k * 3 + 1, none⟩ = some (.int .i64 (rngAt rs k).low) := (hbr.cell (p := ⟨b, off + k * 3 + 1, none⟩) hb).trans g1
      have e2 : wr.cell? ⟨b, off + k * 3 + 2, none⟩ = some (.int .i64 (rngAt rs k).high) := (hbr.cell (p := ⟨b, off + k * 3 + 2, none⟩) hb).trans g2
      have HT := hide (rng_take (rs := rs) (i := k) (by rw [HLN.out]; exact hlt))
      have hnm : (rngAt rs k).name.size ≤ maxLen := hm _ (List.mem_of_getElem? (rngAt_get (by rw [HLN.out]; exact hlt)))
      clear g0 g1 g2
      generalize rngAt rs k = r at e0 e1 e2 HT hnm
      have hB1 : Blk (wr.alloc (Obj.cells #[.string r.name, .int .i64 r.low, .int .i64 r.high] 89)) wr.heap.size 89 #[.string r.name, .int .i64 r.low, .int .i64 r.high] := Blk.new _ _ _
      have hb1 : Below wr.heap.size wr (wr.alloc (Obj.cells #[.string r.name, .int .i64 r.low, .int .i64 r.high] 89)) := (Below.refl _ _).alloc (Nat.le_refl _) _
      go_upto_region 5 with (fail)
      generalize wr.alloc (Obj.cells #[.string r.name, .int .i64 r.low, .int .i64 r.high] 89) = w1 at hB1 hb1 ⊢
      have c0 : w1.cell? ⟨wr.heap.size, 0, none⟩ = some (.string r.name) := hB1.cell 0
      have hl1 := hB1.lt
      clear e0 e1 e2
      go_wp2_with fail
      refine (lex_any r.name w1 hnm).mono ?_
      rintro e w2 ⟨⟨v, rfl, A2, c2, rfl, hown⟩, hb2⟩
      have hB2 := hB1.below hb2 hl1
      have hbw := hb1.trans (hb2.mono hb1.size)
      have d0 : w2.cell? ⟨wr.heap.size, 0, none⟩ = some (.string r.name) := hB2.cell 0
      have d1 : w2.cell? ⟨wr.heap.size, 1, none⟩ = some (.int .i64 r.low) := hB2.cell 1
      have d2 : w2.cell? ⟨wr.heap.size, 2, none⟩ = some (.int .i64 r.high) := hB2.cell 2
      have HLX : Hid (nameB r.name = ((lexL r.name).err == 0 && (match (lexL r.name).toks with | [t] => t.kind == 1 && decide (t.text = r.name) | _ => false))) := by
        show _ = _
        rw [← lexName_eq]
        rfl
      have HB2 := hide (hbr.trans (hbw.mono hbr.size))
      have HRM := hide (HR.out.kept (hbw.block w.heap.size lR))
      clear c0 hB1 hb1 hb2 hB2 hl1 HR hbr hbw
      generalize lexL r.name = lr at hown HLX ⊢
      obtain ⟨toks, err, off'⟩ := lr
      dsimp only at hown HLX ⊢
      by_cases he : err = 0
      · subst he
        by_cases hl : toks.length = 1
        · obtain ⟨t, rfl⟩ : ∃ t, toks = [t] := List.length_eq_one_iff.1 hl
          obtain ⟨g, cap, hv, hgb, hlt2⟩ := World.ownsRow.form hown (by simp)
          injection hv with hA2 _ hc2
          subst hA2
          have hcell := (World.ownsRow.cells hown (g := g) rfl)
          have k0 : w2.cell? ⟨g, 0, none⟩ = some (.int .i64 t.kind) := hcell 0 _ rfl
          have k1 : w2.cell? ⟨g, 1, none⟩ = some (.string t.text) := hcell 1 _ rfl
          have HLY : Hid (nameB r.name = (t.kind == 1 && decide (t.text = r.name))) := HLX
          clear hcell hown hl HLX
          by_cases hkd : t.kind = 1
          · rw [hkd] at k0
            by_cases htx : t.text = r.name
            · rw [htx] at k1
              have HNB : Hid (nameB r.name = true) := by
                show _ = _
                rw [HLY.out, hkd, decide_eq_true htx]
                rfl
              clear HLY hkd htx
              cases hb1 : beyondL r.low
              · cases hb2 : beyondL r.high
                · by_cases hlh : r.low ≤ r.high
                  · have hlh' : decide (r.high < r.low) = false := decide_eq_false (by omega)
                    have HL := hide hb1
                    have HH := hide hb2
                    have HOK : Hid (okR r = true) := by
                      show okR r = true
                      unfold okR
                      rw [HNB.out, hb1, hb2, decide_eq_true hlh]
                      rfl
                    clear hb1 hb2
                    go_upto_region 6 with (fail)
                    go_quiet ((go_at_call 104; first | exact quiet_left (beyond_is _ _ _ HL.out) | exact quiet_left (beyond_is _ _ _ HH.out)))
                    have q0 : (w2.drewN nq).cell? ⟨wr.heap.size, 0, none⟩ = some (.string r.name) := d0
                    have q1 : (w2.drewN nq).cell? ⟨wr.heap.size, 1, none⟩ = some (.int .i64 r.low) := d1
                    have q2 : (w2.drewN nq).cell? ⟨wr.heap.size, 2, none⟩ = some (.int .i64 r.high) := d2
                    have HBQ : Hid (Below w.heap.size w (w2.drewN nq)) := hide (below_drewN HB2.out nq)
                    have HRQ : Hid (RM (w2.drewN nq) w.heap.size (rs.take k)) := hide (HRM.out.kept rfl)
                    clear d0 d1 d2 HB2 HRM k0 k1
                    generalize w2.drewN nq = w3 at q0 q1 q2 HBQ HRQ ⊢
                    obtain ⟨w4, hrun, hR4, hg4⟩ := HRQ.out.put (by have := HN.out; have := HLN.out; rw [List.length_take]; omega) r hnm
                    have HB4 : Hid (Below w.heap.size w w4) := hide (HBQ.out.trans ((Below.refl _ _).grown hg4 HBQ.out.size (fun g hg => by injection hg with hg; omega)))
                    have HR4 := hide hR4
                    clear hR4 hg4
                    go_wp2
                    go_roundw
                    case rel => exact ⟨k + 1, by omega, by go_num, by rw [HT.out]; exact HR4.out, by rw [HT.out, List.all_append, HA.out, List.all_cons, HOK.out]; rfl, HB4.out⟩
                    case measure => simp [intOf]; omega
                  · have hlh' : decide (r.high < r.low) = true := decide_eq_true (by omega)
                    have HL := hide hb1
                    have HH := hide hb2
                    have HV : Hid (validRs rs = false) := hide (valid_false HT.out (by unfold okR; rw [HNB.out, hb1, hb2, decide_eq_false hlh]; rfl))
                    clear hb1 hb2
                    go_upto_region 6 with (fail)
                    go_quiet ((go_at_call 104; first | exact quiet_left (beyond_is _ _ _ HL.out) | exact quiet_left (beyond_is _ _ _ HH.out)))
                    go_wp2
                    go_ret2
                    refine ⟨none, by rw [HV.out]; rfl, below_drewN HB2.out _, fun hh => ?_⟩
                    rw [HV.out] at hh
                    cases hh
                · have HL := hide hb1
                  have HH := hide hb2
                  have HV : Hid (validRs rs = false) := hide (valid_false HT.out (by unfold okR; rw [hb2]; cases nameB r.name <;> cases (!beyondL r.low) <;> rfl))
                  clear hb1 hb2
                  go_upto_region 6 with (fail)
                  go_quiet ((go_at_call 104; first | exact quiet_left (beyond_is _ _ _ HL.out) | exact quiet_left (beyond_is _ _ _ HH.out)))
                  go_wp2
                  go_ret2
                  refine ⟨none, by rw [HV.out]; rfl, below_drewN HB2.out _, fun hh => ?_⟩
                  rw [HV.out] at hh
                  cases hh
              · have HL := hide hb1
                have HV : Hid (validRs rs = false) := hide (valid_false HT.out (by unfold okR; rw [hb1]; cases nameB r.name <;> rfl))
                clear hb1
                go_upto_region 6 with (fail)
                go_quiet ((go_at_call 104; first | exact quiet_left (beyond_is _ _ _ HL.out) | exact quiet_left (beyond_is _ _ _ HH.out)))
                go_wp2
                go_ret2
                refine ⟨none, by rw [HV.out]; rfl, below_drewN HB2.out _, fun hh => ?_⟩
                rw [HV.out] at hh
                cases hh
            · have htx' := bytes_ne htx
              have HV : Hid (validRs rs = false) := hide (valid_false HT.out (by unfold okR; rw [HLY.out, decide_eq_false htx, Bool.and_false]; rfl))
              go_upto_region 6 with (fail)
              go_quiet ((go_at_call 104; first | exact quiet_left (beyond_is _ _ _ HL.out) | exact quiet_left (beyond_is _ _ _ HH.out)))
              go_wp2
              go_ret2
              refine ⟨none, by rw [HV.out]; rfl, below_drewN HB2.out _, fun hh => ?_⟩
              rw [HV.out] at hh
              cases hh
          · have hkd' : (t.kind != 1) = true := bne_iff_ne.2 hkd
            have HV : Hid (validRs rs = false) := hide (valid_false HT.out (by unfold okR; rw [HLY.out, beq_eq_false_iff_ne.2 hkd]; rfl))
            go_upto_region 6 with (fail)
            go_quiet ((go_at_call 104; first | exact quiet_left (beyond_is _ _ _ HL.out) | exact quiet_left (beyond_is _ _ _ HH.out)))
            go_wp2
            go_ret2
            refine ⟨none, by rw [HV.out]; rfl, below_drewN HB2.out _, fun hh => ?_⟩
            rw [HV.out] at hh
            cases hh
        · have hl' : (((toks.length : Nat) : Int) != 1) = true := bne_iff_ne.2 (by omega)
          have HNB : Hid (nameB r.name = false) := by
            show _ = _
            rw [HLX.out]
            rcases toks with _ | ⟨t, _ | ⟨t2, ts⟩⟩
            · rfl
            · exact absurd rfl hl
            · rfl
          clear hown HLX
          have HV : Hid (validRs rs = false) := hide (valid_false HT.out (by unfold okR; rw [HNB.out]; rfl))
          go_upto_region 6 with (fail)
          go_quiet ((go_at_call 104; first | exact quiet_left (beyond_is _ _ _ HL.out) | exact quiet_left (beyond_is _ _ _ HH.out)))
          go_wp2
          go_ret2
          refine ⟨none, by rw [HV.out]; rfl, below_drewN HB2.out _, fun hh => ?_⟩
          rw [HV.out] at hh
          cases hh
      · have he' : (err != 0) = true := bne_iff_ne.2 he
        have HNB : Hid (nameB r.name = false) := by
          show _ = _
          rw [HLX.out, beq_eq_false_iff_ne.2 he]
          rfl
        clear hown HLX
        have HV : Hid (validRs rs = false) := hide (valid_false HT.out (by unfold okR; rw [HNB.out]; rfl))
        go_upto_region 6 with (fail)
        go_quiet ((go_at_call 104; first | exact quiet_left (beyond_is _ _ _ HL.out) | exact quiet_left (beyond_is _ _ _ HH.out)))
        go_wp2
        go_ret2
        refine ⟨none, by rw [HV.out]; rfl, below_drewN HB2.out _, fun hh => ?_⟩
        rw [HV.out] at hh
        cases hh
    · obtain rfl : k = n := by omega
      have htk : rs.take k = rs := List.take_of_length_le (by rw [HLN.out]; exact Nat.le_refl _)
      have HTK := hide htk
      have hR2 : RM wr w.heap.size rs := by have := HR.out; rw [htk] at this; exact this
      have HR2 := hide hR2
      have HAA : Hid (validRs rs = distinctR rs) := by
        show _ = _
        have := HA.out
        rw [htk] at this
        rw [valid_split, this, Bool.true_and]
      clear htk hR2 HR
      go_wp2_with (refine wpList_len_rm rfl (.tmp 74) rfl w.heap.size rs rfl HR2.out ?_; intro n' hn'; have HNN := hide hn'; clear hn')
      go_ret2
      have hb : (((n' : Nat) : Int) == ((k : Nat) : Int)) = validRs rs := by
        rw [HAA.out]
        have h1 := HNN.out
        rw [HLN.out] at h1
        cases hd : distinctR rs
        · refine beq_eq_false_iff_ne.2 (fun e => ?_)
          have := h1.1 (by omega)
          rw [hd] at this
          cases this
        · exact beq_iff_eq.2 (by have := h1.2 hd; omega)
      exact ⟨some w.heap.size, by rw [← hb]; rfl, hbr, fun _ => ⟨_, rfl, Nat.le_refl _, HR2.out⟩⟩
end Go.Proofs.YtkomgidcgepknaaGreatDoor

set_option linter.unusedVariables false
set_option linter.unusedSimpArgs false
namespace Go.Proofs.YtkomgidcgepknaaGreatDoor
open Go.RowKit Go.Deep Go.Maps

set_option maxHeartbeats 1000000 in
set_option maxRecDepth 20000 in
theorem less_any (A : Option Addr) (n c : Nat) (x y : Int × Int) (w : World) (h : RSp w w.heap.size A n [x, y]) (hx : inS x) (hy : inS y) :
    Calls Tryz.prog 101 #[.slice A n c] w fun e w' => e = .returned (spanV (nodeB 10 x y (0, 0))) ∧ Below w.heap.size w w' := by
  obtain rfl : 2 = n := h.len
  obtain ⟨b, off, rfl, hb, a0, a1, b0, _, b1⟩ := h.two
  obtain ⟨x1, x2⟩ := x
  obtain ⟨y1, y2⟩ := y
  obtain ⟨⟨p1, p2⟩, p3, p4⟩ := hx
  obtain ⟨⟨q1, q2⟩, q3, q4⟩ := hy
  dsimp only at a0 a1 b0 b1 p1 p2 p3 p4 q1 q2 q3 q4 ⊢
  have hb0 : Below w.heap.size w (w.alloc (Obj.cells #[.int .i64 0, .int .i64 0] 149)) := (Below.refl _ _).alloc (Nat.le_refl _) _
  have n0 := Blk.new w 149 #[.int .i64 0, .int .i64 0]
  obtain ⟨res, hres⟩ : ∃ res, nodeB 10 (x1, x2) (y1, y2) (0, 0) = res := ⟨_, rfl⟩
  rw [hres]
  have HR : Hid (flagsL (decide (x1 < y2)) (decide (y1 ≤ x2)) = res) := hres
  clear hres
  go_enter Tryz.func101, Tryz.ntmps101
  go_upto_region 1 with (fail)
  generalize w.alloc (Obj.cells #[.int .i64 0, .int .i64 0] 149) = w0 at hb0 n0 ⊢
  have e0 : w0.cell? ⟨b, off, none⟩ = some (.int .i64 x1) := (hb0.cell (p := ⟨b, off, none⟩) hb).trans a0
  have e1 : w0.cell? ⟨b, off + 1, none⟩ = some (.int .i64 x2) := (hb0.cell (p := ⟨b, off + 1, none⟩) hb).trans a1
  have e2 : w0.cell? ⟨b, off + 2, none⟩ = some (.int .i64 y1) := (hb0.cell (p := ⟨b, off + 2, none⟩) hb).trans b0
  have e3 : w0.cell? ⟨b, off + 3, none⟩ = some (.int .i64 y2) := (hb0.cell (p := ⟨b, off + 3, none⟩) hb).trans b1
  have c0 : w0.cell? ⟨w.heap.size, 0, none⟩ = some (.int .i64 0) := n0.cell 0
  have c1 : w0.cell? ⟨w.heap.size, 1, none⟩ = some (.int .i64 0) := n0.cell 1
  have f0 := n0.frozen 0
  have f1 := n0.frozen 1
  have N0 := hide n0
  have hg0 := n0.lt
  clear n0 a0 a1 b0 b1 h
  go_still_tail 18, (by kernel_rfl)
  change wpList _ _ _ _ _ w0.drew
  go_wp2_with fail
  refine (flags_any _ _ _).mono ?_
  rintro e w2 ⟨rfl, hb2⟩
  rw [HR.out]
  have n2 := N0.out.drew.below hb2 hg0
  have HB3 : Below w.heap.size w w2 := (hb0.drew).trans (hb2.mono hb0.size)
  clear c0 c1 f0 f1 hb2
  have hb3 : Below w.heap.size w w2 := HB3
  have c0' : w2.cell? ⟨w.heap.size, 0, none⟩ = some (.int .i64 0) := n2.cell 0
  have c1' : w2.cell? ⟨w.heap.size, 1, none⟩ = some (.int .i64 0) := n2.cell 1
  have f0' := n2.frozen 0
  have f1' := n2.frozen 1
  have N2 := hide n2
  clear n2
  go_wp2
  obtain ⟨r2, rb⟩ := span_put (a := res.1) (b := res.2) N2.out hb3 (Nat.le_refl _)
  generalize (w2.setCell ⟨w.heap.size, 0, none⟩ (.int .i64 res.1)).setCell ⟨w.heap.size, 1, none⟩ (.int .i64 res.2) = w5 at r2 rb ⊢
  have d0 : w5.cell? ⟨w.heap.size, 0, none⟩ = some (.int .i64 res.1) := r2.cell 0
  have d1 : w5.cell? ⟨w.heap.size, 1, none⟩ = some (.int .i64 res.2) := r2.cell 1
  exact bodyPost_ret (v := spanV res) (by simp [results, Tryz.results101, go_sem, d0, d1]) rfl ⟨rfl, rb⟩

theorem bne_dec (a b : Int) : (a != b) = decide (a ≠ b) := by
  by_cases h : a = b
  · rw [decide_eq_false (by simpa using h)]; simp [h]
  · rw [decide_eq_true h]; simp [h]
set_option maxHeartbeats 2000000 in
set_option maxRecDepth 20000 in
theorem equal_any (A : Option Addr) (n c : Nat) (x y : Int × Int) (w : World) (h : RSp w w.heap.size A n [x, y]) (hx : inS x) (hy : inS y) :
    Calls Tryz.prog 102 #[.slice A n c] w fun e w' => e = .returned (spanV (nodeB 11 x y (0, 0))) ∧ Below w.heap.size w w' := by
  obtain rfl : 2 = n := h.len
  obtain ⟨b, off, rfl, hb, a0, a1, b0, _, b1⟩ := h.two
  obtain ⟨x1, x2⟩ := x
  obtain ⟨y1, y2⟩ := y
  obtain ⟨⟨p1, p2⟩, p3, p4⟩ := hx
  obtain ⟨⟨q1, q2⟩, q3, q4⟩ := hy
  dsimp only at a0 a1 b0 b1 p1 p2 p3 p4 q1 q2 q3 q4 ⊢
  obtain ⟨res, hres⟩ : ∃ res, nodeB 11 (x1, x2) (y1, y2) (0, 0) = res := ⟨_, rfl⟩
  rw [hres]
  have HR := hide hres
  clear hres
  have hb0 : Below w.heap.size w (w.alloc (Obj.cells #[.int .i64 0, .int .i64 0] 149)) := (Below.refl _ _).alloc (Nat.le_refl _) _
  have n0 := Blk.new w 149 #[.int .i64 0, .int .i64 0]
  go_enter Tryz.func102, Tryz.ntmps102
  go_upto_region 1 with (fail)
  have hz0 : (w.alloc (Obj.cells #[.int .i64 0, .int .i64 0] 149)).heap.size = w.heap.size + 1 := by simp
  generalize w.alloc (Obj.cells #[.int .i64 0, .int .i64 0] 149) = w0 at hb0 n0 hz0 ⊢
  have e0 : w0.cell? ⟨b, off, none⟩ = some (.int .i64 x1) := (hb0.cell (p := ⟨b, off, none⟩) hb).trans a0
  have e1 : w0.cell? ⟨b, off + 1, none⟩ = some (.int .i64 x2) := (hb0.cell (p := ⟨b, off + 1, none⟩) hb).trans a1
  have e2 : w0.cell? ⟨b, off + 2, none⟩ = some (.int .i64 y1) := (hb0.cell (p := ⟨b, off + 2, none⟩) hb).trans b0
  have e3 : w0.cell? ⟨b, off + 3, none⟩ = some (.int .i64 y2) := (hb0.cell (p := ⟨b, off + 3, none⟩) hb).trans b1
  have HZ := hide hz0
  have hbl : b < w0.heap.size := by omega
  clear a0 a1 b0 b1 h hz0
  have hA : ∀ (o : Obj) (bb off : Nat), bb < w0.heap.size → (w0.alloc o).cell? ⟨bb, off, none⟩ = w0.cell? ⟨bb, off, none⟩ := fun o bb off h => World.cell?_alloc_lt w0 o ⟨bb, off, none⟩ h
  have hB : ∀ (o o' : Obj) (bb off : Nat), bb < w0.heap.size → ((w0.alloc o).alloc o').cell? ⟨bb, off, none⟩ = w0.cell? ⟨bb, off, none⟩ := fun o o' bb off h => (World.cell?_alloc_lt (w0.alloc o) o' ⟨bb, off, none⟩ (by simp; omega)).trans (hA o bb off h)
  go_region
  · have kx : Blk ((w0.alloc (Obj.cells #[.int .i64 x1, .int .i64 x2] 149)).alloc (Obj.cells #[.int .i64 y1, .int .i64 y2] 149)).drew w0.heap.size 149 #[.int .i64 x1, .int .i64 x2] := (Blk.new _ _ _).alloc _
    have ky : Blk ((w0.alloc (Obj.cells #[.int .i64 x1, .int .i64 x2] 149)).alloc (Obj.cells #[.int .i64 y1, .int .i64 y2] 149)).drew (w0.heap.size + 1) 149 #[.int .i64 y1, .int .i64 y2] := by
      have := Blk.new (w0.alloc (Obj.cells #[.int .i64 x1, .int .i64 x2] 149)) 149 #[.int .i64 y1, .int .i64 y2]
      rw [show (w0.alloc (Obj.cells #[.int .i64 x1, .int .i64 x2] 149)).heap.size = w0.heap.size + 1 from by simp] at this
      exact this
    have kn : Blk ((w0.alloc (Obj.cells #[.int .i64 x1, .int .i64 x2] 149)).alloc (Obj.cells #[.int .i64 y1, .int .i64 y2] 149)).drew w.heap.size 149 #[.int .i64 0, .int .i64 0] := (n0.alloc _).alloc _
    have kb : Below w.heap.size w ((w0.alloc (Obj.cells #[.int .i64 x1, .int .i64 x2] 149)).alloc (Obj.cells #[.int .i64 y1, .int .i64 y2] 149)).drew := ((hb0.alloc hb0.size _).alloc (by have := hb0.size; simp; omega) _).drew
    generalize ((w0.alloc (Obj.cells #[.int .i64 x1, .int .i64 x2] 149)).alloc (Obj.cells #[.int .i64 y1, .int .i64 y2] 149)).drew = w1 at kx ky kn kb ⊢
    generalize w0.heap.size + 1 = gy at ky ⊢
    generalize w0.heap.size = gx at kx ⊢
    clear hA hB e0 e1 e2 e3 HZ hbl hb0 n0
    have c0 : w1.cell? ⟨gx, 0, none⟩ = some (.int .i64 x1) := kx.cell 0
    have c1 : w1.cell? ⟨gx, 1, none⟩ = some (.int .i64 x2) := kx.cell 1
    have c2 : w1.cell? ⟨gy, 0, none⟩ = some (.int .i64 y1) := ky.cell 0
    have c3 : w1.cell? ⟨gy, 1, none⟩ = some (.int .i64 y2) := ky.cell 1
    have hg1 := kn.lt
    have hgx := kx.lt
    have hgy := ky.lt
    have KN := hide kn
    clear kn kx ky
    have HR2 : Hid (flagsL (decide (max x1 y1 ≤ min x2 y2)) (x1 != x2 || y1 != y2 || x1 != y1) = res) := by
      show _ = _
      rw [← HR.out, bne_dec, bne_dec, bne_dec]
      rfl
    clear HR
    cases t1 : (x1 != x2)
    all_goals cases t2 : (y1 != y2)
    all_goals cases t3 : (x1 != y1)
    all_goals
      rw [t1, t2, t3] at HR2
      go_wp2_with fail
      refine (flags_any _ _ _).mono ?_
      rintro e w2 ⟨rfl, hb2⟩
      first | rw [show flagsL (decide (max x1 y1 ≤ min x2 y2)) true = res from HR2.out] | rw [show flagsL (decide (max x1 y1 ≤ min x2 y2)) false = res from HR2.out]
      have HB3 : Below w.heap.size w w2 := kb.trans (hb2.mono kb.size)
      have n2 := KN.out.below hb2 hg1
      have c0' : w2.cell? ⟨w.heap.size, 0, none⟩ = some (.int .i64 0) := n2.cell 0
      have c1' : w2.cell? ⟨w.heap.size, 1, none⟩ = some (.int .i64 0) := n2.cell 1
      have f0' := n2.frozen 0
      have f1' := n2.frozen 1
      have N2 := hide n2
      clear n2 hb2
      go_wp2
      obtain ⟨r2, rb⟩ := span_put (a := res.1) (b := res.2) N2.out HB3 (Nat.le_refl _)
      generalize (w2.setCell ⟨w.heap.size, 0, none⟩ (.int .i64 res.1)).setCell ⟨w.heap.size, 1, none⟩ (.int .i64 res.2) = w5 at r2 rb ⊢
      have d0 : w5.cell? ⟨w.heap.size, 0, none⟩ = some (.int .i64 res.1) := r2.cell 0
      have d1 : w5.cell? ⟨w.heap.size, 1, none⟩ = some (.int .i64 res.2) := r2.cell 1
      exact bodyPost_ret (v := spanV res) (by simp [results, Tryz.results102, go_sem, d0, d1]) rfl ⟨rfl, rb⟩
  · have ky : Blk ((w0.alloc (Obj.cells #[.int .i64 y1, .int .i64 y2] 149)).alloc (Obj.cells #[.int .i64 x1, .int .i64 x2] 149)).drew w0.heap.size 149 #[.int .i64 y1, .int .i64 y2] := (Blk.new _ _ _).alloc _
    have kx : Blk ((w0.alloc (Obj.cells #[.int .i64 y1, .int .i64 y2] 149)).alloc (Obj.cells #[.int .i64 x1, .int .i64 x2] 149)).drew (w0.heap.size + 1) 149 #[.int .i64 x1, .int .i64 x2] := by
      have := Blk.new (w0.alloc (Obj.cells #[.int .i64 y1, .int .i64 y2] 149)) 149 #[.int .i64 x1, .int .i64 x2]
      rw [show (w0.alloc (Obj.cells #[.int .i64 y1, .int .i64 y2] 149)).heap.size = w0.heap.size + 1 from by simp] at this
      exact this
    have kn : Blk ((w0.alloc (Obj.cells #[.int .i64 y1, .int .i64 y2] 149)).alloc (Obj.cells #[.int .i64 x1, .int .i64 x2] 149)).drew w.heap.size 149 #[.int .i64 0, .int .i64 0] := (n0.alloc _).alloc _
    have kb : Below w.heap.size w ((w0.alloc (Obj.cells #[.int .i64 y1, .int .i64 y2] 149)).alloc (Obj.cells #[.int .i64 x1, .int .i64 x2] 149)).drew := ((hb0.alloc hb0.size _).alloc (by have := hb0.size; simp; omega) _).drew
    generalize ((w0.alloc (Obj.cells #[.int .i64 y1, .int .i64 y2] 149)).alloc (Obj.cells #[.int .i64 x1, .int .i64 x2] 149)).drew = w1 at kx ky kn kb ⊢
    generalize w0.heap.size + 1 = gx at kx ⊢
    generalize w0.heap.size = gy at ky ⊢
    clear hA hB e0 e1 e2 e3 HZ hbl hb0 n0
    have c0 : w1.cell? ⟨gx, 0, none⟩ = some (.int .i64 x1) := kx.cell 0
    have c1 : w1.cell? ⟨gx, 1, none⟩ = some (.int .i64 x2) := kx.cell 1
    have c2 : w1.cell? ⟨gy, 0, none⟩ = some (.int .i64 y1) := ky.cell 0
    have c3 : w1.cell? ⟨gy, 1, none⟩ = some (.int .i64 y2) := ky.cell 1
    have hg1 := kn.lt
    have hgx := kx.lt
    have hgy := ky.lt
    have KN := hide kn
    clear kn kx ky
    have HR2 : Hid (flagsL (decide (max x1 y1 ≤ min x2 y2)) (x1 != x2 || y1 != y2 || x1 != y1) = res) := by
      show _ = _
      rw [← HR.out, bne_dec, bne_dec, bne_dec]
      rfl
    clear HR
    cases t1 : (x1 != x2)
    all_goals cases t2 : (y1 != y2)
    all_goals cases t3 : (x1 != y1)
    all_goals
      rw [t1, t2, t3] at HR2
      go_wp2_with fail
      refine (flags_any _ _ _).mono ?_
      rintro e w2 ⟨rfl, hb2⟩
      first | rw [show flagsL (decide (max x1 y1 ≤ min x2 y2)) true = res from HR2.out] | rw [show flagsL (decide (max x1 y1 ≤ min x2 y2)) false = res from HR2.out]
      have HB3 : Below w.heap.size w w2 := kb.trans (hb2.mono kb.size)
      have n2 := KN.out.below hb2 hg1
      have c0' : w2.cell? ⟨w.heap.size, 0, none⟩ = some (.int .i64 0) := n2.cell 0
      have c1' : w2.cell? ⟨w.heap.size, 1, none⟩ = some (.int .i64 0) := n2.cell 1
      have f0' := n2.frozen 0
      have f1' := n2.frozen 1
      have N2 := hide n2
      clear n2 hb2
      go_wp2
      obtain ⟨r2, rb⟩ := span_put (a := res.1) (b := res.2) N2.out HB3 (Nat.le_refl _)
      generalize (w2.setCell ⟨w.heap.size, 0, none⟩ (.int .i64 res.1)).setCell ⟨w.heap.size, 1, none⟩ (.int .i64 res.2) = w5 at r2 rb ⊢
      have d0 : w5.cell? ⟨w.heap.size, 0, none⟩ = some (.int .i64 res.1) := r2.cell 0
      have d1 : w5.cell? ⟨w.heap.size, 1, none⟩ = some (.int .i64 res.2) := r2.cell 1
      exact bodyPost_ret (v := spanV res) (by simp [results, Tryz.results102, go_sem, d0, d1]) rfl ⟨rfl, rb⟩

end Go.Proofs.YtkomgidcgepknaaGreatDoor

/-
  bound's operators on the bounds of operands: mul.
-/
namespace Go.Proofs.YtkomgidcgepknaaGreatDoor
open Go.RowKit Go.Deep Go.Maps

set_option maxHeartbeats 2000000 in
set_option maxRecDepth 20000 in
theorem mul_any (A : Option Addr) (n c : Nat) (x y : Int × Int) (w : World) (h : RSp w w.heap.size A n [x, y]) (hx : inS x) (hy : inS y) :
    Calls Tryz.prog 96 #[.slice A n c] w fun e w' => e = .returned (spanV (nodeB 5 x y (0, 0))) ∧ Below w.heap.size w w' := by
  obtain rfl : 2 = n := h.len
  obtain ⟨b, off, rfl, hb, a0, a1, b0, _, b1⟩ := h.two
  obtain ⟨x1, x2⟩ := x
  obtain ⟨y1, y2⟩ := y
  obtain ⟨⟨p1, p2⟩, p3, p4⟩ := hx
  obtain ⟨⟨q1, q2⟩, q3, q4⟩ := hy
  dsimp only at a0 a1 b0 b1 p1 p2 p3 p4 q1 q2 q3 q4 ⊢
  obtain ⟨res, hres⟩ : ∃ res, nodeB 5 (x1, x2) (y1, y2) (0, 0) = res := ⟨_, rfl⟩
  rw [hres]
  have HR := hide hres
  clear hres
  have hb0 : Below w.heap.size w (w.alloc (Obj.cells #[.int .i64 0, .int .i64 0] 149)) := (Below.refl _ _).alloc (Nat.le_refl _) _
  have n0 := Blk.new w 149 #[.int .i64 0, .int .i64 0]
  go_enter Tryz.func96, Tryz.ntmps96
  go_upto_region 1 with (fail)
  have hz0 : (w.alloc (Obj.cells #[.int .i64 0, .int .i64 0] 149)).heap.size = w.heap.size + 1 := by simp
  generalize w.alloc (Obj.cells #[.int .i64 0, .int .i64 0] 149) = w0 at hb0 n0 hz0 ⊢
  have e0 : w0.cell? ⟨b, off, none⟩ = some (.int .i64 x1) := (hb0.cell (p := ⟨b, off, none⟩) hb).trans a0
  have e1 : w0.cell? ⟨b, off + 1, none⟩ = some (.int .i64 x2) := (hb0.cell (p := ⟨b, off + 1, none⟩) hb).trans a1
  have e2 : w0.cell? ⟨b, off + 2, none⟩ = some (.int .i64 y1) := (hb0.cell (p := ⟨b, off + 2, none⟩) hb).trans b0
  have e3 : w0.cell? ⟨b, off + 3, none⟩ = some (.int .i64 y2) := (hb0.cell (p := ⟨b, off + 3, none⟩) hb).trans b1
  have HZ := hide hz0
  have hbl : b < w0.heap.size := by omega
  clear a0 a1 b0 b1 h hz0
  have hA : ∀ (o : Obj) (bb off : Nat), bb < w0.heap.size → (w0.alloc o).cell? ⟨bb, off, none⟩ = w0.cell? ⟨bb, off, none⟩ := fun o bb off h => World.cell?_alloc_lt w0 o ⟨bb, off, none⟩ h
  have hB : ∀ (o o' : Obj) (bb off : Nat), bb < w0.heap.size → ((w0.alloc o).alloc o').cell? ⟨bb, off, none⟩ = w0.cell? ⟨bb, off, none⟩ := fun o o' bb off h => (World.cell?_alloc_lt (w0.alloc o) o' ⟨bb, off, none⟩ (by simp; omega)).trans (hA o bb off h)
  go_region
  · have kx : Blk ((w0.alloc (Obj.cells #[.int .i64 x1, .int .i64 x2] 149)).alloc (Obj.cells #[.int .i64 y1, .int .i64 y2] 149)).drew w0.heap.size 149 #[.int .i64 x1, .int .i64 x2] := (Blk.new _ _ _).alloc _
    have ky : Blk ((w0.alloc (Obj.cells #[.int .i64 x1, .int .i64 x2] 149)).alloc (Obj.cells #[.int .i64 y1, .int .i64 y2] 149)).drew (w0.heap.size + 1) 149 #[.int .i64 y1, .int .i64 y2] := by
      have := Blk.new (w0.alloc (Obj.cells #[.int .i64 x1, .int .i64 x2] 149)) 149 #[.int .i64 y1, .int .i64 y2]
      rw [show (w0.alloc (Obj.cells #[.int .i64 x1, .int .i64 x2] 149)).heap.size = w0.heap.size + 1 from by simp] at this
      exact this
    have kn : Blk ((w0.alloc (Obj.cells #[.int .i64 x1, .int .i64 x2] 149)).alloc (Obj.cells #[.int .i64 y1, .int .i64 y2] 149)).drew w.heap.size 149 #[.int .i64 0, .int .i64 0] := (n0.alloc _).alloc _
    have kb : Below w.heap.size w ((w0.alloc (Obj.cells #[.int .i64 x1, .int .i64 x2] 149)).alloc (Obj.cells #[.int .i64 y1, .int .i64 y2] 149)).drew := ((hb0.alloc hb0.size _).alloc (by have := hb0.size; simp; omega) _).drew
    generalize ((w0.alloc (Obj.cells #[.int .i64 x1, .int .i64 x2] 149)).alloc (Obj.cells #[.int .i64 y1, .int .i64 y2] 149)).drew = w1 at kx ky kn kb ⊢
    generalize w0.heap.size + 1 = gy at ky ⊢
    generalize w0.heap.size = gx at kx ⊢
    clear hA hB e0 e1 e2 e3 HZ hbl hb0 n0
    have c0 : w1.cell? ⟨gx, 0, none⟩ = some (.int .i64 x1) := kx.cell 0
    have c1 : w1.cell? ⟨gx, 1, none⟩ = some (.int .i64 x2) := kx.cell 1
    have c2 : w1.cell? ⟨gy, 0, none⟩ = some (.int .i64 y1) := ky.cell 0
    have c3 : w1.cell? ⟨gy, 1, none⟩ = some (.int .i64 y2) := ky.cell 1
    have hg1 := kn.lt
    have hgx := kx.lt
    have hgy := ky.lt
    have KN := hide kn
    clear kn kx ky
    have HR2 : Hid (hullL [timesL x1 y1, timesL x1 y2, timesL x2 y1, timesL x2 y2] = res) := HR
    clear HR
    go_upto_region 2 with (fail)
    go_still_tail 20, (by kernel_rfl)
    still_call ((times_any x1 y1 _ ⟨p1, p2⟩ ⟨q1, q2⟩).mono fun _ _ ⟨h1, h2⟩ => ⟨h1, h2.symm⟩)
    repeat still_step
    still_call ((times_any x1 y2 _ ⟨p1, p2⟩ ⟨q3, q4⟩).mono fun _ _ ⟨h1, h2⟩ => ⟨h1, h2.symm⟩)
    repeat still_step
    still_call ((times_any x2 y1 _ ⟨p3, p4⟩ ⟨q1, q2⟩).mono fun _ _ ⟨h1, h2⟩ => ⟨h1, h2.symm⟩)
    repeat still_step
    still_call ((times_any x2 y2 _ ⟨p3, p4⟩ ⟨q3, q4⟩).mono fun _ _ ⟨h1, h2⟩ => ⟨h1, h2.symm⟩)
    repeat still_step
    try refine wpStill_nil ?_
    change wpList _ _ _ _ _ w1.drew
    have kb1 : Below w.heap.size w w1.drew := kb.drew
    have KN1 : Hid (Blk w1.drew w.heap.size 149 #[.int .i64 0, .int .i64 0]) := KN
    have hg2 : w.heap.size < w1.drew.heap.size := hg1
    clear c0 c1 c2 c3 hgx hgy KN kb hg1
    generalize w1.drew = w3 at kb1 KN1 hg2 ⊢
    generalize timesL x1 y1 = m1 at HR2 ⊢
    generalize timesL x1 y2 = m2 at HR2 ⊢
    generalize timesL x2 y1 = m3 at HR2 ⊢
    generalize timesL x2 y2 = m4 at HR2 ⊢
    go_wp2_with fail
    have hri : RI (w3.alloc (Obj.cells #[.int .i64 m1, .int .i64 m2, .int .i64 m3, .int .i64 m4] 3)) (w3.alloc (Obj.cells #[.int .i64 m1, .int .i64 m2, .int .i64 m3, .int .i64 m4] 3)).heap.size (some ⟨w3.heap.size, 0, none⟩) 4 [m1, m2, m3, m4] := RI.lit w3 [m1, m2, m3, m4] 4 3 rfl
    have kb : Below w.heap.size w (w3.alloc (Obj.cells #[.int .i64 m1, .int .i64 m2, .int .i64 m3, .int .i64 m4] 3)) := kb1.alloc kb1.size _
    have KN : Hid (Blk (w3.alloc (Obj.cells #[.int .i64 m1, .int .i64 m2, .int .i64 m3, .int .i64 m4] 3)) w.heap.size 149 #[.int .i64 0, .int .i64 0]) := hide (KN1.out.alloc _)
    have hg1 : w.heap.size < (w3.alloc (Obj.cells #[.int .i64 m1, .int .i64 m2, .int .i64 m3, .int .i64 m4] 3)).heap.size := by simp; omega
    generalize w3.alloc (Obj.cells #[.int .i64 m1, .int .i64 m2, .int .i64 m3, .int .i64 m4] 3) = w1 at hri kb KN hg1 ⊢
    refine (hull_any _ 4 4 [m1, m2, m3, m4] w1 hri (by omega) (by unfold maxLen; omega)).mono ?_
    rintro e w2 ⟨rfl, hb2⟩
    rw [HR2.out]
    clear hri kb1 KN1 hg2
    have HB3 : Below w.heap.size w w2 := kb.trans (hb2.mono kb.size)
    have n2 := KN.out.below hb2 hg1
    have c0' : w2.cell? ⟨w.heap.size, 0, none⟩ = some (.int .i64 0) := n2.cell 0
    have c1' : w2.cell? ⟨w.heap.size, 1, none⟩ = some (.int .i64 0) := n2.cell 1
    have f0' := n2.frozen 0
    have f1' := n2.frozen 1
    have N2 := hide n2
    clear n2 hb2
    go_wp2
    obtain ⟨r2, rb⟩ := span_put (a := res.1) (b := res.2) N2.out HB3 (Nat.le_refl _)
    generalize (w2.setCell ⟨w.heap.size, 0, none⟩ (.int .i64 res.1)).setCell ⟨w.heap.size, 1, none⟩ (.int .i64 res.2) = w5 at r2 rb ⊢
    have d0 : w5.cell? ⟨w.heap.size, 0, none⟩ = some (.int .i64 res.1) := r2.cell 0
    have d1 : w5.cell? ⟨w.heap.size, 1, none⟩ = some (.int .i64 res.2) := r2.cell 1
    exact bodyPost_ret (v := spanV res) (by simp [results, Tryz.results96, go_sem, d0, d1]) rfl ⟨rfl, rb⟩
  · have ky : Blk ((w0.alloc (Obj.cells #[.int .i64 y1, .int .i64 y2] 149)).alloc (Obj.cells #[.int .i64 x1, .int .i64 x2] 149)).drew w0.heap.size 149 #[.int .i64 y1, .int .i64 y2] := (Blk.new _ _ _).alloc _
    have kx : Blk ((w0.alloc (Obj.cells #[.int .i64 y1, .int .i64 y2] 149)).alloc (Obj.cells #[.int .i64 x1, .int .i64 x2] 149)).drew (w0.heap.size + 1) 149 #[.int .i64 x1, .int .i64 x2] := by
      have := Blk.new (w0.alloc (Obj.cells #[.int .i64 y1, .int .i64 y2] 149)) 149 #[.int .i64 x1, .int .i64 x2]
      rw [show (w0.alloc (Obj.cells #[.int .i64 y1, .int .i64 y2] 149)).heap.size = w0.heap.size + 1 from by simp] at this
      exact this
    have kn : Blk ((w0.alloc (Obj.cells #[.int .i64 y1, .int .i64 y2] 149)).alloc (Obj.cells #[.int .i64 x1, .int .i64 x2] 149)).drew w.heap.size 149 #[.int .i64 0, .int .i64 0] := (n0.alloc _).alloc _
    have kb : Below w.heap.size w ((w0.alloc (Obj.cells #[.int .i64 y1, .int .i64 y2] 149)).alloc (Obj.cells #[.int .i64 x1, .int .i64 x2] 149)).drew := ((hb0.alloc hb0.size _).alloc (by have := hb0.size; simp; omega) _).drew
    generalize ((w0.alloc (Obj.cells #[.int .i64 y1, .int .i64 y2] 149)).alloc (Obj.cells #[.int .i64 x1, .int .i64 x2] 149)).drew = w1 at kx ky kn kb ⊢
    generalize w0.heap.size + 1 = gx at kx ⊢
    generalize w0.heap.size = gy at ky ⊢
    clear hA hB e0 e1 e2 e3 HZ hbl hb0 n0
    have c0 : w1.cell? ⟨gx, 0, none⟩ = some (.int .i64 x1) := kx.cell 0
    have c1 : w1.cell? ⟨gx, 1, none⟩ = some (.int .i64 x2) := kx.cell 1
    have c2 : w1.cell? ⟨gy, 0, none⟩ = some (.int .i64 y1) := ky.cell 0
    have c3 : w1.cell? ⟨gy, 1, none⟩ = some (.int .i64 y2) := ky.cell 1
    have hg1 := kn.lt
    have hgx := kx.lt
    have hgy := ky.lt
    have KN := hide kn
    clear kn kx ky
    have HR2 : Hid (hullL [timesL x1 y1, timesL x1 y2, timesL x2 y1, timesL x2 y2] = res) := HR
    clear HR
    go_upto_region 2 with (fail)
    go_still_tail 20, (by kernel_rfl)
    still_call ((times_any x1 y1 _ ⟨p1, p2⟩ ⟨q1, q2⟩).mono fun _ _ ⟨h1, h2⟩ => ⟨h1, h2.symm⟩)
    repeat still_step
    still_call ((times_any x1 y2 _ ⟨p1, p2⟩ ⟨q3, q4⟩).mono fun _ _ ⟨h1, h2⟩ => ⟨h1, h2.symm⟩)
    repeat still_step
    still_call ((times_any x2 y1 _ ⟨p3, p4⟩ ⟨q1, q2⟩).mono fun _ _ ⟨h1, h2⟩ => ⟨h1, h2.symm⟩)
    repeat still_step
    still_call ((times_any x2 y2 _ ⟨p3, p4⟩ ⟨q3, q4⟩).mono fun _ _ ⟨h1, h2⟩ => ⟨h1, h2.symm⟩)
    repeat still_step
    try refine wpStill_nil ?_
    change wpList _ _ _ _ _ w1.drew
    have kb1 : Below w.heap.size w w1.drew := kb.drew
    have KN1 : Hid (Blk w1.drew w.heap.size 149 #[.int .i64 0, .int .i64 0]) := KN
    have hg2 : w.heap.size < w1.drew.heap.size := hg1
    clear c0 c1 c2 c3 hgx hgy KN kb hg1
    generalize w1.drew = w3 at kb1 KN1 hg2 ⊢
    generalize timesL x1 y1 = m1 at HR2 ⊢
    generalize timesL x1 y2 = m2 at HR2 ⊢
    generalize timesL x2 y1 = m3 at HR2 ⊢
    generalize timesL x2 y2 = m4 at HR2 ⊢
    go_wp2_with fail
    have hri : RI (w3.alloc (Obj.cells #[.int .i64 m1, .int .i64 m2, .int .i64 m3, .int .i64 m4] 3)) (w3.alloc (Obj.cells #[.int .i64 m1, .int .i64 m2, .int .i64 m3, .int .i64 m4] 3)).heap.size (some ⟨w3.heap.size, 0, none⟩) 4 [m1, m2, m3, m4] := RI.lit w3 [m1, m2, m3, m4] 4 3 rfl
    have kb : Below w.heap.size w (w3.alloc (Obj.cells #[.int .i64 m1, .int .i64 m2, .int .i64 m3, .int .i64 m4] 3)) := kb1.alloc kb1.size _
    have KN : Hid (Blk (w3.alloc (Obj.cells #[.int .i64 m1, .int .i64 m2, .int .i64 m3, .int .i64 m4] 3)) w.heap.size 149 #[.int .i64 0, .int .i64 0]) := hide (KN1.out.alloc _)
    have hg1 : w.heap.size < (w3.alloc (Obj.cells #[.int .i64 m1, .int .i64 m2, .int .i64 m3, .int .i64 m4] 3)).heap.size := by simp; omega
    generalize w3.alloc (Obj.cells #[.int .i64 m1, .int .i64 m2, .int .i64 m3, .int .i64 m4] 3) = w1 at hri kb KN hg1 ⊢
    refine (hull_any _ 4 4 [m1, m2, m3, m4] w1 hri (by omega) (by unfold maxLen; omega)).mono ?_
    rintro e w2 ⟨rfl, hb2⟩
    rw [HR2.out]
    clear hri kb1 KN1 hg2
    have HB3 : Below w.heap.size w w2 := kb.trans (hb2.mono kb.size)
    have n2 := KN.out.below hb2 hg1
    have c0' : w2.cell? ⟨w.heap.size, 0, none⟩ = some (.int .i64 0) := n2.cell 0
    have c1' : w2.cell? ⟨w.heap.size, 1, none⟩ = some (.int .i64 0) := n2.cell 1
    have f0' := n2.frozen 0
    have f1' := n2.frozen 1
    have N2 := hide n2
    clear n2 hb2
    go_wp2
    obtain ⟨r2, rb⟩ := span_put (a := res.1) (b := res.2) N2.out HB3 (Nat.le_refl _)
    generalize (w2.setCell ⟨w.heap.size, 0, none⟩ (.int .i64 res.1)).setCell ⟨w.heap.size, 1, none⟩ (.int .i64 res.2) = w5 at r2 rb ⊢
    have d0 : w5.cell? ⟨w.heap.size, 0, none⟩ = some (.int .i64 res.1) := r2.cell 0
    have d1 : w5.cell? ⟨w.heap.size, 1, none⟩ = some (.int .i64 res.2) := r2.cell 1
    exact bodyPost_ret (v := spanV res) (by simp [results, Tryz.results96, go_sem, d0, d1]) rfl ⟨rfl, rb⟩
end Go.Proofs.YtkomgidcgepknaaGreatDoor

/-
  bound's operators on the bounds of operands: choose.
-/
namespace Go.Proofs.YtkomgidcgepknaaGreatDoor
open Go.RowKit Go.Deep Go.Maps

theorem RSp.three {w : World} {B : Nat} {A : Option Addr} {n : Nat} {x y z : Int × Int} {l : List (Int × Int)} (h : RSp w B A n (x :: y :: z :: l)) : ∃ b off, A = some ⟨b, off, none⟩ ∧ b < B ∧
    w.cell? ⟨b, off, none⟩ = some (.int .i64 x.1) ∧ w.cell? ⟨b, off + 1, none⟩ = some (.int .i64 x.2) ∧ w.cell? ⟨b, off + 2, none⟩ = some (.int .i64 y.1) ∧ w.cell? ⟨b, off + 3, none⟩ = some (.int .i64 y.2) ∧
    w.cell? ⟨b, off + 4, none⟩ = some (.int .i64 z.1) ∧ w.cell? ⟨b, off + 5, none⟩ = some (.int .i64 z.2) := by
  have hl := h.len
  simp at hl
  obtain ⟨b, off, hA, hb, a0, a1⟩ := h.at_ (i := 0) (by omega)
  obtain ⟨b', off', hA', hb', b0, b1⟩ := h.at_ (i := 1) (by omega)
  obtain ⟨b'', off'', hA'', hb'', c0, c1⟩ := h.at_ (i := 2) (by omega)
  rw [hA] at hA' hA''
  injection hA' with hA'
  injection hA' with e1 e2
  injection hA'' with hA''
  injection hA'' with e3 e4
  subst e1 e2 e3 e4
  exact ⟨b, off, hA, hb, a0, a1, b0, b1, c0, c1⟩

set_option maxHeartbeats 2000000 in
set_option maxRecDepth 20000 in
theorem choose_any (A : Option Addr) (n c : Nat) (x y z : Int × Int) (w : World) (h : RSp w w.heap.size A n [x, y, z]) :
    Calls Tryz.prog 100 #[.slice A n c] w fun e w' => e = .returned (spanV (nodeB 9 x y z)) ∧ Below w.heap.size w w' := by
  obtain rfl : 3 = n := h.len
  obtain ⟨b, off, rfl, hb, a0, a1, a2, a3, a4, a5⟩ := h.three
  obtain ⟨x1, x2⟩ := x
  obtain ⟨y1, y2⟩ := y
  obtain ⟨z1, z2⟩ := z
  dsimp only at a0 a1 a2 a3 a4 a5 ⊢
  obtain ⟨res, hres⟩ : ∃ res, nodeB 9 (x1, x2) (y1, y2) (z1, z2) = res := ⟨_, rfl⟩
  rw [hres]
  have HR : Hid ((if 0 < x1 then (y1, y2) else if x2 ≤ 0 then (z1, z2) else hullL [y1, y2, z1, z2]) = res) := hres
  clear hres
  have hb0 : Below w.heap.size w ((w.alloc (Obj.cells #[.int .i64 0, .int .i64 0] 149)).alloc (Obj.cells #[.int .i64 x1, .int .i64 x2] 149)) := ((Below.refl _ _).alloc (Nat.le_refl _) _).alloc (by simp) _
  have n0 : Blk ((w.alloc (Obj.cells #[.int .i64 0, .int .i64 0] 149)).alloc (Obj.cells #[.int .i64 x1, .int .i64 x2] 149)) w.heap.size 149 #[.int .i64 0, .int .i64 0] := (Blk.new _ _ _).alloc _
  have n1 : Blk ((w.alloc (Obj.cells #[.int .i64 0, .int .i64 0] 149)).alloc (Obj.cells #[.int .i64 x1, .int .i64 x2] 149)) (w.heap.size + 1) 149 #[.int .i64 x1, .int .i64 x2] := by
    have := Blk.new (w.alloc (Obj.cells #[.int .i64 0, .int .i64 0] 149)) 149 #[.int .i64 x1, .int .i64 x2]
    rw [show (w.alloc (Obj.cells #[.int .i64 0, .int .i64 0] 149)).heap.size = w.heap.size + 1 from by simp] at this
    exact this
  have hA : ∀ (o : Obj) (bb off : Nat), bb < w.heap.size → (w.alloc o).cell? ⟨bb, off, none⟩ = w.cell? ⟨bb, off, none⟩ := fun o bb off h => World.cell?_alloc_lt w o ⟨bb, off, none⟩ h
  have HB := hide hb0
  have N0 := hide n0
  have N1 := hide n1
  clear hb0 n0 n1 h
  go_enter Tryz.func100, Tryz.ntmps100
  go_upto_region 2 with (fail)
  generalize (w.alloc (Obj.cells #[.int .i64 0, .int .i64 0] 149)).alloc (Obj.cells #[.int .i64 x1, .int .i64 x2] 149) = w0 at HB N0 N1 ⊢
  have hb0 := HB.out
  have e2 : w0.cell? ⟨b, off + 2, none⟩ = some (.int .i64 y1) := (hb0.cell (p := ⟨b, off + 2, none⟩) hb).trans a2
  have e3 : w0.cell? ⟨b, off + 3, none⟩ = some (.int .i64 y2) := (hb0.cell (p := ⟨b, off + 3, none⟩) hb).trans a3
  have e4 : w0.cell? ⟨b, off + 4, none⟩ = some (.int .i64 z1) := (hb0.cell (p := ⟨b, off + 4, none⟩) hb).trans a4
  have e5 : w0.cell? ⟨b, off + 5, none⟩ = some (.int .i64 z2) := (hb0.cell (p := ⟨b, off + 5, none⟩) hb).trans a5
  have c0 : w0.cell? ⟨w.heap.size, 0, none⟩ = some (.int .i64 0) := N0.out.cell 0
  have c1 : w0.cell? ⟨w.heap.size, 1, none⟩ = some (.int .i64 0) := N0.out.cell 1
  have f0 := N0.out.frozen 0
  have f1 := N0.out.frozen 1
  have d0 : w0.cell? ⟨w.heap.size + 1, 0, none⟩ = some (.int .i64 x1) := N1.out.cell 0
  have d1 : w0.cell? ⟨w.heap.size + 1, 1, none⟩ = some (.int .i64 x2) := N1.out.cell 1
  have hg0 := N0.out.lt
  clear a0 a1 a2 a3 a4 a5 hA hb0
  by_cases hx1 : 0 < x1
  · have hx1' : decide (0 < x1) = true := decide_eq_true hx1
    obtain rfl : (y1, y2) = res := by rw [← HR.out, if_pos hx1]
    clear HR
    go_wp2
    obtain ⟨r2, rb⟩ := span_put (a := y1) (b := y2) N0.out HB.out (Nat.le_refl _)
    generalize (w0.setCell ⟨w.heap.size, 0, none⟩ (.int .i64 y1)).setCell ⟨w.heap.size, 1, none⟩ (.int .i64 y2) = w5 at r2 rb ⊢
    have d0 : w5.cell? ⟨w.heap.size, 0, none⟩ = some (.int .i64 y1) := r2.cell 0
    have d1 : w5.cell? ⟨w.heap.size, 1, none⟩ = some (.int .i64 y2) := r2.cell 1
    exact bodyPost_ret (v := spanV (y1, y2)) (by simp [results, Tryz.results100, go_sem, d0, d1]) rfl ⟨rfl, rb⟩
  · have hx1' : decide (0 < x1) = false := decide_eq_false hx1
    by_cases hx2 : x2 ≤ 0
    · have hx2' : decide (x2 ≤ 0) = true := decide_eq_true hx2
      obtain rfl : (z1, z2) = res := by rw [← HR.out, if_neg hx1, if_pos hx2]
      clear HR
      go_wp2
      obtain ⟨r2, rb⟩ := span_put (a := z1) (b := z2) N0.out HB.out (Nat.le_refl _)
      generalize (w0.setCell ⟨w.heap.size, 0, none⟩ (.int .i64 z1)).setCell ⟨w.heap.size, 1, none⟩ (.int .i64 z2) = w5 at r2 rb ⊢
      have d0 : w5.cell? ⟨w.heap.size, 0, none⟩ = some (.int .i64 z1) := r2.cell 0
      have d1 : w5.cell? ⟨w.heap.size, 1, none⟩ = some (.int .i64 z2) := r2.cell 1
      exact bodyPost_ret (v := spanV (z1, z2)) (by simp [results, Tryz.results100, go_sem, d0, d1]) rfl ⟨rfl, rb⟩
    · have hx2' : decide (x2 ≤ 0) = false := decide_eq_false hx2
      have HR2 : Hid (hullL [y1, y2, z1, z2] = res) := by
        show _ = _
        rw [← HR.out, if_neg hx1, if_neg hx2]
      clear HR
      go_upto_region 6 with (fail)
      go_still_tail 16, (by kernel_rfl)
      change wpList _ _ _ _ _ w0.drew
      have kb1 : Below w.heap.size w w0.drew := HB.out.drew
      have KN1 : Hid (Blk w0.drew w.heap.size 149 #[.int .i64 0, .int .i64 0]) := N0
      have hg2 : w.heap.size < w0.drew.heap.size := hg0
      clear c0 c1 f0 f1 d0 d1 e2 e3 e4 e5 HB N0 N1 hg0
      generalize w0.drew = w3 at kb1 KN1 hg2 ⊢
      go_wp2_with fail
      have hri : RI (w3.alloc (Obj.cells #[.int .i64 y1, .int .i64 y2, .int .i64 z1, .int .i64 z2] 3)) (w3.alloc (Obj.cells #[.int .i64 y1, .int .i64 y2, .int .i64 z1, .int .i64 z2] 3)).heap.size (some ⟨w3.heap.size, 0, none⟩) 4 [y1, y2, z1, z2] := RI.lit w3 [y1, y2, z1, z2] 4 3 rfl
      have kb : Below w.heap.size w (w3.alloc (Obj.cells #[.int .i64 y1, .int .i64 y2, .int .i64 z1, .int .i64 z2] 3)) := kb1.alloc kb1.size _
      have KN : Hid (Blk (w3.alloc (Obj.cells #[.int .i64 y1, .int .i64 y2, .int .i64 z1, .int .i64 z2] 3)) w.heap.size 149 #[.int .i64 0, .int .i64 0]) := hide (KN1.out.alloc _)
      have hg1 : w.heap.size < (w3.alloc (Obj.cells #[.int .i64 y1, .int .i64 y2, .int .i64 z1, .int .i64 z2] 3)).heap.size := by simp; omega
      generalize w3.alloc (Obj.cells #[.int .i64 y1, .int .i64 y2, .int .i64 z1, .int .i64 z2] 3) = w1 at hri kb KN hg1 ⊢
      refine (hull_any _ 4 4 [y1, y2, z1, z2] w1 hri (by omega) (by unfold maxLen; omega)).mono ?_
      rintro e w2 ⟨rfl, hb2⟩
      clear hri kb1 KN1 hg2
      rw [HR2.out]
      have HB3 : Below w.heap.size w w2 := kb.trans (hb2.mono kb.size)
      have n2 := KN.out.below hb2 hg1
      have c0' : w2.cell? ⟨w.heap.size, 0, none⟩ = some (.int .i64 0) := n2.cell 0
      have c1' : w2.cell? ⟨w.heap.size, 1, none⟩ = some (.int .i64 0) := n2.cell 1
      have f0' := n2.frozen 0
      have f1' := n2.frozen 1
      have N2 := hide n2
      clear n2 hb2
      go_wp2
      obtain ⟨r2, rb⟩ := span_put (a := res.1) (b := res.2) N2.out HB3 (Nat.le_refl _)
      generalize (w2.setCell ⟨w.heap.size, 0, none⟩ (.int .i64 res.1)).setCell ⟨w.heap.size, 1, none⟩ (.int .i64 res.2) = w5 at r2 rb ⊢
      have d0 : w5.cell? ⟨w.heap.size, 0, none⟩ = some (.int .i64 res.1) := r2.cell 0
      have d1 : w5.cell? ⟨w.heap.size, 1, none⟩ = some (.int .i64 res.2) := r2.cell 1
      exact bodyPost_ret (v := spanV res) (by simp [results, Tryz.results100, go_sem, d0, d1]) rfl ⟨rfl, rb⟩
end Go.Proofs.YtkomgidcgepknaaGreatDoor

set_option linter.unusedVariables false
set_option linter.unusedSimpArgs false
namespace Go.Proofs.YtkomgidcgepknaaGreatDoor
open Go.RowKit Go.Deep Go.Maps

/-- The quotients of both ends by the first divisors. -/
def quos (x : Int × Int) (D : List Int) : List Int := D.flatMap fun b => [overL x.1 b, overL x.2 b]
theorem quos_len (x : Int × Int) : ∀ D : List Int, (quos x D).length = 2 * D.length
  | [] => rfl
  | b :: D => by
    have := quos_len x D
    unfold quos at this ⊢
    rw [List.flatMap_cons, List.length_append, this]
    simp
    omega
theorem quos_snoc (x : Int × Int) (D : List Int) (b : Int) : quos x (D ++ [b]) = quos x D ++ [overL x.1 b, overL x.2 b] := by simp [quos]
theorem drop_one {w : World} {base : Nat} {A : Option Addr} {n c : Nat} {xs : List Int} (h : Own w base 3 1 A n c (ints xs)) : ∀ u ∈ ints xs, u.oneCell' = true := ints_oneCell xs

set_option maxHeartbeats 4000000 in
set_option maxRecDepth 20000 in
theorem div_any (A : Option Addr) (n c : Nat) (x y : Int × Int) (w : World) (h : RSp w w.heap.size A n [x, y]) (hx : inS x) :
    Calls Tryz.prog 97 #[.slice A n c] w fun e w' => e = .returned (spanV (nodeB 6 x y (0, 0))) ∧ Below w.heap.size w w' := by
  obtain rfl : 2 = n := h.len
  obtain ⟨b, off, rfl, hb, a0, a1, a2, _, a3⟩ := h.two
  obtain ⟨x1, x2⟩ := x
  obtain ⟨y1, y2⟩ := y
  obtain ⟨hx1, hx2⟩ := hx
  dsimp only at a0 a1 a2 a3 hx1 hx2 ⊢
  obtain ⟨res, hres⟩ : ∃ res, nodeB 6 (x1, x2) (y1, y2) (0, 0) = res := ⟨_, rfl⟩
  rw [hres]
  have HR : Hid (hullL (quos (x1, x2) (divBy (y1, y2))) = res) := hres
  clear hres
  have hb0 : Below w.heap.size w (w.alloc (Obj.cells #[.int .i64 0, .int .i64 0] 149)) := (Below.refl _ _).alloc (Nat.le_refl _) _
  have n0 := Blk.new w 149 #[.int .i64 0, .int .i64 0]
  have HX1 := hide hx1
  have HX2 := hide hx2
  clear hx1 hx2
  go_enter Tryz.func97, Tryz.ntmps97
  go_upto_region 1 with (fail)
  generalize w.alloc (Obj.cells #[.int .i64 0, .int .i64 0] 149) = w0 at hb0 n0 ⊢
  have e2 : w0.cell? ⟨b, off + 2, none⟩ = some (.int .i64 y1) := (hb0.cell (p := ⟨b, off + 2, none⟩) hb).trans a2
  have e3 : w0.cell? ⟨b, off + 3, none⟩ = some (.int .i64 y2) := (hb0.cell (p := ⟨b, off + 3, none⟩) hb).trans a3
  go_still_tail 8, (by kernel_rfl)
  change wpList _ _ _ _ _ w0.drew
  clear e2 e3
  have hb1 : Below w.heap.size w w0.drew := hb0.drew
  have N1 : Hid (Blk w0.drew w.heap.size 149 #[.int .i64 0, .int .i64 0]) := hide n0.drew
  have hg1 : w.heap.size < w0.drew.heap.size := n0.lt
  clear n0 hb0
  generalize w0.drew = w1 at hb1 N1 hg1 ⊢
  have hbl : b < w1.heap.size := Nat.lt_trans hb hg1
  have OWN : Hid (Own (w1.alloc (Obj.cells #[.int .i64 y1, .int .i64 y2] 3)) w.heap.size 3 1 (some ⟨w1.heap.size, 0, none⟩) 2 2 (ints [y1, y2])) := hide (Own.of_lit w1 #[.int .i64 y1, .int .i64 y2] 2 hb1.size (by unfold maxLen; omega) rfl)
  have hb2 : Below w.heap.size w (w1.alloc (Obj.cells #[.int .i64 y1, .int .i64 y2] 3)) := hb1.alloc hb1.size _
  have N2 : Hid (Blk (w1.alloc (Obj.cells #[.int .i64 y1, .int .i64 y2] 3)) w.heap.size 149 #[.int .i64 0, .int .i64 0]) := hide (N1.out.alloc _)
  have hg2 : w.heap.size < (w1.alloc (Obj.cells #[.int .i64 y1, .int .i64 y2] 3)).heap.size := by simp; omega
  go_upto_region 2 with (fail)
  generalize w1.alloc (Obj.cells #[.int .i64 y1, .int .i64 y2] 3) = w2 at OWN hb2 N2 hg2 ⊢
  generalize w1.heap.size = g1 at OWN ⊢
  have e2 : w2.cell? ⟨b, off + 2, none⟩ = some (.int .i64 y1) := (hb2.cell (p := ⟨b, off + 2, none⟩) hb).trans a2
  have e3 : w2.cell? ⟨b, off + 3, none⟩ = some (.int .i64 y2) := (hb2.cell (p := ⟨b, off + 3, none⟩) hb).trans a3
  clear hb1 N1 hg1 hbl
  by_cases c1 : y1 ≤ 0
  · have c1' : decide (y1 ≤ 0) = true := decide_eq_true c1
    by_cases c2 : 0 ≤ y2
    · have c2' : decide (0 ≤ y2) = true := decide_eq_true c2
      have HDD : Hid (divBy (y1, y2) = [y1, y2, 0, max (-1) y1, min 1 y2]) := by
        show _ = _
        unfold divBy
        rw [if_pos ⟨c1, c2⟩]
      go_upto_region 3 with (fail)
      have RR : Hid (Reads (w2.alloc (Obj.cells #[.int .i64 0, .int .i64 (max (-1) y1), .int .i64 (min 1 y2)] 3)).drew (w2.heap.size + 1) 1 (some ⟨w2.heap.size, 0, none⟩) 3 (ints [0, max (-1) y1, min 1 y2])) := hide (reads_new w2 #[.int .i64 0, .int .i64 (max (-1) y1), .int .i64 (min 1 y2)] 3 1 3 rfl)
      have HO5 : Hid (Own (w2.alloc (Obj.cells #[.int .i64 0, .int .i64 (max (-1) y1), .int .i64 (min 1 y2)] 3)).drew w.heap.size 3 1 (some ⟨g1, 0, none⟩) 2 2 (ints [y1, y2])) := hide ((OWN.out.alloc _).below (Below.drew (Below.refl _ _)))
      have HB5 : Hid (Below w.heap.size w (w2.alloc (Obj.cells #[.int .i64 0, .int .i64 (max (-1) y1), .int .i64 (min 1 y2)] 3)).drew) := hide (hb2.alloc hb2.size _).drew
      have HN5 : Hid (Blk (w2.alloc (Obj.cells #[.int .i64 0, .int .i64 (max (-1) y1), .int .i64 (min 1 y2)] 3)).drew w.heap.size 149 #[.int .i64 0, .int .i64 0]) := hide (N2.out.alloc _).drew
      go_region_law ((refine step_appG (by rfl) _ _ _ (by rfl) w.heap.size 3 (.int .i64 0) 1 8 Tryz.underlying31 int_info rfl (by omega) (some ⟨g1, 0, none⟩) 2 2 (ints [y1, y2]) (by rfl) (by exact HO5.out) _ _ 3 _ _ (by rfl) (by exact RR.out) (ints_oneCell _) (by unfold maxLen; omega) (by omega) (by exact HB5.out.size) ?_; intro A3 c3 w3 hown3 hgr3 _; have OWN3 : Hid (Own w3 w.heap.size 3 1 A3 5 c3 (ints (divBy (y1, y2)))) := hide (by rw [HDD.out]; exact hown3); have HB3 : Hid (Below w.heap.size w w3) := hide (HB5.out.trans ((Below.refl _ _).grown hgr3 HB5.out.size (fun k hk => (World.ownsRow.lt HO5.out k hk).1))); have N3 := hide (HN5.out.grown hgr3 (fun e => HO5.out.ne_blk HN5.out (by decide) e.symm)); clear hown3 hgr3))
      all_goals
        clear RR HO5 HB5 HN5 HDD e2 e3 OWN hb2 N2 hg2
        have hb3 := HB3.out
        have hg3 := N3.out.lt
        clear HB3
        obtain ⟨D, hD⟩ : ∃ D, divBy (y1, y2) = D := ⟨_, rfl⟩
        rw [hD] at HR OWN3
        have HLD : Hid (D.length = 5) := by
          have := OWN3.out.1
          simp at this
          exact this
        clear hD
        go_wp2
        go_loopw [4, 43] (fun v i wr => ∃ (k : Nat) (A : Option Addr) (c : Nat), k ≤ 5 ∧ i = .int .i64 k ∧ v = .slice A (2 * k) c ∧ Own wr w3.heap.size 3 1 A (2 * k) c (ints (quos (x1, x2) (D.take k))) ∧ Below w3.heap.size w3 wr) (fun _ i _ => 5 - (intOf i).toNat)
        case atStart => exact ⟨0, none, 0, Nat.zero_le _, rfl, rfl, Own.nil _ _ _ _, Below.refl _ _⟩
        case round =>
          obtain ⟨k, A, c', hk, rfl, rfl, hown, hbr⟩ := hrel
          have l3 := hbr.size
          have hkb := hb3.trans (hbr.mono hb3.size)
          by_cases hlt : k < 5
          · obtain ⟨bd, offd, rfl, hbd, gd⟩ := (OWN3.out.below hbr).ri.at_ (k := k) hlt
            have e0 : wr.cell? ⟨b, off, none⟩ = some (.int .i64 x1) := (hkb.cell (p := ⟨b, off, none⟩) hb).trans a0
            have e1 : wr.cell? ⟨b, off + 1, none⟩ = some (.int .i64 x2) := (hkb.cell (p := ⟨b, off + 1, none⟩) hb).trans a1
            have HOW := hide hown
            have hlt' : decide ((k : Int) < 5) = true := decide_eq_true (by omega)
            have HTK := hide (nth_take (xs := D) (k := k) (by rw [HLD.out]; exact hlt))
            clear hown
            go_upto_region 8 with (fail)
            have RR : Hid (Reads (wr.alloc (Obj.cells #[.int .i64 (overL x1 (nth D k)), .int .i64 (overL x2 (nth D k))] 3)).drew (wr.heap.size + 1) 1 (some ⟨wr.heap.size, 0, none⟩) 2 (ints [overL x1 (nth D k), overL x2 (nth D k)])) := hide (reads_new wr #[.int .i64 (overL x1 (nth D k)), .int .i64 (overL x2 (nth D k))] 3 1 2 rfl)
            have HO7 : Hid (Own (wr.alloc (Obj.cells #[.int .i64 (overL x1 (nth D k)), .int .i64 (overL x2 (nth D k))] 3)).drew w3.heap.size 3 1 A (2 * k) c' (ints (quos (x1, x2) (D.take k)))) := hide ((HOW.out.alloc _).below (Below.drew (Below.refl _ _)))
            have HB7 : Hid (Below w3.heap.size w3 (wr.alloc (Obj.cells #[.int .i64 (overL x1 (nth D k)), .int .i64 (overL x2 (nth D k))] 3)).drew) := hide (hbr.alloc l3 _).drew
            have HQ := hide (quos_snoc (x1, x2) (D.take k) (nth D k))
            dsimp only at HQ
            go_region_law ((first
              | (refine step_appG (by rfl) _ _ _ (by rfl) w3.heap.size 3 (.int .i64 0) 1 8 Tryz.underlying31 int_info rfl (by omega) A (2 * k) c' _ (by rfl) (by exact HO7.out) _ _ 2 _ _ (by rfl) (by exact RR.out) (ints_oneCell _) (by unfold maxLen; omega) (by omega) (by exact HB7.out.size) ?_; intro A8 c8 w8 hown8 hgr8 _; have HO8 := hide hown8; have HB8 : Hid (Below w3.heap.size w3 w8) := hide (HB7.out.trans ((Below.refl _ _).grown hgr8 HB7.out.size (fun g hg => (World.ownsRow.lt HO7.out g hg).1))); clear hown8 hgr8)
              | (rw [if_pos (by rfl)]; go_simp; go_at_call 146; refine (over_any _ _ _ (by first | exact HX1.out | exact HX2.out)).mono ?_; rintro e w9 ⟨rfl, rfl⟩)))
            all_goals
              clear RR HO7 HB7 e0 e1 gd HOW hbr hkb l3 hbd
              go_wp2
              go_roundw
              case rel => exact ⟨k + 1, A8, c8, by omega, by go_num, by rw [show 2 * (k + 1) = 2 * k + 2 from by omega], by rw [HTK.out, HQ.out, ints_append, show 2 * (k + 1) = 2 * k + 2 from by omega]; exact HO8.out, HB8.out⟩
              case measure => simp [intOf]; omega
          · have hlt' : decide ((k : Int) < 5) = false := decide_eq_false (by omega)
            have hq : quos (x1, x2) (D.take k) = quos (x1, x2) D := by rw [List.take_of_length_le (by rw [HLD.out]; omega)]
            rw [hq] at hown
            have hri := hown.ri
            have kb := hkb
            have KN : Hid (Blk wr w.heap.size 149 #[.int .i64 0, .int .i64 0]) := hide (N3.out.below hbr hg3)
            have hg1 : w.heap.size < wr.heap.size := KN.out.lt
            have HRI := hide hri
            clear hown hq hri hbr hkb
            go_wp2_with fail
            refine (hull_any A _ c' (quos (x1, x2) D) wr HRI.out (by omega) (by unfold maxLen; omega)).mono ?_
            rintro e w2 ⟨rfl, hb2⟩
            rw [HR.out]
            clear HRI
            have HB3 : Below w.heap.size w w2 := kb.trans (hb2.mono kb.size)
            have n2 := KN.out.below hb2 hg1
            have c0' : w2.cell? ⟨w.heap.size, 0, none⟩ = some (.int .i64 0) := n2.cell 0
            have c1' : w2.cell? ⟨w.heap.size, 1, none⟩ = some (.int .i64 0) := n2.cell 1
            have f0' := n2.frozen 0
            have f1' := n2.frozen 1
            have N2 := hide n2
            clear n2 hb2
            go_wp2
            obtain ⟨r2, rb⟩ := span_put (a := res.1) (b := res.2) N2.out HB3 (Nat.le_refl _)
            generalize (w2.setCell ⟨w.heap.size, 0, none⟩ (.int .i64 res.1)).setCell ⟨w.heap.size, 1, none⟩ (.int .i64 res.2) = w5 at r2 rb ⊢
            have d0 : w5.cell? ⟨w.heap.size, 0, none⟩ = some (.int .i64 res.1) := r2.cell 0
            have d1 : w5.cell? ⟨w.heap.size, 1, none⟩ = some (.int .i64 res.2) := r2.cell 1
            exact bodyPost_ret (v := spanV res) (by simp [results, Tryz.results97, go_sem, d0, d1]) rfl ⟨rfl, rb⟩
    · have c2' : decide (0 ≤ y2) = false := decide_eq_false c2
      have OWN3 : Hid (Own w2 w.heap.size 3 1 (some ⟨g1, 0, none⟩) 2 2 (ints (divBy (y1, y2)))) := by
        show Own _ _ _ _ _ _ _ _
        unfold divBy
        rw [if_neg (fun hh => c2 hh.2)]
        exact OWN.out
      have N3 := N2
      have hb3 := hb2
      have hg3 := hg2
      go_upto_region 4 with (fail)
      clear e2 e3 OWN hb2 N2 hg2
      generalize hA3 : (some ⟨g1, 0, none⟩ : Option Addr) = A3 at OWN3 ⊢
      have HA3 := hide hA3
      clear hA3
      generalize w2 = w3 at OWN3 hb3 N3 hg3 ⊢
      obtain ⟨D, hD⟩ : ∃ D, divBy (y1, y2) = D := ⟨_, rfl⟩
      rw [hD] at HR OWN3
      have HLD : Hid (D.length = 2) := by
        have := OWN3.out.1
        simp at this
        exact this
      clear hD
      go_wp2
      go_loopw [4, 43] (fun v i wr => ∃ (k : Nat) (A : Option Addr) (c : Nat), k ≤ 2 ∧ i = .int .i64 k ∧ v = .slice A (2 * k) c ∧ Own wr w3.heap.size 3 1 A (2 * k) c (ints (quos (x1, x2) (D.take k))) ∧ Below w3.heap.size w3 wr) (fun _ i _ => 2 - (intOf i).toNat)
      case atStart => exact ⟨0, none, 0, Nat.zero_le _, rfl, rfl, Own.nil _ _ _ _, Below.refl _ _⟩
      case round =>
        obtain ⟨k, A, c', hk, rfl, rfl, hown, hbr⟩ := hrel
        have l3 := hbr.size
        have hkb := hb3.trans (hbr.mono hb3.size)
        by_cases hlt : k < 2
        · obtain ⟨bd, offd, rfl, hbd, gd⟩ := (OWN3.out.below hbr).ri.at_ (k := k) hlt
          have e0 : wr.cell? ⟨b, off, none⟩ = some (.int .i64 x1) := (hkb.cell (p := ⟨b, off, none⟩) hb).trans a0
          have e1 : wr.cell? ⟨b, off + 1, none⟩ = some (.int .i64 x2) := (hkb.cell (p := ⟨b, off + 1, none⟩) hb).trans a1
          have HOW := hide hown
          have hlt' : decide ((k : Int) < 2) = true := decide_eq_true (by omega)
          have HTK := hide (nth_take (xs := D) (k := k) (by rw [HLD.out]; exact hlt))
          clear hown
          go_upto_region 8 with (fail)
          have RR : Hid (Reads (wr.alloc (Obj.cells #[.int .i64 (overL x1 (nth D k)), .int .i64 (overL x2 (nth D k))] 3)).drew (wr.heap.size + 1) 1 (some ⟨wr.heap.size, 0, none⟩) 2 (ints [overL x1 (nth D k), overL x2 (nth D k)])) := hide (reads_new wr #[.int .i64 (overL x1 (nth D k)), .int .i64 (overL x2 (nth D k))] 3 1 2 rfl)
          have HO7 : Hid (Own (wr.alloc (Obj.cells #[.int .i64 (overL x1 (nth D k)), .int .i64 (overL x2 (nth D k))] 3)).drew w3.heap.size 3 1 A (2 * k) c' (ints (quos (x1, x2) (D.take k)))) := hide ((HOW.out.alloc _).below (Below.drew (Below.refl _ _)))
          have HB7 : Hid (Below w3.heap.size w3 (wr.alloc (Obj.cells #[.int .i64 (overL x1 (nth D k)), .int .i64 (overL x2 (nth D k))] 3)).drew) := hide (hbr.alloc l3 _).drew
          have HQ := hide (quos_snoc (x1, x2) (D.take k) (nth D k))
          dsimp only at HQ
          go_region_law ((first
            | (refine step_appG (by rfl) _ _ _ (by rfl) w3.heap.size 3 (.int .i64 0) 1 8 Tryz.underlying31 int_info rfl (by omega) A (2 * k) c' _ (by rfl) (by exact HO7.out) _ _ 2 _ _ (by rfl) (by exact RR.out) (ints_oneCell _) (by unfold maxLen; omega) (by omega) (by exact HB7.out.size) ?_; intro A8 c8 w8 hown8 hgr8 _; have HO8 := hide hown8; have HB8 : Hid (Below w3.heap.size w3 w8) := hide (HB7.out.trans ((Below.refl _ _).grown hgr8 HB7.out.size (fun g hg => (World.ownsRow.lt HO7.out g hg).1))); clear hown8 hgr8)
            | (rw [if_pos (by rfl)]; go_simp; go_at_call 146; refine (over_any _ _ _ (by first | exact HX1.out | exact HX2.out)).mono ?_; rintro e w9 ⟨rfl, rfl⟩)))
          all_goals
            clear RR HO7 HB7 e0 e1 gd HOW hbr hkb l3 hbd
            go_wp2
            go_roundw
            case rel => exact ⟨k + 1, A8, c8, by omega, by go_num, by rw [show 2 * (k + 1) = 2 * k + 2 from by omega], by rw [HTK.out, HQ.out, ints_append, show 2 * (k + 1) = 2 * k + 2 from by omega]; exact HO8.out, HB8.out⟩
            case measure => simp [intOf]; omega
        · have hlt' : decide ((k : Int) < 2) = false := decide_eq_false (by omega)
          have hq : quos (x1, x2) (D.take k) = quos (x1, x2) D := by rw [List.take_of_length_le (by rw [HLD.out]; omega)]
          rw [hq] at hown
          have hri := hown.ri
          have kb := hkb
          have KN : Hid (Blk wr w.heap.size 149 #[.int .i64 0, .int .i64 0]) := hide (N3.out.below hbr hg3)
          have hg1 : w.heap.size < wr.heap.size := KN.out.lt
          have HRI := hide hri
          clear hown hq hri hbr hkb
          go_wp2_with fail
          refine (hull_any A _ c' (quos (x1, x2) D) wr HRI.out (by omega) (by unfold maxLen; omega)).mono ?_
          rintro e w2 ⟨rfl, hb2⟩
          rw [HR.out]
          clear HRI
          have HB3 : Below w.heap.size w w2 := kb.trans (hb2.mono kb.size)
          have n2 := KN.out.below hb2 hg1
          have c0' : w2.cell? ⟨w.heap.size, 0, none⟩ = some (.int .i64 0) := n2.cell 0
          have c1' : w2.cell? ⟨w.heap.size, 1, none⟩ = some (.int .i64 0) := n2.cell 1
          have f0' := n2.frozen 0
          have f1' := n2.frozen 1
          have N2 := hide n2
          clear n2 hb2
          go_wp2
          obtain ⟨r2, rb⟩ := span_put (a := res.1) (b := res.2) N2.out HB3 (Nat.le_refl _)
          generalize (w2.setCell ⟨w.heap.size, 0, none⟩ (.int .i64 res.1)).setCell ⟨w.heap.size, 1, none⟩ (.int .i64 res.2) = w5 at r2 rb ⊢
          have d0 : w5.cell? ⟨w.heap.size, 0, none⟩ = some (.int .i64 res.1) := r2.cell 0
          have d1 : w5.cell? ⟨w.heap.size, 1, none⟩ = some (.int .i64 res.2) := r2.cell 1
          exact bodyPost_ret (v := spanV res) (by simp [results, Tryz.results97, go_sem, d0, d1]) rfl ⟨rfl, rb⟩
  · have c1' : decide (y1 ≤ 0) = false := decide_eq_false c1
    have OWN3 : Hid (Own w2 w.heap.size 3 1 (some ⟨g1, 0, none⟩) 2 2 (ints (divBy (y1, y2)))) := by
      show Own _ _ _ _ _ _ _ _
      unfold divBy
      rw [if_neg (fun hh => c1 hh.1)]
      exact OWN.out
    have N3 := N2
    have hb3 := hb2
    have hg3 := hg2
    go_upto_region 4 with (fail)
    clear e2 e3 OWN hb2 N2 hg2
    generalize hA3 : (some ⟨g1, 0, none⟩ : Option Addr) = A3 at OWN3 ⊢
    have HA3 := hide hA3
    clear hA3
    generalize w2 = w3 at OWN3 hb3 N3 hg3 ⊢
    obtain ⟨D, hD⟩ : ∃ D, divBy (y1, y2) = D := ⟨_, rfl⟩
    rw [hD] at HR OWN3
    have HLD : Hid (D.length = 2) := by
      have := OWN3.out.1
      simp at this
      exact this
    clear hD
    go_wp2
    go_loopw [4, 43] (fun v i wr => ∃ (k : Nat) (A : Option Addr) (c : Nat), k ≤ 2 ∧ i = .int .i64 k ∧ v = .slice A (2 * k) c ∧ Own wr w3.heap.size 3 1 A (2 * k) c (ints (quos (x1, x2) (D.take k))) ∧ Below w3.heap.size w3 wr) (fun _ i _ => 2 - (intOf i).toNat)
    case atStart => exact ⟨0, none, 0, Nat.zero_le _, rfl, rfl, Own.nil _ _ _ _, Below.refl _ _⟩
    case round =>
      obtain ⟨k, A, c', hk, rfl, rfl, hown, hbr⟩ := hrel
      have l3 := hbr.size
      have hkb := hb3.trans (hbr.mono hb3.size)
      by_cases hlt : k < 2
      · obtain ⟨bd, offd, rfl, hbd, gd⟩ := (OWN3.out.below hbr).ri.at_ (k := k) hlt
        have e0 : wr.cell? ⟨b, off, none⟩ = some (.int .i64 x1) := (hkb.cell (p := ⟨b, off, none⟩) hb).trans a0
        have e1 : wr.cell? ⟨b, off + 1, none⟩ = some (.int .i64 x2) := (hkb.cell (p := ⟨b, off + 1, none⟩) hb).trans a1
        have HOW := hide hown
        have hlt' : decide ((k : Int) < 2) = true := decide_eq_true (by omega)
        have HTK := hide (nth_take (xs := D) (k := k) (by rw [HLD.out]; exact hlt))
        clear hown
        go_upto_region 8 with (fail)
        have RR : Hid (Reads (wr.alloc (Obj.cells #[.int .i64 (overL x1 (nth D k)), .int .i64 (overL x2 (nth D k))] 3)).drew (wr.heap.size + 1) 1 (some ⟨wr.heap.size, 0, none⟩) 2 (ints [overL x1 (nth D k), overL x2 (nth D k)])) := hide (reads_new wr #[.int .i64 (overL x1 (nth D k)), .int .i64 (overL x2 (nth D k))] 3 1 2 rfl)
        have HO7 : Hid (Own (wr.alloc (Obj.cells #[.int .i64 (overL x1 (nth D k)), .int .i64 (overL x2 (nth D k))] 3)).drew w3.heap.size 3 1 A (2 * k) c' (ints (quos (x1, x2) (D.take k)))) := hide ((HOW.out.alloc _).below (Below.drew (Below.refl _ _)))
        have HB7 : Hid (Below w3.heap.size w3 (wr.alloc (Obj.cells #[.int .i64 (overL x1 (nth D k)), .int .i64 (overL x2 (nth D k))] 3)).drew) := hide (hbr.alloc l3 _).drew
        have HQ := hide (quos_snoc (x1, x2) (D.take k) (nth D k))
        dsimp only at HQ
        go_region_law ((first
          | (refine step_appG (by rfl) _ _ _ (by rfl) w3.heap.size 3 (.int .i64 0) 1 8 Tryz.underlying31 int_info rfl (by omega) A (2 * k) c' _ (by rfl) (by exact HO7.out) _ _ 2 _ _ (by rfl) (by exact RR.out) (ints_oneCell _) (by unfold maxLen; omega) (by omega) (by exact HB7.out.size) ?_; intro A8 c8 w8 hown8 hgr8 _; have HO8 := hide hown8; have HB8 : Hid (Below w3.heap.size w3 w8) := hide (HB7.out.trans ((Below.refl _ _).grown hgr8 HB7.out.size (fun g hg => (World.ownsRow.lt HO7.out g hg).1))); clear hown8 hgr8)
          | (rw [if_pos (by rfl)]; go_simp; go_at_call 146; refine (over_any _ _ _ (by first | exact HX1.out | exact HX2.out)).mono ?_; rintro e w9 ⟨rfl, rfl⟩)))
        all_goals
          clear RR HO7 HB7 e0 e1 gd HOW hbr hkb l3 hbd
          go_wp2
          go_roundw
          case rel => exact ⟨k + 1, A8, c8, by omega, by go_num, by rw [show 2 * (k + 1) = 2 * k + 2 from by omega], by rw [HTK.out, HQ.out, ints_append, show 2 * (k + 1) = 2 * k + 2 from by omega]; exact HO8.out, HB8.out⟩
          case measure => simp [intOf]; omega
      · have hlt' : decide ((k : Int) < 2) = false := decide_eq_false (by omega)
        have hq : quos (x1, x2) (D.take k) = quos (x1, x2) D := by rw [List.take_of_length_le (by rw [HLD.out]; omega)]
        rw [hq] at hown
        have hri := hown.ri
        have kb := hkb
        have KN : Hid (Blk wr w.heap.size 149 #[.int .i64 0, .int .i64 0]) := hide (N3.out.below hbr hg3)
        have hg1 : w.heap.size < wr.heap.size := KN.out.lt
        have HRI := hide hri
        clear hown hq hri hbr hkb
        go_wp2_with fail
        refine (hull_any A _ c' (quos (x1, x2) D) wr HRI.out (by omega) (by unfold maxLen; omega)).mono ?_
        rintro e w2 ⟨rfl, hb2⟩
        rw [HR.out]
        clear HRI
        have HB3 : Below w.heap.size w w2 := kb.trans (hb2.mono kb.size)
        have n2 := KN.out.below hb2 hg1
        have c0' : w2.cell? ⟨w.heap.size, 0, none⟩ = some (.int .i64 0) := n2.cell 0
        have c1' : w2.cell? ⟨w.heap.size, 1, none⟩ = some (.int .i64 0) := n2.cell 1
        have f0' := n2.frozen 0
        have f1' := n2.frozen 1
        have N2 := hide n2
        clear n2 hb2
        go_wp2
        obtain ⟨r2, rb⟩ := span_put (a := res.1) (b := res.2) N2.out HB3 (Nat.le_refl _)
        generalize (w2.setCell ⟨w.heap.size, 0, none⟩ (.int .i64 res.1)).setCell ⟨w.heap.size, 1, none⟩ (.int .i64 res.2) = w5 at r2 rb ⊢
        have d0 : w5.cell? ⟨w.heap.size, 0, none⟩ = some (.int .i64 res.1) := r2.cell 0
        have d1 : w5.cell? ⟨w.heap.size, 1, none⟩ = some (.int .i64 res.2) := r2.cell 1
        exact bodyPost_ret (v := spanV res) (by simp [results, Tryz.results97, go_sem, d0, d1]) rfl ⟨rfl, rb⟩
end Go.Proofs.YtkomgidcgepknaaGreatDoor

set_option linter.unusedVariables false
set_option linter.unusedSimpArgs false
namespace Go.Proofs.YtkomgidcgepknaaGreatDoor
open Go.RowKit Go.Deep Go.Maps

theorem span_info : (Tryz.prog.info? 149).map (fun i => (i.zero, i.size, i.bytes)) = some (some (.agg #[.int .i64 0, .int .i64 0]), 2, 16) := by kernel_rfl
theorem cellsS_set (s : Int × Int) : ∀ (ss : List (Int × Int)) (i : Nat), ((cellsS ss).set (i * 2) (.int .i64 s.1)).set (i * 2 + 1) (.int .i64 s.2) = cellsS (ss.set i s)
  | [], i => rfl
  | y :: ss, 0 => rfl
  | y :: ss, i + 1 => by
    have ih := cellsS_set s ss i
    rw [show (i + 1) * 2 = (i * 2) + 1 + 1 from by omega]
    unfold cellsS at ih ⊢
    simp only [List.flatMap_cons, List.cons_append, List.nil_append, List.set_cons_succ, ih]
/-- The bounds so far, and noughts behind them. -/
def padS (n : Nat) (all : List (Int × Int)) : List (Int × Int) := all ++ List.replicate (n - all.length) (0, 0)
theorem padS_len {n : Nat} {all : List (Int × Int)} (h : all.length ≤ n) : (padS n all).length = n := by
  unfold padS
  simp
  omega
theorem padS_set {n : Nat} {all : List (Int × Int)} (h : all.length < n) (s : Int × Int) : (padS n all).set all.length s = padS n (all ++ [s]) := by
  unfold padS
  rw [List.set_append_right _ _ (Nat.le_refl _), Nat.sub_self, List.length_append]
  rw [show n - all.length = (n - (all.length + 1)) + 1 from by omega, List.replicate_succ, List.set_cons_zero]
  simp
theorem padS_get {n : Nat} {all : List (Int × Int)} {i : Nat} (h : i < all.length) : (padS n all).getD i (0, 0) = all.getD i (0, 0) := by
  unfold padS
  rw [List.getD_eq_getElem?_getD, List.getD_eq_getElem?_getD, List.getElem?_append_left h]
theorem made_span (n : Nat) : madeCells #[.int .i64 0, .int .i64 0] (n * 2) = (cellsS (padS n [])).toArray := by
  have h : ∀ n, madeCells (Value.agg #[.int .i64 0, .int .i64 0]).cells (n * 2) = (cellsS (List.replicate n (0, 0))).toArray := by
    intro n
    apply Array.ext
    · rw [size_madeCells]
      simp [cellsS_len]
    · intro j h1 h2
      rw [size_madeCells] at h1
      have hj := madeCells_get (Value.agg #[.int .i64 0, .int .i64 0]).cells (n * 2) j h1
      rw [Array.getElem?_eq_getElem (by rw [size_madeCells]; exact h1)] at hj
      injection hj with hj
      rw [hj]
      have e1 : (Value.agg #[.int .i64 0, .int .i64 0]).cells[j % (Value.agg #[.int .i64 0, .int .i64 0]).cells.size]! = .int .i64 0 := by
        show (#[Value.int .i64 0, .int .i64 0] : Array Value)[j % 2]! = _
        have : j % 2 = 0 ∨ j % 2 = 1 := by omega
        rcases this with h | h <;> rw [h] <;> rfl
      rw [e1]
      have hg := cellsS_get (s := (0, 0)) (List.replicate n (0, 0)) (j / 2) (by rw [List.getElem?_replicate, if_pos (by omega)])
      have hd : j = j / 2 * 2 ∨ j = j / 2 * 2 + 1 := by omega
      have h3 : (cellsS (List.replicate n ((0 : Int), (0 : Int))))[j]? = some (.int .i64 0) := by
        rcases hd with hd | hd
        · rw [hd]; exact hg.1
        · rw [hd]; exact hg.2
      rw [List.getElem_toArray]
      have h4 : j < (cellsS (List.replicate n ((0 : Int), (0 : Int)))).length := by simpa using h2
      rw [List.getElem?_eq_getElem h4] at h3
      injection h3 with h3
      exact h3.symm
  exact h n

theorem Blk.setSpan {w : World} {g : Nat} {t : TypeId} {ss : List (Int × Int)} (h : Blk w g t (cellsS ss).toArray) (i : Nat) (s : Int × Int) :
    Blk ((w.setCell ⟨g, i * 2, none⟩ (.int .i64 s.1)).setCell ⟨g, i * 2 + 1, none⟩ (.int .i64 s.2)) g t (cellsS (ss.set i s)).toArray := by
  have := Blk.set_ (Blk.set_ h (i * 2) (.int .i64 s.1)) (i * 2 + 1) (.int .i64 s.2)
  rw [← cellsS_set]
  simpa using this
theorem Blk.spanAt_ {w : World} {g : Nat} {t : TypeId} {ss : List (Int × Int)} (h : Blk w g t (cellsS ss).toArray) {i : Nat} (hi : i < ss.length) :
    w.cell? ⟨g, i * 2, none⟩ = some (.int .i64 (ss.getD i (0, 0)).1) ∧ w.cell? ⟨g, i * 2 + 1, none⟩ = some (.int .i64 (ss.getD i (0, 0)).2) := by
  have hs : ss[i]? = some (ss.getD i (0, 0)) := by
    rw [List.getD_eq_getElem?_getD, List.getElem?_eq_getElem hi]
    rfl
  obtain ⟨g0, g1⟩ := cellsS_get ss i hs
  exact ⟨by rw [h.cell]; simpa using g0, by rw [h.cell]; simpa using g1⟩
theorem KeptBut.span {q : Nat} {w w' : World} (h : KeptBut q w w') (i j : Nat) (u v : Value) : KeptBut q w ((w'.setCell ⟨q, i, none⟩ u).setCell ⟨q, j, none⟩ v) := (h.set i u).set j v
/-- The operators' table. -/
def opCells : Array Value := #[.nilFunc, .nilFunc, .nilFunc, .func (.func 94) #[] #[], .func (.func 95) #[] #[], .func (.func 96) #[] #[],
  .func (.func 97) #[] #[], .func (.func 98) #[] #[], .func (.func 99) #[] #[], .func (.func 100) #[] #[],
  .func (.func 101) #[] #[], .func (.func 102) #[] #[], .func (.func 103) #[] #[]]

theorem kids1 {l : List Int} (h : (l.length : Int) = 1) : ∃ a, l = [a] := List.length_eq_one_iff.1 (by omega)
theorem kids2 {l : List Int} (h : (l.length : Int) = 2) : ∃ a b, l = [a, b] := by
  rcases l with _ | ⟨a, _ | ⟨b, _ | ⟨c, l⟩⟩⟩
  · simp at h
  · simp at h
  · exact ⟨a, b, rfl⟩
  · simp at h; omega
theorem kids3 {l : List Int} (h : (l.length : Int) = 3) : ∃ a b c, l = [a, b, c] := by
  rcases l with _ | ⟨a, _ | ⟨b, _ | ⟨c, _ | ⟨d, l⟩⟩⟩⟩
  · simp at h
  · simp at h
  · simp at h
  · exact ⟨a, b, c, rfl⟩
  · simp at h; omega
theorem formed_ops {x : Nod} (h : formedL x = true) : (x.kids.length : Int) = operands x.op := by
  unfold formedL at h
  cases hd : decide (operands x.op = x.kids.length)
  · rw [hd] at h; simp at h
  · exact (of_decide_eq_true hd).symm
theorem span_last (all : List (Int × Int)) (s : Int × Int) : (all ++ [s]).getD all.length (0, 0) = s := by
  rw [List.getD_eq_getElem?_getD, List.getElem?_append_right (Nat.le_refl _), Nat.sub_self]
  rfl

/-- What Bounds leaves. -/
def BndPost (w : World) (r : Int × Int × Int) (e : Ending) (w' : World) : Prop := e = .returned (.tuple #[.int .i64 r.1, .int .i64 r.2.1, .int .i64 r.2.2]) ∧ Below w.heap.size w w'

set_option maxHeartbeats 40000000 in
set_option maxRecDepth 20000 in
theorem bounds_any (A : Option Addr) (c : Nat) (e : List Nod) (A2 : Option Addr) (n2 c2 : Nat) (rs : List Rng) (w : World) (he : ExprAt w w.heap.size A e) (hen : ∀ x ∈ e, x.name.size ≤ maxLen) (hem : e.length ≤ maxLen)
    (hr : RRg w w.heap.size A2 n2 rs) (hrn : n2 ≤ maxLen) (hrm : ∀ r ∈ rs, r.name.size ≤ maxLen) :
    Calls Tryz.prog 49 #[.slice A e.length c, .slice A2 n2 c2] w (BndPost w (boundsL e rs)) := by
  obtain ⟨res, hres⟩ : ∃ res, boundsL e rs = res := ⟨_, rfl⟩
  rw [hres]
  have HE := hide he
  have HEN := hide hen
  have HRES : Hid (boundsL e rs = res) := hres
  clear he hres hen
  go_enter Tryz.func49, Tryz.ntmps49
  go_wp2_with fail
  refine (ranges_any A2 n2 c2 rs w hr hrn hrm).mono ?_
  rintro en w1 ⟨m, rfl, hb1, hm⟩
  have HM := hide hm
  clear hm
  cases hv : validRs rs
  · obtain rfl : (0, 0, 1) = res := by
      rw [← HRES.out]
      unfold boundsL
      rw [if_pos (.inl hv)]
    clear HRES HM hv
    go_wp2
    go_ret3
    exact ⟨rfl, hb1⟩
  · have HV := hide hv
    have he1 := HE.out.next hb1
    clear hv
    go_wp2_with fail
    refine (valid_any A c e w1 he1 HEN.out hem).mono ?_
    rintro en w2 ⟨rfl, hb2⟩
    have hb02 := hb1.trans (hb2.mono hb1.size)
    cases hv2 : validL e
    · obtain rfl : (0, 0, 1) = res := by
        rw [← HRES.out]
        unfold boundsL
        rw [if_pos (.inr hv2)]
      clear HRES HM hv2
      go_wp2
      go_ret3
      exact ⟨rfl, hb02⟩
    · obtain ⟨gm, rfl, hgm, hRM1⟩ := HM.out HV.out
      have HV2 := hide hv2
      obtain ⟨hl1, hl300, hnod⟩ := valid_nodes hv2
      have HNOD := hide hnod
      have HRM2 := hide (hRM1.kept (hb2.block gm hRM1.lt))
      have HE2 := hide ((HE.out.below hb1).below (hb2.mono hb1.size))
      have hgm2 : gm < w2.heap.size := Nat.lt_of_lt_of_le hRM1.lt hb2.size
      clear hv2 HM hnod hRM1 he1 hb1 hb2 HE
      have hmk := fun (w : World) => make_runS (P := Tryz.prog) 146 149 (.agg #[.int .i64 0, .int .i64 0]) 2 16 Tryz.underlying146 span_info e.length (by omega) (by omega) w
      go_upto_region 5 with (fail)
      have hB3 : Blk (w2.alloc (Obj.cells opCells 148)) w2.heap.size 148 opCells := Blk.new _ _ _
      have HRM3 : Hid (RM (w2.alloc (Obj.cells opCells 148)) gm rs) := hide (HRM2.out.kept (Below.heap_alloc _ _ _ hgm2))
      have HE3 : Hid (ExprAt (w2.alloc (Obj.cells opCells 148)) w.heap.size A e) := hide (HE2.out.keep (fun p hp => World.cell?_alloc_lt w2 _ p (Nat.lt_of_lt_of_le hp hb02.size)))
      have hb03 : Below w.heap.size w (w2.alloc (Obj.cells opCells 148)) := hb02.alloc hb02.size _
      have hgo : gm < w2.heap.size := hgm2
      have hwo : w.heap.size ≤ w2.heap.size := hb02.size
      unfold opCells at hB3 HRM3 HE3 hb03
      generalize w2.alloc (Obj.cells #[.nilFunc, .nilFunc, .nilFunc, .func (.func 94) #[] #[], .func (.func 95) #[] #[], .func (.func 96) #[] #[],
        .func (.func 97) #[] #[], .func (.func 98) #[] #[], .func (.func 99) #[] #[], .func (.func 100) #[] #[],
        .func (.func 101) #[] #[], .func (.func 102) #[] #[], .func (.func 103) #[] #[]] 148) = w3 at hB3 HRM3 HE3 hb03 ⊢
      generalize w2.heap.size = go at hB3 hgo hwo ⊢
      clear HRM2 HE2 hb02 hgm2
      have hl3 := hB3.lt
      have hga : Blk (w3.alloc (Obj.cells (madeCells #[.int .i64 0, .int .i64 0] (e.length * 2)) 149)) w3.heap.size 149 (cellsS (padS e.length [])).toArray := by
        rw [← made_span]
        exact Blk.new _ _ _
      have HB4 := hide (hB3.alloc (Obj.cells (madeCells #[.int .i64 0, .int .i64 0] (e.length * 2)) 149))
      have HRM4 := hide (HRM3.out.kept (Below.heap_alloc w3 (Obj.cells (madeCells #[.int .i64 0, .int .i64 0] (e.length * 2)) 149) gm HRM3.out.lt))
      have HE4 : Hid (ExprAt (w3.alloc (Obj.cells (madeCells #[.int .i64 0, .int .i64 0] (e.length * 2)) 149)) w.heap.size A e) := hide (HE3.out.keep (fun p hp => World.cell?_alloc_lt w3 _ p (Nat.lt_of_lt_of_le hp hb03.size)))
      have hb04 : Below w.heap.size w (w3.alloc (Obj.cells (madeCells #[.int .i64 0, .int .i64 0] (e.length * 2)) 149)) := hb03.alloc hb03.size _
      have hwa := hb03.size
      clear hB3 HRM3 HE3 hb03
      go_upto_region 6 with (fail)
      generalize w3.alloc (Obj.cells (madeCells #[.int .i64 0, .int .i64 0] (e.length * 2)) 149) = w4 at hga HB4 HRM4 HE4 hb04 ⊢
      generalize w3.heap.size = ga at hga hl3 hwa ⊢
      clear hmk
      have HBE : Hid (∀ r, goB rs [] e = .error r → ((0, 0, r) : Int × Int × Int) = res) := hide (fun r hr => by
        rw [← HRES.out]
        unfold boundsL
        rw [if_neg (by rw [HV.out, HV2.out]; simp), hr])
      go_wp2
      go_loopw [37] (fun i wr => ∃ (k : Nat) (all : List (Int × Int)), k ≤ e.length ∧ i = .int .i64 k ∧ goB rs [] (e.take k) = .ok all ∧ Blk wr ga 149 (cellsS (padS e.length all)).toArray ∧ KeptBut ga w4 wr) (fun i _ => e.length - (intOf i).toNat)
      case atStart => exact ⟨0, [], Nat.zero_le _, rfl, rfl, hga, KeptBut.refl _ _⟩
      case round =>
        clear hga
        obtain ⟨k, all, hk, rfl, hgo', hga, hK⟩ := hrel
        have hal : all.length = k := by
          have := go_len _ _ _ hgo'
          simp at this
          omega
        have HGO := hide hgo'
        have HAL := hide hal
        have l4 := hK.size
        have hRMr := HRM4.out.kept (hK.block gm HRM4.out.lt (by omega))
        have hOPr := hK.blk HB4.out (by omega)
        have hbr : Below w.heap.size w wr := hb04.trans (hK.below hwa hb04.size)
        have hEr := HE4.out.below (hK.below hwa hb04.size)
        have hgal := hga.lt
        have HGA := hide hga
        have HK := hide hK
        have HR5 := hide hRMr
        have HO5 := hide hOPr
        clear hgo' hal hga hK hRMr hOPr
        by_cases hlt : k < e.length
        · obtain ⟨be, offe, K, kc, rfl, hbe, x0, x1, x2, x3, hKd⟩ := hEr.at_ hlt
          have hnk := HNOD.out k hlt
          have hxn : (nodAt e k).name.size ≤ maxLen := HEN.out _ (List.mem_of_getElem? (nodAt_get hlt))
          have HST := hide (fun (s : Int × Int) (hs : stepB rs all (nodAt e k) = .ok s) => goB_next hlt HGO.out hs)
          have HER := hide (fun (r : Int) (hs : stepB rs all (nodAt e k) = .error r) => goB_stop hlt HGO.out hs)
          generalize nodAt e k = x at x0 x1 x2 x3 hKd hnk hxn HST HER
          have HF := hide hnk.1
          have HKI := hide hnk.2
          have HKD := hide hKd
          have hB5 : Blk (wr.alloc (Obj.cells #[.int .i64 x.op, .int .i64 x.n, .string x.name, .slice K x.kids.length kc] 56)) wr.heap.size 56 #[.int .i64 x.op, .int .i64 x.n, .string x.name, .slice K x.kids.length kc] := Blk.new _ _ _
          have hb5 : Below wr.heap.size wr (wr.alloc (Obj.cells #[.int .i64 x.op, .int .i64 x.n, .string x.name, .slice K x.kids.length kc] 56)) := (Below.refl _ _).alloc (Nat.le_refl _) _
          have hbel : be < wr.heap.size := by omega
          clear hnk hKd hEr
          go_upto_region 9 with (fail)
          generalize wr.alloc (Obj.cells #[.int .i64 x.op, .int .i64 x.n, .string x.name, .slice K x.kids.length kc] 56) = w5 at hB5 hb5 ⊢
          obtain ⟨c0, c1, c2', c3, _, _, _, _⟩ := blk4 hB5
          have HK5 := hide (HK.out.trans (KeptBut.of_below hb5))
          have HGA5 := hide (HGA.out.below hb5 hgal)
          have HRM5 := hide (HR5.out.kept (hb5.block gm HR5.out.lt))
          have HOP5 := hide (HO5.out.below hb5 HO5.out.lt)
          have HKD5 : Hid (RI w5 w.heap.size K x.kids.length x.kids) := hide (HKD.out.below (hb5.mono hbr.size))
          have hb05 := hbr.trans (hb5.mono hbr.size)
          have hgn : ga < wr.heap.size := hgal
          obtain ⟨s0, s1⟩ := HGA5.out.spanAt_ (i := k) (by rw [padS_len (by rw [HAL.out]; exact hk)]; exact hlt)
          have fa0 := HGA5.out.frozen (k * 2)
          have fa1 := HGA5.out.frozen (k * 2 + 1)
          have hl5 := hb5.size
          clear x0 x1 x2 x3 HK HGA HR5 HO5 HKD hb5 hbel
          generalize (padS e.length all).getD k (0, 0) = sp at s0 s1
          obtain ⟨sp0, sp1⟩ := sp
          dsimp only at s0 s1
          by_cases h1 : x.op = 1
          · have hst : stepB rs all x = .ok (x.n, x.n) := by
              unfold stepB
              rw [if_pos h1]
            have HGN := hide (HST.out _ hst)
            rw [h1] at c0
            clear hst
            have r6 := HGA5.out.setSpan k (x.n, x.n)
            rw [← HAL.out, padS_set (by rw [HAL.out]; exact hlt), HAL.out] at r6
            have R6 := hide r6
            have K6 := hide (HK5.out.span (k * 2) (k * 2 + 1) (.int .i64 x.n) (.int .i64 x.n))
            clear r6
            go_wp2
            go_roundw
            case rel => exact ⟨k + 1, all ++ [(x.n, x.n)], by omega, by go_num, HGN.out, R6.out, K6.out⟩
            case measure => simp [intOf]; omega
          · by_cases h2 : x.op = 2
            · have hd : distinctR rs = true := by
                have := HV.out
                rw [valid_split, Bool.and_eq_true] at this
                exact this.2
              have hlk := HRM5.out.look_ hd hxn
              rw [h2] at c0
              have hst : stepB rs all x = match look rs x.name with | some s => .ok s | none => .error 7 := by
                unfold stepB
                rw [if_neg h1, if_pos h2]
                cases look rs x.name <;> rfl
              cases hl : look rs x.name with
              | none =>
                rw [hl] at hlk hst
                have hlk' : (Instr.lookup 141 (.map (some gm)) (.string x.name) true).run Tryz.prog w5 = .ok (.tuple #[.agg #[.int .i64 0, .int .i64 0], .bool false]) w5 := hlk
                have HRS := hide (HBE.out 7 (HER.out 7 hst))
                clear hlk hst hd hl HST HER
                go_wp2
                go_ret3
                rw [← HRS.out]
                exact ⟨rfl, hb05.alloc hb05.size _⟩
              | some s =>
                rw [hl] at hlk hst
                have HGN := hide (HST.out s hst)
                obtain ⟨t1, t2⟩ := s
                have hlk' : (Instr.lookup 141 (.map (some gm)) (.string x.name) true).run Tryz.prog w5 = .ok (.tuple #[.agg #[.int .i64 t1, .int .i64 t2], .bool true]) w5 := hlk
                clear hlk hst hd hl HST HER
                have hb6 : Below w5.heap.size w5 (w5.alloc (Obj.cells #[.int .i64 t1, .int .i64 t2] 149)) := (Below.refl _ _).alloc (Nat.le_refl _) _
                have HB6 := hide (Blk.new w5 149 #[.int .i64 t1, .int .i64 t2])
                go_upto_region 14 with (fail)
                generalize w5.alloc (Obj.cells #[.int .i64 t1, .int .i64 t2] 149) = w6 at hb6 HB6 ⊢
                have HGA6 := hide (HGA5.out.below hb6 (by omega))
                have HK6 := hide (HK5.out.trans (KeptBut.of_below hb6))
                have d0 : w6.cell? ⟨w5.heap.size, 0, none⟩ = some (.int .i64 t1) := HB6.out.cell 0
                have d1 : w6.cell? ⟨w5.heap.size, 1, none⟩ = some (.int .i64 t2) := HB6.out.cell 1
                have s0' : w6.cell? ⟨ga, k * 2, none⟩ = some (.int .i64 sp0) := (hb6.cell (p := ⟨ga, k * 2, none⟩) (by show ga < _; omega)).trans s0
                have s1' : w6.cell? ⟨ga, k * 2 + 1, none⟩ = some (.int .i64 sp1) := (hb6.cell (p := ⟨ga, k * 2 + 1, none⟩) (by show ga < _; omega)).trans s1
                have fa0' := HGA6.out.frozen (k * 2)
                have fa1' := HGA6.out.frozen (k * 2 + 1)
                have r6 := HGA6.out.setSpan k (t1, t2)
                rw [← HAL.out, padS_set (by rw [HAL.out]; exact hlt), HAL.out] at r6
                have R6 := hide r6
                have K6 := hide (HK6.out.span (k * 2) (k * 2 + 1) (.int .i64 t1) (.int .i64 t2))
                clear r6 s0 s1 fa0 fa1 c0 c1 c2' c3 hlk'
                go_wp2
                go_roundw
                case rel => exact ⟨k + 1, all ++ [(t1, t2)], by omega, by go_num, HGN.out, R6.out, K6.out⟩
                case measure => simp [intOf]; omega
            · have hok := formed_ok HF.out
              have hop3 : 3 ≤ x.op := by have := hok.1; omega
              have hop12 : x.op ≤ 12 := hok.2.1
              have h1' : (x.op == 1) = false := beq_eq_false_iff_ne.2 h1
              have h2' : (x.op == 2) = false := beq_eq_false_iff_ne.2 h2
              have hk3 := formed_kids HF.out
              have HIN := hide (go_in HV.out (e.take k) [] all (fun s hs => absurd hs List.not_mem_nil) (fun y hy => by
                obtain ⟨i, hi, rfl⟩ := List.getElem_of_mem (List.mem_of_mem_take hy)
                have := HNOD.out i hi
                rw [← nodAt_get' hi] at this
                exact formed_ok this.1) HGO.out)
              have hw5 : w.heap.size ≤ w5.heap.size := hb05.size
              clear hok
              go_wp2
              obtain ⟨wo, rfl⟩ : ∃ wo : World, wo = wr := ⟨_, rfl⟩
              go_loopw [15, 72] (fun v i wq => ∃ (j : Nat) (A3 : Option Addr) (c3 : Nat), j ≤ x.kids.length ∧ i = .int .i64 j ∧ v = .slice A3 j c3 ∧ Own wq w5.heap.size 149 2 A3 j c3 (cellsS ((x.kids.take j).map (spanAt all))) ∧ Below w5.heap.size w5 wq) (fun _ i _ => x.kids.length - (intOf i).toNat)
              case atStart => exact ⟨0, none, 0, Nat.zero_le _, rfl, rfl, Own.nil _ _ _ _, Below.refl _ _⟩
              case round =>
                obtain ⟨j, A3, c3v, hj, rfl, rfl, hown, hbq⟩ := hrel
                have HBQ := hide hbq
                have lq := hbq.size
                by_cases hjl : j < x.kids.length
                · obtain ⟨bk, offk, rfl, hbk, gk⟩ := HKD5.out.at_ (k := j) hjl
                  have hkm : nth x.kids j ∈ x.kids := nth_mem hjl
                  have hkb := HKI.out _ hkm
                  obtain ⟨q, hq⟩ := Int.eq_ofNat_of_zero_le hkb.1
                  rw [hq] at gk hkb
                  have hqk : q < k := by omega
                  have HT : Hid ((x.kids.take (j + 1)).map (spanAt all) = (x.kids.take j).map (spanAt all) ++ [all.getD q (0, 0)]) := by
                    show _ = _
                    rw [nth_take hjl, List.map_append, hq]
                    rfl
                  have g0 : wr.cell? ⟨bk, offk + j, none⟩ = some (.int .i64 (q : Int)) := (hbq.cell (p := ⟨bk, offk + j, none⟩) (by show bk < _; omega)).trans gk
                  obtain ⟨a0, a1⟩ := (HGA5.out.below hbq (by omega)).spanAt_ (i := q) (by rw [padS_len (by rw [HAL.out]; exact hk)]; omega)
                  rw [padS_get (by rw [HAL.out]; exact hqk)] at a0 a1
                  generalize all.getD q (0, 0) = sq at a0 a1 HT
                  obtain ⟨sq1, sq2⟩ := sq
                  dsimp only at a0 a1 HT
                  have hqe : q < e.length := by omega
                  have HO := hide hown
                  clear hown hkm hkb hq gk s0 s1 c0 c1 c2' c3
                  have RR : Hid (Reads (wr.alloc (Obj.cells #[.int .i64 sq1, .int .i64 sq2] 149)) (wr.heap.size + 1) 2 (some ⟨wr.heap.size, 0, none⟩) 1 (cellsS [(sq1, sq2)])) := hide (reads_new wr #[.int .i64 sq1, .int .i64 sq2] 149 2 1 rfl)
                  have HO7 := hide (HO.out.alloc (Obj.cells #[.int .i64 sq1, .int .i64 sq2] 149))
                  have HB7 : Hid (Below w5.heap.size w5 (wr.alloc (Obj.cells #[.int .i64 sq1, .int .i64 sq2] 149))) := hide (hbq.alloc lq _)
                  have l7 : w5.heap.size ≤ (wr.alloc (Obj.cells #[.int .i64 sq1, .int .i64 sq2] 149)).heap.size := by simp; omega
                  clear HO hbq lq
                  go_wp2_with (at_builtin; refine wpList_app rfl (.tmp 76) (.tmp 81) 147 rfl w5.heap.size 149 (.agg #[.int .i64 0, .int .i64 0]) 2 16 Tryz.underlying147 span_info rfl (by omega) A3 j c3v _ rfl HO7.out _ _ 1 _ _ rfl RR.out (cellsS_one _) (by unfold maxLen; omega) (by omega) l7 ?_; intro A8 c8 w8 hown8 hb8 hg8; have HO8 := hide hown8; have HB8 := hide (HB7.out.trans hb8); clear hown8 hb8 hg8)
                  go_roundw
                  case rel => exact ⟨j + 1, A8, c8, by omega, by go_num, rfl, by rw [HT.out, cellsS_snoc]; exact HO8.out, HB8.out⟩
                  case measure => simp [intOf]; omega
                · obtain rfl : j = x.kids.length := by omega
                  rw [List.take_length] at hown
                  have hrs : RSp wr wr.heap.size A3 x.kids.length (x.kids.map (spanAt all)) := hown.reads
                  have hst : stepB rs all x = if beyondL (nodeB x.op (spanAt all (kidAt x 0)) (spanAt all (kidAt x 1)) (spanAt all (kidAt x 2))).1 || beyondL (nodeB x.op (spanAt all (kidAt x 0)) (spanAt all (kidAt x 1)) (spanAt all (kidAt x 2))).2 then .error 9 else .ok (nodeB x.op (spanAt all (kidAt x 0)) (spanAt all (kidAt x 1)) (spanAt all (kidAt x 2))) := by
                    unfold stepB
                    rw [if_neg h1, if_neg h2]
                  have hops := formed_ops HF.out
                  have d0 : wr.cell? ⟨wo.heap.size, 0, none⟩ = some (.int .i64 x.op) := (hbq.cell (p := ⟨wo.heap.size, 0, none⟩) hB5.lt).trans c0
                  have HGA6 := hide (HGA5.out.below hbq (by omega))
                  have HOP6 := hide (HOP5.out.below hbq HOP5.out.lt)
                  have HK6 := hide (HK5.out.trans (KeptBut.of_below hbq))
                  have hb06 := hb05.trans (hbq.mono hw5)
                  have s0' : wr.cell? ⟨ga, k * 2, none⟩ = some (.int .i64 sp0) := (hbq.cell (p := ⟨ga, k * 2, none⟩) (by show ga < _; omega)).trans s0
                  have s1' : wr.cell? ⟨ga, k * 2 + 1, none⟩ = some (.int .i64 sp1) := (hbq.cell (p := ⟨ga, k * 2 + 1, none⟩) (by show ga < _; omega)).trans s1
                  have HST2 := hide hst
                  have hz6 : ga < wr.heap.size := by omega
                  clear hown hst s0 s1 c0 c1 c2' c3 fa0 fa1 HBQ hbq
                  have hcase : x.op = 3 ∨ x.op = 4 ∨ x.op = 5 ∨ x.op = 6 ∨ x.op = 7 ∨ x.op = 8 ∨ x.op = 9 ∨ x.op = 10 ∨ x.op = 11 ∨ x.op = 12 := by omega
                  rcases hcase with hop | hop | hop | hop | hop | hop | hop | hop | hop | hop
                  · have hc0 : Hid (wr.cell? ⟨go, 3, none⟩ = some (.func (.func 94) #[] #[])) := HOP6.out.cell 3
                    obtain ⟨ka, kb, hkids⟩ := kids2 (by rw [hops, hop]; rfl : (x.kids.length : Int) = 2)
                    have hk0 : kidAt x 0 = ka := by unfold kidAt; rw [hkids]; rfl
                    have hk1 : kidAt x 1 = kb := by unfold kidAt; rw [hkids]; rfl
                    rw [hop, hk0, hk1] at HST2
                    have HKL : Hid (x.kids.length = 2) := by show _ = _; rw [hkids]; rfl
                    have hrs2 : RSp wr wr.heap.size A3 x.kids.length [spanAt all ka, spanAt all kb] := by
                      have hh := hrs
                      rw [show x.kids.map (spanAt all) = [spanAt all ka, spanAt all kb] from by rw [hkids]; rfl] at hh
                      exact hh
                    have HC : Hid (Calls Tryz.prog 94 #[.slice A3 x.kids.length c3v] wr fun e w' => e = .returned (spanV (nodeB 3 (spanAt all ka) (spanAt all kb) (spanAt all (kidAt x 2)))) ∧ Below wr.heap.size wr w') := hide (add_any A3 _ c3v (spanAt all ka) (spanAt all kb) wr hrs2 (span_in HIN.out ka) (span_in HIN.out kb))
                    rw [hop] at d0
                    generalize nodeB 3 (spanAt all ka) (spanAt all kb) (spanAt all (kidAt x 2)) = sr at HST2 HC
                    clear hrs hrs2 hkids hk0 hk1
                    have hc0' := hc0.out
                    clear HIN
                    go_wp2_with fail
                    refine HC.out.mono ?_
                    rintro en w7 ⟨rfl, hb7⟩
                    clear HC hc0 hc0' d0
                    have HGA7 := hide (HGA6.out.below hb7 hz6)
                    have HK7 := hide (HK6.out.trans (KeptBut.of_below hb7))
                    have hb07 := hb06.trans (hb7.mono hb06.size)
                    have t0 : w7.cell? ⟨ga, k * 2, none⟩ = some (.int .i64 sp0) := (hb7.cell (p := ⟨ga, k * 2, none⟩) hz6).trans s0'
                    have t1 : w7.cell? ⟨ga, k * 2 + 1, none⟩ = some (.int .i64 sp1) := (hb7.cell (p := ⟨ga, k * 2 + 1, none⟩) hz6).trans s1'
                    have fa0 := HGA7.out.frozen (k * 2)
                    have fa1 := HGA7.out.frozen (k * 2 + 1)
                    have r6 := HGA7.out.setSpan k sr
                    rw [← HAL.out, padS_set (by rw [HAL.out]; exact hlt), HAL.out] at r6
                    have R6 := hide r6
                    have K6 := hide (HK7.out.span (k * 2) (k * 2 + 1) (.int .i64 sr.1) (.int .i64 sr.2))
                    have hb8 : Below w.heap.size w ((w7.setCell ⟨ga, k * 2, none⟩ (.int .i64 sr.1)).setCell ⟨ga, k * 2 + 1, none⟩ (.int .i64 sr.2)) := (hb07.setCell (p := ⟨ga, k * 2, none⟩) hwa _).setCell (p := ⟨ga, k * 2 + 1, none⟩) hwa _
                    clear r6 s0' s1' HGA6 HOP6 HK6 hb06 hb7
                    go_upto_region 24 with (fail)
                    generalize (w7.setCell ⟨ga, k * 2, none⟩ (.int .i64 sr.1)).setCell ⟨ga, k * 2 + 1, none⟩ (.int .i64 sr.2) = w8 at R6 K6 hb8 ⊢
                    obtain ⟨v0, v1⟩ := R6.out.spanAt_ (i := k) (by rw [padS_len (by rw [List.length_append, HAL.out]; exact hlt)]; exact hlt)
                    rw [padS_get (by rw [List.length_append, HAL.out]; exact Nat.lt_succ_self _), ← HAL.out, span_last, HAL.out] at v0 v1
                    clear t0 t1 fa0 fa1 HGA7 HK7
                    cases hy1 : beyondL sr.1
                    · cases hy2 : beyondL sr.2
                      · have HGN := hide (HST.out sr (by rw [HST2.out, hy1, hy2]; rfl))
                        have HY1 := hide hy1
                        have HY2 := hide hy2
                        clear hy1 hy2
                        go_wp2_with fail
                        refine (beyond_is _ _ _ HY1.out).mono ?_
                        rintro en w9 ⟨rfl, rfl⟩
                        go_wp2_with fail
                        refine (beyond_is _ _ _ HY2.out).mono ?_
                        rintro en w9 ⟨rfl, rfl⟩
                        go_wp2
                        go_roundw
                        case rel => exact ⟨k + 1, all ++ [sr], by omega, by go_num, HGN.out, R6.out, K6.out⟩
                        case measure => simp [intOf]; omega
                      · have HRS := hide (HBE.out 9 (HER.out 9 (by rw [HST2.out, hy1, hy2]; rfl)))
                        have HY1 := hide hy1
                        have HY2 := hide hy2
                        clear hy1 hy2
                        go_wp2_with fail
                        refine (beyond_is _ _ _ HY1.out).mono ?_
                        rintro en w9 ⟨rfl, rfl⟩
                        go_wp2_with fail
                        refine (beyond_is _ _ _ HY2.out).mono ?_
                        rintro en w9 ⟨rfl, rfl⟩
                        go_wp2
                        go_ret3
                        rw [← HRS.out]
                        exact ⟨rfl, hb8⟩
                    · have HRS := hide (HBE.out 9 (HER.out 9 (by rw [HST2.out, hy1]; rfl)))
                      have HY1 := hide hy1
                      clear hy1
                      go_wp2_with fail
                      refine (beyond_is _ _ _ HY1.out).mono ?_
                      rintro en w9 ⟨rfl, rfl⟩
                      go_wp2
                      go_ret3
                      rw [← HRS.out]
                      exact ⟨rfl, hb8⟩
                  · have hc0 : Hid (wr.cell? ⟨go, 4, none⟩ = some (.func (.func 95) #[] #[])) := HOP6.out.cell 4
                    obtain ⟨ka, kb, hkids⟩ := kids2 (by rw [hops, hop]; rfl : (x.kids.length : Int) = 2)
                    have hk0 : kidAt x 0 = ka := by unfold kidAt; rw [hkids]; rfl
                    have hk1 : kidAt x 1 = kb := by unfold kidAt; rw [hkids]; rfl
                    rw [hop, hk0, hk1] at HST2
                    have HKL : Hid (x.kids.length = 2) := by show _ = _; rw [hkids]; rfl
                    have hrs2 : RSp wr wr.heap.size A3 x.kids.length [spanAt all ka, spanAt all kb] := by
                      have hh := hrs
                      rw [show x.kids.map (spanAt all) = [spanAt all ka, spanAt all kb] from by rw [hkids]; rfl] at hh
                      exact hh
                    have HC : Hid (Calls Tryz.prog 95 #[.slice A3 x.kids.length c3v] wr fun e w' => e = .returned (spanV (nodeB 4 (spanAt all ka) (spanAt all kb) (spanAt all (kidAt x 2)))) ∧ Below wr.heap.size wr w') := hide (sub_any A3 _ c3v (spanAt all ka) (spanAt all kb) wr hrs2 (span_in HIN.out ka) (span_in HIN.out kb))
                    rw [hop] at d0
                    generalize nodeB 4 (spanAt all ka) (spanAt all kb) (spanAt all (kidAt x 2)) = sr at HST2 HC
                    clear hrs hrs2 hkids hk0 hk1
                    have hc0' := hc0.out
                    clear HIN
                    go_wp2_with fail
                    refine HC.out.mono ?_
                    rintro en w7 ⟨rfl, hb7⟩
                    clear HC hc0 hc0' d0
                    have HGA7 := hide (HGA6.out.below hb7 hz6)
                    have HK7 := hide (HK6.out.trans (KeptBut.of_below hb7))
                    have hb07 := hb06.trans (hb7.mono hb06.size)
                    have t0 : w7.cell? ⟨ga, k * 2, none⟩ = some (.int .i64 sp0) := (hb7.cell (p := ⟨ga, k * 2, none⟩) hz6).trans s0'
                    have t1 : w7.cell? ⟨ga, k * 2 + 1, none⟩ = some (.int .i64 sp1) := (hb7.cell (p := ⟨ga, k * 2 + 1, none⟩) hz6).trans s1'
                    have fa0 := HGA7.out.frozen (k * 2)
                    have fa1 := HGA7.out.frozen (k * 2 + 1)
                    have r6 := HGA7.out.setSpan k sr
                    rw [← HAL.out, padS_set (by rw [HAL.out]; exact hlt), HAL.out] at r6
                    have R6 := hide r6
                    have K6 := hide (HK7.out.span (k * 2) (k * 2 + 1) (.int .i64 sr.1) (.int .i64 sr.2))
                    have hb8 : Below w.heap.size w ((w7.setCell ⟨ga, k * 2, none⟩ (.int .i64 sr.1)).setCell ⟨ga, k * 2 + 1, none⟩ (.int .i64 sr.2)) := (hb07.setCell (p := ⟨ga, k * 2, none⟩) hwa _).setCell (p := ⟨ga, k * 2 + 1, none⟩) hwa _
                    clear r6 s0' s1' HGA6 HOP6 HK6 hb06 hb7
                    go_upto_region 24 with (fail)
                    generalize (w7.setCell ⟨ga, k * 2, none⟩ (.int .i64 sr.1)).setCell ⟨ga, k * 2 + 1, none⟩ (.int .i64 sr.2) = w8 at R6 K6 hb8 ⊢
                    obtain ⟨v0, v1⟩ := R6.out.spanAt_ (i := k) (by rw [padS_len (by rw [List.length_append, HAL.out]; exact hlt)]; exact hlt)
                    rw [padS_get (by rw [List.length_append, HAL.out]; exact Nat.lt_succ_self _), ← HAL.out, span_last, HAL.out] at v0 v1
                    clear t0 t1 fa0 fa1 HGA7 HK7
                    cases hy1 : beyondL sr.1
                    · cases hy2 : beyondL sr.2
                      · have HGN := hide (HST.out sr (by rw [HST2.out, hy1, hy2]; rfl))
                        have HY1 := hide hy1
                        have HY2 := hide hy2
                        clear hy1 hy2
                        go_wp2_with fail
                        refine (beyond_is _ _ _ HY1.out).mono ?_
                        rintro en w9 ⟨rfl, rfl⟩
                        go_wp2_with fail
                        refine (beyond_is _ _ _ HY2.out).mono ?_
                        rintro en w9 ⟨rfl, rfl⟩
                        go_wp2
                        go_roundw
                        case rel => exact ⟨k + 1, all ++ [sr], by omega, by go_num, HGN.out, R6.out, K6.out⟩
                        case measure => simp [intOf]; omega
                      · have HRS := hide (HBE.out 9 (HER.out 9 (by rw [HST2.out, hy1, hy2]; rfl)))
                        have HY1 := hide hy1
                        have HY2 := hide hy2
                        clear hy1 hy2
                        go_wp2_with fail
                        refine (beyond_is _ _ _ HY1.out).mono ?_
                        rintro en w9 ⟨rfl, rfl⟩
                        go_wp2_with fail
                        refine (beyond_is _ _ _ HY2.out).mono ?_
                        rintro en w9 ⟨rfl, rfl⟩
                        go_wp2
                        go_ret3
                        rw [← HRS.out]
                        exact ⟨rfl, hb8⟩
                    · have HRS := hide (HBE.out 9 (HER.out 9 (by rw [HST2.out, hy1]; rfl)))
                      have HY1 := hide hy1
                      clear hy1
                      go_wp2_with fail
                      refine (beyond_is _ _ _ HY1.out).mono ?_
                      rintro en w9 ⟨rfl, rfl⟩
                      go_wp2
                      go_ret3
                      rw [← HRS.out]
                      exact ⟨rfl, hb8⟩
                  · have hc0 : Hid (wr.cell? ⟨go, 5, none⟩ = some (.func (.func 96) #[] #[])) := HOP6.out.cell 5
                    obtain ⟨ka, kb, hkids⟩ := kids2 (by rw [hops, hop]; rfl : (x.kids.length : Int) = 2)
                    have hk0 : kidAt x 0 = ka := by unfold kidAt; rw [hkids]; rfl
                    have hk1 : kidAt x 1 = kb := by unfold kidAt; rw [hkids]; rfl
                    rw [hop, hk0, hk1] at HST2
                    have HKL : Hid (x.kids.length = 2) := by show _ = _; rw [hkids]; rfl
                    have hrs2 : RSp wr wr.heap.size A3 x.kids.length [spanAt all ka, spanAt all kb] := by
                      have hh := hrs
                      rw [show x.kids.map (spanAt all) = [spanAt all ka, spanAt all kb] from by rw [hkids]; rfl] at hh
                      exact hh
                    have HC : Hid (Calls Tryz.prog 96 #[.slice A3 x.kids.length c3v] wr fun e w' => e = .returned (spanV (nodeB 5 (spanAt all ka) (spanAt all kb) (spanAt all (kidAt x 2)))) ∧ Below wr.heap.size wr w') := hide (mul_any A3 _ c3v (spanAt all ka) (spanAt all kb) wr hrs2 (span_in HIN.out ka) (span_in HIN.out kb))
                    rw [hop] at d0
                    generalize nodeB 5 (spanAt all ka) (spanAt all kb) (spanAt all (kidAt x 2)) = sr at HST2 HC
                    clear hrs hrs2 hkids hk0 hk1
                    have hc0' := hc0.out
                    clear HIN
                    go_wp2_with fail
                    refine HC.out.mono ?_
                    rintro en w7 ⟨rfl, hb7⟩
                    clear HC hc0 hc0' d0
                    have HGA7 := hide (HGA6.out.below hb7 hz6)
                    have HK7 := hide (HK6.out.trans (KeptBut.of_below hb7))
                    have hb07 := hb06.trans (hb7.mono hb06.size)
                    have t0 : w7.cell? ⟨ga, k * 2, none⟩ = some (.int .i64 sp0) := (hb7.cell (p := ⟨ga, k * 2, none⟩) hz6).trans s0'
                    have t1 : w7.cell? ⟨ga, k * 2 + 1, none⟩ = some (.int .i64 sp1) := (hb7.cell (p := ⟨ga, k * 2 + 1, none⟩) hz6).trans s1'
                    have fa0 := HGA7.out.frozen (k * 2)
                    have fa1 := HGA7.out.frozen (k * 2 + 1)
                    have r6 := HGA7.out.setSpan k sr
                    rw [← HAL.out, padS_set (by rw [HAL.out]; exact hlt), HAL.out] at r6
                    have R6 := hide r6
                    have K6 := hide (HK7.out.span (k * 2) (k * 2 + 1) (.int .i64 sr.1) (.int .i64 sr.2))
                    have hb8 : Below w.heap.size w ((w7.setCell ⟨ga, k * 2, none⟩ (.int .i64 sr.1)).setCell ⟨ga, k * 2 + 1, none⟩ (.int .i64 sr.2)) := (hb07.setCell (p := ⟨ga, k * 2, none⟩) hwa _).setCell (p := ⟨ga, k * 2 + 1, none⟩) hwa _
                    clear r6 s0' s1' HGA6 HOP6 HK6 hb06 hb7
                    go_upto_region 24 with (fail)
                    generalize (w7.setCell ⟨ga, k * 2, none⟩ (.int .i64 sr.1)).setCell ⟨ga, k * 2 + 1, none⟩ (.int .i64 sr.2) = w8 at R6 K6 hb8 ⊢
                    obtain ⟨v0, v1⟩ := R6.out.spanAt_ (i := k) (by rw [padS_len (by rw [List.length_append, HAL.out]; exact hlt)]; exact hlt)
                    rw [padS_get (by rw [List.length_append, HAL.out]; exact Nat.lt_succ_self _), ← HAL.out, span_last, HAL.out] at v0 v1
                    clear t0 t1 fa0 fa1 HGA7 HK7
                    cases hy1 : beyondL sr.1
                    · cases hy2 : beyondL sr.2
                      · have HGN := hide (HST.out sr (by rw [HST2.out, hy1, hy2]; rfl))
                        have HY1 := hide hy1
                        have HY2 := hide hy2
                        clear hy1 hy2
                        go_wp2_with fail
                        refine (beyond_is _ _ _ HY1.out).mono ?_
                        rintro en w9 ⟨rfl, rfl⟩
                        go_wp2_with fail
                        refine (beyond_is _ _ _ HY2.out).mono ?_
                        rintro en w9 ⟨rfl, rfl⟩
                        go_wp2
                        go_roundw
                        case rel => exact ⟨k + 1, all ++ [sr], by omega, by go_num, HGN.out, R6.out, K6.out⟩
                        case measure => simp [intOf]; omega
                      · have HRS := hide (HBE.out 9 (HER.out 9 (by rw [HST2.out, hy1, hy2]; rfl)))
                        have HY1 := hide hy1
                        have HY2 := hide hy2
                        clear hy1 hy2
                        go_wp2_with fail
                        refine (beyond_is _ _ _ HY1.out).mono ?_
                        rintro en w9 ⟨rfl, rfl⟩
                        go_wp2_with fail
                        refine (beyond_is _ _ _ HY2.out).mono ?_
                        rintro en w9 ⟨rfl, rfl⟩
                        go_wp2
                        go_ret3
                        rw [← HRS.out]
                        exact ⟨rfl, hb8⟩
                    · have HRS := hide (HBE.out 9 (HER.out 9 (by rw [HST2.out, hy1]; rfl)))
                      have HY1 := hide hy1
                      clear hy1
                      go_wp2_with fail
                      refine (beyond_is _ _ _ HY1.out).mono ?_
                      rintro en w9 ⟨rfl, rfl⟩
                      go_wp2
                      go_ret3
                      rw [← HRS.out]
                      exact ⟨rfl, hb8⟩
                  · have hc0 : Hid (wr.cell? ⟨go, 6, none⟩ = some (.func (.func 97) #[] #[])) := HOP6.out.cell 6
                    obtain ⟨ka, kb, hkids⟩ := kids2 (by rw [hops, hop]; rfl : (x.kids.length : Int) = 2)
                    have hk0 : kidAt x 0 = ka := by unfold kidAt; rw [hkids]; rfl
                    have hk1 : kidAt x 1 = kb := by unfold kidAt; rw [hkids]; rfl
                    rw [hop, hk0, hk1] at HST2
                    have HKL : Hid (x.kids.length = 2) := by show _ = _; rw [hkids]; rfl
                    have hrs2 : RSp wr wr.heap.size A3 x.kids.length [spanAt all ka, spanAt all kb] := by
                      have hh := hrs
                      rw [show x.kids.map (spanAt all) = [spanAt all ka, spanAt all kb] from by rw [hkids]; rfl] at hh
                      exact hh
                    have HC : Hid (Calls Tryz.prog 97 #[.slice A3 x.kids.length c3v] wr fun e w' => e = .returned (spanV (nodeB 6 (spanAt all ka) (spanAt all kb) (spanAt all (kidAt x 2)))) ∧ Below wr.heap.size wr w') := hide (div_any A3 _ c3v (spanAt all ka) (spanAt all kb) wr hrs2 (span_in HIN.out ka))
                    rw [hop] at d0
                    generalize nodeB 6 (spanAt all ka) (spanAt all kb) (spanAt all (kidAt x 2)) = sr at HST2 HC
                    clear hrs hrs2 hkids hk0 hk1
                    have hc0' := hc0.out
                    clear HIN
                    go_wp2_with fail
                    refine HC.out.mono ?_
                    rintro en w7 ⟨rfl, hb7⟩
                    clear HC hc0 hc0' d0
                    have HGA7 := hide (HGA6.out.below hb7 hz6)
                    have HK7 := hide (HK6.out.trans (KeptBut.of_below hb7))
                    have hb07 := hb06.trans (hb7.mono hb06.size)
                    have t0 : w7.cell? ⟨ga, k * 2, none⟩ = some (.int .i64 sp0) := (hb7.cell (p := ⟨ga, k * 2, none⟩) hz6).trans s0'
                    have t1 : w7.cell? ⟨ga, k * 2 + 1, none⟩ = some (.int .i64 sp1) := (hb7.cell (p := ⟨ga, k * 2 + 1, none⟩) hz6).trans s1'
                    have fa0 := HGA7.out.frozen (k * 2)
                    have fa1 := HGA7.out.frozen (k * 2 + 1)
                    have r6 := HGA7.out.setSpan k sr
                    rw [← HAL.out, padS_set (by rw [HAL.out]; exact hlt), HAL.out] at r6
                    have R6 := hide r6
                    have K6 := hide (HK7.out.span (k * 2) (k * 2 + 1) (.int .i64 sr.1) (.int .i64 sr.2))
                    have hb8 : Below w.heap.size w ((w7.setCell ⟨ga, k * 2, none⟩ (.int .i64 sr.1)).setCell ⟨ga, k * 2 + 1, none⟩ (.int .i64 sr.2)) := (hb07.setCell (p := ⟨ga, k * 2, none⟩) hwa _).setCell (p := ⟨ga, k * 2 + 1, none⟩) hwa _
                    clear r6 s0' s1' HGA6 HOP6 HK6 hb06 hb7
                    go_upto_region 24 with (fail)
                    generalize (w7.setCell ⟨ga, k * 2, none⟩ (.int .i64 sr.1)).setCell ⟨ga, k * 2 + 1, none⟩ (.int .i64 sr.2) = w8 at R6 K6 hb8 ⊢
                    obtain ⟨v0, v1⟩ := R6.out.spanAt_ (i := k) (by rw [padS_len (by rw [List.length_append, HAL.out]; exact hlt)]; exact hlt)
                    rw [padS_get (by rw [List.length_append, HAL.out]; exact Nat.lt_succ_self _), ← HAL.out, span_last, HAL.out] at v0 v1
                    clear t0 t1 fa0 fa1 HGA7 HK7
                    cases hy1 : beyondL sr.1
                    · cases hy2 : beyondL sr.2
                      · have HGN := hide (HST.out sr (by rw [HST2.out, hy1, hy2]; rfl))
                        have HY1 := hide hy1
                        have HY2 := hide hy2
                        clear hy1 hy2
                        go_wp2_with fail
                        refine (beyond_is _ _ _ HY1.out).mono ?_
                        rintro en w9 ⟨rfl, rfl⟩
                        go_wp2_with fail
                        refine (beyond_is _ _ _ HY2.out).mono ?_
                        rintro en w9 ⟨rfl, rfl⟩
                        go_wp2
                        go_roundw
                        case rel => exact ⟨k + 1, all ++ [sr], by omega, by go_num, HGN.out, R6.out, K6.out⟩
                        case measure => simp [intOf]; omega
                      · have HRS := hide (HBE.out 9 (HER.out 9 (by rw [HST2.out, hy1, hy2]; rfl)))
                        have HY1 := hide hy1
                        have HY2 := hide hy2
                        clear hy1 hy2
                        go_wp2_with fail
                        refine (beyond_is _ _ _ HY1.out).mono ?_
                        rintro en w9 ⟨rfl, rfl⟩
                        go_wp2_with fail
                        refine (beyond_is _ _ _ HY2.out).mono ?_
                        rintro en w9 ⟨rfl, rfl⟩
                        go_wp2
                        go_ret3
                        rw [← HRS.out]
                        exact ⟨rfl, hb8⟩
                    · have HRS := hide (HBE.out 9 (HER.out 9 (by rw [HST2.out, hy1]; rfl)))
                      have HY1 := hide hy1
                      clear hy1
                      go_wp2_with fail
                      refine (beyond_is _ _ _ HY1.out).mono ?_
                      rintro en w9 ⟨rfl, rfl⟩
                      go_wp2
                      go_ret3
                      rw [← HRS.out]
                      exact ⟨rfl, hb8⟩
                  · have hc0 : Hid (wr.cell? ⟨go, 7, none⟩ = some (.func (.func 98) #[] #[])) := HOP6.out.cell 7
                    obtain ⟨ka, kb, hkids⟩ := kids2 (by rw [hops, hop]; rfl : (x.kids.length : Int) = 2)
                    have hk0 : kidAt x 0 = ka := by unfold kidAt; rw [hkids]; rfl
                    have hk1 : kidAt x 1 = kb := by unfold kidAt; rw [hkids]; rfl
                    rw [hop, hk0, hk1] at HST2
                    have HKL : Hid (x.kids.length = 2) := by show _ = _; rw [hkids]; rfl
                    have hrs2 : RSp wr wr.heap.size A3 x.kids.length [spanAt all ka, spanAt all kb] := by
                      have hh := hrs
                      rw [show x.kids.map (spanAt all) = [spanAt all ka, spanAt all kb] from by rw [hkids]; rfl] at hh
                      exact hh
                    have HC : Hid (Calls Tryz.prog 98 #[.slice A3 x.kids.length c3v] wr fun e w' => e = .returned (spanV (nodeB 7 (spanAt all ka) (spanAt all kb) (spanAt all (kidAt x 2)))) ∧ Below wr.heap.size wr w') := hide (min_any A3 _ c3v (spanAt all ka) (spanAt all kb) wr hrs2 (span_in HIN.out ka) (span_in HIN.out kb))
                    rw [hop] at d0
                    generalize nodeB 7 (spanAt all ka) (spanAt all kb) (spanAt all (kidAt x 2)) = sr at HST2 HC
                    clear hrs hrs2 hkids hk0 hk1
                    have hc0' := hc0.out
                    clear HIN
                    go_wp2_with fail
                    refine HC.out.mono ?_
                    rintro en w7 ⟨rfl, hb7⟩
                    clear HC hc0 hc0' d0
                    have HGA7 := hide (HGA6.out.below hb7 hz6)
                    have HK7 := hide (HK6.out.trans (KeptBut.of_below hb7))
                    have hb07 := hb06.trans (hb7.mono hb06.size)
                    have t0 : w7.cell? ⟨ga, k * 2, none⟩ = some (.int .i64 sp0) := (hb7.cell (p := ⟨ga, k * 2, none⟩) hz6).trans s0'
                    have t1 : w7.cell? ⟨ga, k * 2 + 1, none⟩ = some (.int .i64 sp1) := (hb7.cell (p := ⟨ga, k * 2 + 1, none⟩) hz6).trans s1'
                    have fa0 := HGA7.out.frozen (k * 2)
                    have fa1 := HGA7.out.frozen (k * 2 + 1)
                    have r6 := HGA7.out.setSpan k sr
                    rw [← HAL.out, padS_set (by rw [HAL.out]; exact hlt), HAL.out] at r6
                    have R6 := hide r6
                    have K6 := hide (HK7.out.span (k * 2) (k * 2 + 1) (.int .i64 sr.1) (.int .i64 sr.2))
                    have hb8 : Below w.heap.size w ((w7.setCell ⟨ga, k * 2, none⟩ (.int .i64 sr.1)).setCell ⟨ga, k * 2 + 1, none⟩ (.int .i64 sr.2)) := (hb07.setCell (p := ⟨ga, k * 2, none⟩) hwa _).setCell (p := ⟨ga, k * 2 + 1, none⟩) hwa _
                    clear r6 s0' s1' HGA6 HOP6 HK6 hb06 hb7
                    go_upto_region 24 with (fail)
                    generalize (w7.setCell ⟨ga, k * 2, none⟩ (.int .i64 sr.1)).setCell ⟨ga, k * 2 + 1, none⟩ (.int .i64 sr.2) = w8 at R6 K6 hb8 ⊢
                    obtain ⟨v0, v1⟩ := R6.out.spanAt_ (i := k) (by rw [padS_len (by rw [List.length_append, HAL.out]; exact hlt)]; exact hlt)
                    rw [padS_get (by rw [List.length_append, HAL.out]; exact Nat.lt_succ_self _), ← HAL.out, span_last, HAL.out] at v0 v1
                    clear t0 t1 fa0 fa1 HGA7 HK7
                    cases hy1 : beyondL sr.1
                    · cases hy2 : beyondL sr.2
                      · have HGN := hide (HST.out sr (by rw [HST2.out, hy1, hy2]; rfl))
                        have HY1 := hide hy1
                        have HY2 := hide hy2
                        clear hy1 hy2
                        go_wp2_with fail
                        refine (beyond_is _ _ _ HY1.out).mono ?_
                        rintro en w9 ⟨rfl, rfl⟩
                        go_wp2_with fail
                        refine (beyond_is _ _ _ HY2.out).mono ?_
                        rintro en w9 ⟨rfl, rfl⟩
                        go_wp2
                        go_roundw
                        case rel => exact ⟨k + 1, all ++ [sr], by omega, by go_num, HGN.out, R6.out, K6.out⟩
                        case measure => simp [intOf]; omega
                      · have HRS := hide (HBE.out 9 (HER.out 9 (by rw [HST2.out, hy1, hy2]; rfl)))
                        have HY1 := hide hy1
                        have HY2 := hide hy2
                        clear hy1 hy2
                        go_wp2_with fail
                        refine (beyond_is _ _ _ HY1.out).mono ?_
                        rintro en w9 ⟨rfl, rfl⟩
                        go_wp2_with fail
                        refine (beyond_is _ _ _ HY2.out).mono ?_
                        rintro en w9 ⟨rfl, rfl⟩
                        go_wp2
                        go_ret3
                        rw [← HRS.out]
                        exact ⟨rfl, hb8⟩
                    · have HRS := hide (HBE.out 9 (HER.out 9 (by rw [HST2.out, hy1]; rfl)))
                      have HY1 := hide hy1
                      clear hy1
                      go_wp2_with fail
                      refine (beyond_is _ _ _ HY1.out).mono ?_
                      rintro en w9 ⟨rfl, rfl⟩
                      go_wp2
                      go_ret3
                      rw [← HRS.out]
                      exact ⟨rfl, hb8⟩
                  · have hc0 : Hid (wr.cell? ⟨go, 8, none⟩ = some (.func (.func 99) #[] #[])) := HOP6.out.cell 8
                    obtain ⟨ka, kb, hkids⟩ := kids2 (by rw [hops, hop]; rfl : (x.kids.length : Int) = 2)
                    have hk0 : kidAt x 0 = ka := by unfold kidAt; rw [hkids]; rfl
                    have hk1 : kidAt x 1 = kb := by unfold kidAt; rw [hkids]; rfl
                    rw [hop, hk0, hk1] at HST2
                    have HKL : Hid (x.kids.length = 2) := by show _ = _; rw [hkids]; rfl
                    have hrs2 : RSp wr wr.heap.size A3 x.kids.length [spanAt all ka, spanAt all kb] := by
                      have hh := hrs
                      rw [show x.kids.map (spanAt all) = [spanAt all ka, spanAt all kb] from by rw [hkids]; rfl] at hh
                      exact hh
                    have HC : Hid (Calls Tryz.prog 99 #[.slice A3 x.kids.length c3v] wr fun e w' => e = .returned (spanV (nodeB 8 (spanAt all ka) (spanAt all kb) (spanAt all (kidAt x 2)))) ∧ Below wr.heap.size wr w') := hide (max_any A3 _ c3v (spanAt all ka) (spanAt all kb) wr hrs2 (span_in HIN.out ka) (span_in HIN.out kb))
                    rw [hop] at d0
                    generalize nodeB 8 (spanAt all ka) (spanAt all kb) (spanAt all (kidAt x 2)) = sr at HST2 HC
                    clear hrs hrs2 hkids hk0 hk1
                    have hc0' := hc0.out
                    clear HIN
                    go_wp2_with fail
                    refine HC.out.mono ?_
                    rintro en w7 ⟨rfl, hb7⟩
                    clear HC hc0 hc0' d0
                    have HGA7 := hide (HGA6.out.below hb7 hz6)
                    have HK7 := hide (HK6.out.trans (KeptBut.of_below hb7))
                    have hb07 := hb06.trans (hb7.mono hb06.size)
                    have t0 : w7.cell? ⟨ga, k * 2, none⟩ = some (.int .i64 sp0) := (hb7.cell (p := ⟨ga, k * 2, none⟩) hz6).trans s0'
                    have t1 : w7.cell? ⟨ga, k * 2 + 1, none⟩ = some (.int .i64 sp1) := (hb7.cell (p := ⟨ga, k * 2 + 1, none⟩) hz6).trans s1'
                    have fa0 := HGA7.out.frozen (k * 2)
                    have fa1 := HGA7.out.frozen (k * 2 + 1)
                    have r6 := HGA7.out.setSpan k sr
                    rw [← HAL.out, padS_set (by rw [HAL.out]; exact hlt), HAL.out] at r6
                    have R6 := hide r6
                    have K6 := hide (HK7.out.span (k * 2) (k * 2 + 1) (.int .i64 sr.1) (.int .i64 sr.2))
                    have hb8 : Below w.heap.size w ((w7.setCell ⟨ga, k * 2, none⟩ (.int .i64 sr.1)).setCell ⟨ga, k * 2 + 1, none⟩ (.int .i64 sr.2)) := (hb07.setCell (p := ⟨ga, k * 2, none⟩) hwa _).setCell (p := ⟨ga, k * 2 + 1, none⟩) hwa _
                    clear r6 s0' s1' HGA6 HOP6 HK6 hb06 hb7
                    go_upto_region 24 with (fail)
                    generalize (w7.setCell ⟨ga, k * 2, none⟩ (.int .i64 sr.1)).setCell ⟨ga, k * 2 + 1, none⟩ (.int .i64 sr.2) = w8 at R6 K6 hb8 ⊢
                    obtain ⟨v0, v1⟩ := R6.out.spanAt_ (i := k) (by rw [padS_len (by rw [List.length_append, HAL.out]; exact hlt)]; exact hlt)
                    rw [padS_get (by rw [List.length_append, HAL.out]; exact Nat.lt_succ_self _), ← HAL.out, span_last, HAL.out] at v0 v1
                    clear t0 t1 fa0 fa1 HGA7 HK7
                    cases hy1 : beyondL sr.1
                    · cases hy2 : beyondL sr.2
                      · have HGN := hide (HST.out sr (by rw [HST2.out, hy1, hy2]; rfl))
                        have HY1 := hide hy1
                        have HY2 := hide hy2
                        clear hy1 hy2
                        go_wp2_with fail
                        refine (beyond_is _ _ _ HY1.out).mono ?_
                        rintro en w9 ⟨rfl, rfl⟩
                        go_wp2_with fail
                        refine (beyond_is _ _ _ HY2.out).mono ?_
                        rintro en w9 ⟨rfl, rfl⟩
                        go_wp2
                        go_roundw
                        case rel => exact ⟨k + 1, all ++ [sr], by omega, by go_num, HGN.out, R6.out, K6.out⟩
                        case measure => simp [intOf]; omega
                      · have HRS := hide (HBE.out 9 (HER.out 9 (by rw [HST2.out, hy1, hy2]; rfl)))
                        have HY1 := hide hy1
                        have HY2 := hide hy2
                        clear hy1 hy2
                        go_wp2_with fail
                        refine (beyond_is _ _ _ HY1.out).mono ?_
                        rintro en w9 ⟨rfl, rfl⟩
                        go_wp2_with fail
                        refine (beyond_is _ _ _ HY2.out).mono ?_
                        rintro en w9 ⟨rfl, rfl⟩
                        go_wp2
                        go_ret3
                        rw [← HRS.out]
                        exact ⟨rfl, hb8⟩
                    · have HRS := hide (HBE.out 9 (HER.out 9 (by rw [HST2.out, hy1]; rfl)))
                      have HY1 := hide hy1
                      clear hy1
                      go_wp2_with fail
                      refine (beyond_is _ _ _ HY1.out).mono ?_
                      rintro en w9 ⟨rfl, rfl⟩
                      go_wp2
                      go_ret3
                      rw [← HRS.out]
                      exact ⟨rfl, hb8⟩
                  · have hc0 : Hid (wr.cell? ⟨go, 9, none⟩ = some (.func (.func 100) #[] #[])) := HOP6.out.cell 9
                    obtain ⟨ka, kb, kc0, hkids⟩ := kids3 (by rw [hops, hop]; rfl : (x.kids.length : Int) = 3)
                    have hk0 : kidAt x 0 = ka := by unfold kidAt; rw [hkids]; rfl
                    have hk1 : kidAt x 1 = kb := by unfold kidAt; rw [hkids]; rfl
                    have hk2 : kidAt x 2 = kc0 := by unfold kidAt; rw [hkids]; rfl
                    rw [hop, hk0, hk1, hk2] at HST2
                    have HKL : Hid (x.kids.length = 3) := by show _ = _; rw [hkids]; rfl
                    have hrs2 : RSp wr wr.heap.size A3 x.kids.length [spanAt all ka, spanAt all kb, spanAt all kc0] := by
                      have hh := hrs
                      rw [show x.kids.map (spanAt all) = [spanAt all ka, spanAt all kb, spanAt all kc0] from by rw [hkids]; rfl] at hh
                      exact hh
                    have HC : Hid (Calls Tryz.prog 100 #[.slice A3 x.kids.length c3v] wr fun e w' => e = .returned (spanV (nodeB 9 (spanAt all ka) (spanAt all kb) (spanAt all kc0))) ∧ Below wr.heap.size wr w') := hide (choose_any A3 _ c3v (spanAt all ka) (spanAt all kb) (spanAt all kc0) wr hrs2)
                    rw [hop] at d0
                    generalize nodeB 9 (spanAt all ka) (spanAt all kb) (spanAt all kc0) = sr at HST2 HC
                    clear hrs hrs2 hkids hk0 hk1 hk2
                    have hc0' := hc0.out
                    clear HIN
                    go_wp2_with fail
                    refine HC.out.mono ?_
                    rintro en w7 ⟨rfl, hb7⟩
                    clear HC hc0 hc0' d0
                    have HGA7 := hide (HGA6.out.below hb7 hz6)
                    have HK7 := hide (HK6.out.trans (KeptBut.of_below hb7))
                    have hb07 := hb06.trans (hb7.mono hb06.size)
                    have t0 : w7.cell? ⟨ga, k * 2, none⟩ = some (.int .i64 sp0) := (hb7.cell (p := ⟨ga, k * 2, none⟩) hz6).trans s0'
                    have t1 : w7.cell? ⟨ga, k * 2 + 1, none⟩ = some (.int .i64 sp1) := (hb7.cell (p := ⟨ga, k * 2 + 1, none⟩) hz6).trans s1'
                    have fa0 := HGA7.out.frozen (k * 2)
                    have fa1 := HGA7.out.frozen (k * 2 + 1)
                    have r6 := HGA7.out.setSpan k sr
                    rw [← HAL.out, padS_set (by rw [HAL.out]; exact hlt), HAL.out] at r6
                    have R6 := hide r6
                    have K6 := hide (HK7.out.span (k * 2) (k * 2 + 1) (.int .i64 sr.1) (.int .i64 sr.2))
                    have hb8 : Below w.heap.size w ((w7.setCell ⟨ga, k * 2, none⟩ (.int .i64 sr.1)).setCell ⟨ga, k * 2 + 1, none⟩ (.int .i64 sr.2)) := (hb07.setCell (p := ⟨ga, k * 2, none⟩) hwa _).setCell (p := ⟨ga, k * 2 + 1, none⟩) hwa _
                    clear r6 s0' s1' HGA6 HOP6 HK6 hb06 hb7
                    go_upto_region 24 with (fail)
                    generalize (w7.setCell ⟨ga, k * 2, none⟩ (.int .i64 sr.1)).setCell ⟨ga, k * 2 + 1, none⟩ (.int .i64 sr.2) = w8 at R6 K6 hb8 ⊢
                    obtain ⟨v0, v1⟩ := R6.out.spanAt_ (i := k) (by rw [padS_len (by rw [List.length_append, HAL.out]; exact hlt)]; exact hlt)
                    rw [padS_get (by rw [List.length_append, HAL.out]; exact Nat.lt_succ_self _), ← HAL.out, span_last, HAL.out] at v0 v1
                    clear t0 t1 fa0 fa1 HGA7 HK7
                    cases hy1 : beyondL sr.1
                    · cases hy2 : beyondL sr.2
                      · have HGN := hide (HST.out sr (by rw [HST2.out, hy1, hy2]; rfl))
                        have HY1 := hide hy1
                        have HY2 := hide hy2
                        clear hy1 hy2
                        go_wp2_with fail
                        refine (beyond_is _ _ _ HY1.out).mono ?_
                        rintro en w9 ⟨rfl, rfl⟩
                        go_wp2_with fail
                        refine (beyond_is _ _ _ HY2.out).mono ?_
                        rintro en w9 ⟨rfl, rfl⟩
                        go_wp2
                        go_roundw
                        case rel => exact ⟨k + 1, all ++ [sr], by omega, by go_num, HGN.out, R6.out, K6.out⟩
                        case measure => simp [intOf]; omega
                      · have HRS := hide (HBE.out 9 (HER.out 9 (by rw [HST2.out, hy1, hy2]; rfl)))
                        have HY1 := hide hy1
                        have HY2 := hide hy2
                        clear hy1 hy2
                        go_wp2_with fail
                        refine (beyond_is _ _ _ HY1.out).mono ?_
                        rintro en w9 ⟨rfl, rfl⟩
                        go_wp2_with fail
                        refine (beyond_is _ _ _ HY2.out).mono ?_
                        rintro en w9 ⟨rfl, rfl⟩
                        go_wp2
                        go_ret3
                        rw [← HRS.out]
                        exact ⟨rfl, hb8⟩
                    · have HRS := hide (HBE.out 9 (HER.out 9 (by rw [HST2.out, hy1]; rfl)))
                      have HY1 := hide hy1
                      clear hy1
                      go_wp2_with fail
                      refine (beyond_is _ _ _ HY1.out).mono ?_
                      rintro en w9 ⟨rfl, rfl⟩
                      go_wp2
                      go_ret3
                      rw [← HRS.out]
                      exact ⟨rfl, hb8⟩
                  · have hc0 : Hid (wr.cell? ⟨go, 10, none⟩ = some (.func (.func 101) #[] #[])) := HOP6.out.cell 10
                    obtain ⟨ka, kb, hkids⟩ := kids2 (by rw [hops, hop]; rfl : (x.kids.length : Int) = 2)
                    have hk0 : kidAt x 0 = ka := by unfold kidAt; rw [hkids]; rfl
                    have hk1 : kidAt x 1 = kb := by unfold kidAt; rw [hkids]; rfl
                    rw [hop, hk0, hk1] at HST2
                    have HKL : Hid (x.kids.length = 2) := by show _ = _; rw [hkids]; rfl
                    have hrs2 : RSp wr wr.heap.size A3 x.kids.length [spanAt all ka, spanAt all kb] := by
                      have hh := hrs
                      rw [show x.kids.map (spanAt all) = [spanAt all ka, spanAt all kb] from by rw [hkids]; rfl] at hh
                      exact hh
                    have HC : Hid (Calls Tryz.prog 101 #[.slice A3 x.kids.length c3v] wr fun e w' => e = .returned (spanV (nodeB 10 (spanAt all ka) (spanAt all kb) (spanAt all (kidAt x 2)))) ∧ Below wr.heap.size wr w') := hide (less_any A3 _ c3v (spanAt all ka) (spanAt all kb) wr hrs2 (span_in HIN.out ka) (span_in HIN.out kb))
                    rw [hop] at d0
                    generalize nodeB 10 (spanAt all ka) (spanAt all kb) (spanAt all (kidAt x 2)) = sr at HST2 HC
                    clear hrs hrs2 hkids hk0 hk1
                    have hc0' := hc0.out
                    clear HIN
                    go_wp2_with fail
                    refine HC.out.mono ?_
                    rintro en w7 ⟨rfl, hb7⟩
                    clear HC hc0 hc0' d0
                    have HGA7 := hide (HGA6.out.below hb7 hz6)
                    have HK7 := hide (HK6.out.trans (KeptBut.of_below hb7))
                    have hb07 := hb06.trans (hb7.mono hb06.size)
                    have t0 : w7.cell? ⟨ga, k * 2, none⟩ = some (.int .i64 sp0) := (hb7.cell (p := ⟨ga, k * 2, none⟩) hz6).trans s0'
                    have t1 : w7.cell? ⟨ga, k * 2 + 1, none⟩ = some (.int .i64 sp1) := (hb7.cell (p := ⟨ga, k * 2 + 1, none⟩) hz6).trans s1'
                    have fa0 := HGA7.out.frozen (k * 2)
                    have fa1 := HGA7.out.frozen (k * 2 + 1)
                    have r6 := HGA7.out.setSpan k sr
                    rw [← HAL.out, padS_set (by rw [HAL.out]; exact hlt), HAL.out] at r6
                    have R6 := hide r6
                    have K6 := hide (HK7.out.span (k * 2) (k * 2 + 1) (.int .i64 sr.1) (.int .i64 sr.2))
                    have hb8 : Below w.heap.size w ((w7.setCell ⟨ga, k * 2, none⟩ (.int .i64 sr.1)).setCell ⟨ga, k * 2 + 1, none⟩ (.int .i64 sr.2)) := (hb07.setCell (p := ⟨ga, k * 2, none⟩) hwa _).setCell (p := ⟨ga, k * 2 + 1, none⟩) hwa _
                    clear r6 s0' s1' HGA6 HOP6 HK6 hb06 hb7
                    go_upto_region 24 with (fail)
                    generalize (w7.setCell ⟨ga, k * 2, none⟩ (.int .i64 sr.1)).setCell ⟨ga, k * 2 + 1, none⟩ (.int .i64 sr.2) = w8 at R6 K6 hb8 ⊢
                    obtain ⟨v0, v1⟩ := R6.out.spanAt_ (i := k) (by rw [padS_len (by rw [List.length_append, HAL.out]; exact hlt)]; exact hlt)
                    rw [padS_get (by rw [List.length_append, HAL.out]; exact Nat.lt_succ_self _), ← HAL.out, span_last, HAL.out] at v0 v1
                    clear t0 t1 fa0 fa1 HGA7 HK7
                    cases hy1 : beyondL sr.1
                    · cases hy2 : beyondL sr.2
                      · have HGN := hide (HST.out sr (by rw [HST2.out, hy1, hy2]; rfl))
                        have HY1 := hide hy1
                        have HY2 := hide hy2
                        clear hy1 hy2
                        go_wp2_with fail
                        refine (beyond_is _ _ _ HY1.out).mono ?_
                        rintro en w9 ⟨rfl, rfl⟩
                        go_wp2_with fail
                        refine (beyond_is _ _ _ HY2.out).mono ?_
                        rintro en w9 ⟨rfl, rfl⟩
                        go_wp2
                        go_roundw
                        case rel => exact ⟨k + 1, all ++ [sr], by omega, by go_num, HGN.out, R6.out, K6.out⟩
                        case measure => simp [intOf]; omega
                      · have HRS := hide (HBE.out 9 (HER.out 9 (by rw [HST2.out, hy1, hy2]; rfl)))
                        have HY1 := hide hy1
                        have HY2 := hide hy2
                        clear hy1 hy2
                        go_wp2_with fail
                        refine (beyond_is _ _ _ HY1.out).mono ?_
                        rintro en w9 ⟨rfl, rfl⟩
                        go_wp2_with fail
                        refine (beyond_is _ _ _ HY2.out).mono ?_
                        rintro en w9 ⟨rfl, rfl⟩
                        go_wp2
                        go_ret3
                        rw [← HRS.out]
                        exact ⟨rfl, hb8⟩
                    · have HRS := hide (HBE.out 9 (HER.out 9 (by rw [HST2.out, hy1]; rfl)))
                      have HY1 := hide hy1
                      clear hy1
                      go_wp2_with fail
                      refine (beyond_is _ _ _ HY1.out).mono ?_
                      rintro en w9 ⟨rfl, rfl⟩
                      go_wp2
                      go_ret3
                      rw [← HRS.out]
                      exact ⟨rfl, hb8⟩
                  · have hc0 : Hid (wr.cell? ⟨go, 11, none⟩ = some (.func (.func 102) #[] #[])) := HOP6.out.cell 11
                    obtain ⟨ka, kb, hkids⟩ := kids2 (by rw [hops, hop]; rfl : (x.kids.length : Int) = 2)
                    have hk0 : kidAt x 0 = ka := by unfold kidAt; rw [hkids]; rfl
                    have hk1 : kidAt x 1 = kb := by unfold kidAt; rw [hkids]; rfl
                    rw [hop, hk0, hk1] at HST2
                    have HKL : Hid (x.kids.length = 2) := by show _ = _; rw [hkids]; rfl
                    have hrs2 : RSp wr wr.heap.size A3 x.kids.length [spanAt all ka, spanAt all kb] := by
                      have hh := hrs
                      rw [show x.kids.map (spanAt all) = [spanAt all ka, spanAt all kb] from by rw [hkids]; rfl] at hh
                      exact hh
                    have HC : Hid (Calls Tryz.prog 102 #[.slice A3 x.kids.length c3v] wr fun e w' => e = .returned (spanV (nodeB 11 (spanAt all ka) (spanAt all kb) (spanAt all (kidAt x 2)))) ∧ Below wr.heap.size wr w') := hide (equal_any A3 _ c3v (spanAt all ka) (spanAt all kb) wr hrs2 (span_in HIN.out ka) (span_in HIN.out kb))
                    rw [hop] at d0
                    generalize nodeB 11 (spanAt all ka) (spanAt all kb) (spanAt all (kidAt x 2)) = sr at HST2 HC
                    clear hrs hrs2 hkids hk0 hk1
                    have hc0' := hc0.out
                    clear HIN
                    go_wp2_with fail
                    refine HC.out.mono ?_
                    rintro en w7 ⟨rfl, hb7⟩
                    clear HC hc0 hc0' d0
                    have HGA7 := hide (HGA6.out.below hb7 hz6)
                    have HK7 := hide (HK6.out.trans (KeptBut.of_below hb7))
                    have hb07 := hb06.trans (hb7.mono hb06.size)
                    have t0 : w7.cell? ⟨ga, k * 2, none⟩ = some (.int .i64 sp0) := (hb7.cell (p := ⟨ga, k * 2, none⟩) hz6).trans s0'
                    have t1 : w7.cell? ⟨ga, k * 2 + 1, none⟩ = some (.int .i64 sp1) := (hb7.cell (p := ⟨ga, k * 2 + 1, none⟩) hz6).trans s1'
                    have fa0 := HGA7.out.frozen (k * 2)
                    have fa1 := HGA7.out.frozen (k * 2 + 1)
                    have r6 := HGA7.out.setSpan k sr
                    rw [← HAL.out, padS_set (by rw [HAL.out]; exact hlt), HAL.out] at r6
                    have R6 := hide r6
                    have K6 := hide (HK7.out.span (k * 2) (k * 2 + 1) (.int .i64 sr.1) (.int .i64 sr.2))
                    have hb8 : Below w.heap.size w ((w7.setCell ⟨ga, k * 2, none⟩ (.int .i64 sr.1)).setCell ⟨ga, k * 2 + 1, none⟩ (.int .i64 sr.2)) := (hb07.setCell (p := ⟨ga, k * 2, none⟩) hwa _).setCell (p := ⟨ga, k * 2 + 1, none⟩) hwa _
                    clear r6 s0' s1' HGA6 HOP6 HK6 hb06 hb7
                    go_upto_region 24 with (fail)
                    generalize (w7.setCell ⟨ga, k * 2, none⟩ (.int .i64 sr.1)).setCell ⟨ga, k * 2 + 1, none⟩ (.int .i64 sr.2) = w8 at R6 K6 hb8 ⊢
                    obtain ⟨v0, v1⟩ := R6.out.spanAt_ (i := k) (by rw [padS_len (by rw [List.length_append, HAL.out]; exact hlt)]; exact hlt)
                    rw [padS_get (by rw [List.length_append, HAL.out]; exact Nat.lt_succ_self _), ← HAL.out, span_last, HAL.out] at v0 v1
                    clear t0 t1 fa0 fa1 HGA7 HK7
                    cases hy1 : beyondL sr.1
                    · cases hy2 : beyondL sr.2
                      · have HGN := hide (HST.out sr (by rw [HST2.out, hy1, hy2]; rfl))
                        have HY1 := hide hy1
                        have HY2 := hide hy2
                        clear hy1 hy2
                        go_wp2_with fail
                        refine (beyond_is _ _ _ HY1.out).mono ?_
                        rintro en w9 ⟨rfl, rfl⟩
                        go_wp2_with fail
                        refine (beyond_is _ _ _ HY2.out).mono ?_
                        rintro en w9 ⟨rfl, rfl⟩
                        go_wp2
                        go_roundw
                        case rel => exact ⟨k + 1, all ++ [sr], by omega, by go_num, HGN.out, R6.out, K6.out⟩
                        case measure => simp [intOf]; omega
                      · have HRS := hide (HBE.out 9 (HER.out 9 (by rw [HST2.out, hy1, hy2]; rfl)))
                        have HY1 := hide hy1
                        have HY2 := hide hy2
                        clear hy1 hy2
                        go_wp2_with fail
                        refine (beyond_is _ _ _ HY1.out).mono ?_
                        rintro en w9 ⟨rfl, rfl⟩
                        go_wp2_with fail
                        refine (beyond_is _ _ _ HY2.out).mono ?_
                        rintro en w9 ⟨rfl, rfl⟩
                        go_wp2
                        go_ret3
                        rw [← HRS.out]
                        exact ⟨rfl, hb8⟩
                    · have HRS := hide (HBE.out 9 (HER.out 9 (by rw [HST2.out, hy1]; rfl)))
                      have HY1 := hide hy1
                      clear hy1
                      go_wp2_with fail
                      refine (beyond_is _ _ _ HY1.out).mono ?_
                      rintro en w9 ⟨rfl, rfl⟩
                      go_wp2
                      go_ret3
                      rw [← HRS.out]
                      exact ⟨rfl, hb8⟩
                  · have hc0 : Hid (wr.cell? ⟨go, 12, none⟩ = some (.func (.func 103) #[] #[])) := HOP6.out.cell 12
                    obtain ⟨ka, hkids⟩ := kids1 (by rw [hops, hop]; rfl : (x.kids.length : Int) = 1)
                    have hk0 : kidAt x 0 = ka := by unfold kidAt; rw [hkids]; rfl
                    rw [hop, hk0] at HST2
                    have HKL : Hid (x.kids.length = 1) := by show _ = _; rw [hkids]; rfl
                    have hrs2 : RSp wr wr.heap.size A3 x.kids.length [spanAt all ka] := by
                      have hh := hrs
                      rw [show x.kids.map (spanAt all) = [spanAt all ka] from by rw [hkids]; rfl] at hh
                      exact hh
                    have HC : Hid (Calls Tryz.prog 103 #[.slice A3 x.kids.length c3v] wr fun e w' => e = .returned (spanV (nodeB 12 (spanAt all ka) (spanAt all (kidAt x 1)) (spanAt all (kidAt x 2)))) ∧ Below wr.heap.size wr w') := hide (neg_any A3 _ c3v (spanAt all ka) wr hrs2 (span_in HIN.out ka))
                    rw [hop] at d0
                    generalize nodeB 12 (spanAt all ka) (spanAt all (kidAt x 1)) (spanAt all (kidAt x 2)) = sr at HST2 HC
                    clear hrs hrs2 hkids hk0
                    have hc0' := hc0.out
                    clear HIN
                    go_wp2_with fail
                    refine HC.out.mono ?_
                    rintro en w7 ⟨rfl, hb7⟩
                    clear HC hc0 hc0' d0
                    have HGA7 := hide (HGA6.out.below hb7 hz6)
                    have HK7 := hide (HK6.out.trans (KeptBut.of_below hb7))
                    have hb07 := hb06.trans (hb7.mono hb06.size)
                    have t0 : w7.cell? ⟨ga, k * 2, none⟩ = some (.int .i64 sp0) := (hb7.cell (p := ⟨ga, k * 2, none⟩) hz6).trans s0'
                    have t1 : w7.cell? ⟨ga, k * 2 + 1, none⟩ = some (.int .i64 sp1) := (hb7.cell (p := ⟨ga, k * 2 + 1, none⟩) hz6).trans s1'
                    have fa0 := HGA7.out.frozen (k * 2)
                    have fa1 := HGA7.out.frozen (k * 2 + 1)
                    have r6 := HGA7.out.setSpan k sr
                    rw [← HAL.out, padS_set (by rw [HAL.out]; exact hlt), HAL.out] at r6
                    have R6 := hide r6
                    have K6 := hide (HK7.out.span (k * 2) (k * 2 + 1) (.int .i64 sr.1) (.int .i64 sr.2))
                    have hb8 : Below w.heap.size w ((w7.setCell ⟨ga, k * 2, none⟩ (.int .i64 sr.1)).setCell ⟨ga, k * 2 + 1, none⟩ (.int .i64 sr.2)) := (hb07.setCell (p := ⟨ga, k * 2, none⟩) hwa _).setCell (p := ⟨ga, k * 2 + 1, none⟩) hwa _
                    clear r6 s0' s1' HGA6 HOP6 HK6 hb06 hb7
                    go_upto_region 24 with (fail)
                    generalize (w7.setCell ⟨ga, k * 2, none⟩ (.int .i64 sr.1)).setCell ⟨ga, k * 2 + 1, none⟩ (.int .i64 sr.2) = w8 at R6 K6 hb8 ⊢
                    obtain ⟨v0, v1⟩ := R6.out.spanAt_ (i := k) (by rw [padS_len (by rw [List.length_append, HAL.out]; exact hlt)]; exact hlt)
                    rw [padS_get (by rw [List.length_append, HAL.out]; exact Nat.lt_succ_self _), ← HAL.out, span_last, HAL.out] at v0 v1
                    clear t0 t1 fa0 fa1 HGA7 HK7
                    cases hy1 : beyondL sr.1
                    · cases hy2 : beyondL sr.2
                      · have HGN := hide (HST.out sr (by rw [HST2.out, hy1, hy2]; rfl))
                        have HY1 := hide hy1
                        have HY2 := hide hy2
                        clear hy1 hy2
                        go_wp2_with fail
                        refine (beyond_is _ _ _ HY1.out).mono ?_
                        rintro en w9 ⟨rfl, rfl⟩
                        go_wp2_with fail
                        refine (beyond_is _ _ _ HY2.out).mono ?_
                        rintro en w9 ⟨rfl, rfl⟩
                        go_wp2
                        go_roundw
                        case rel => exact ⟨k + 1, all ++ [sr], by omega, by go_num, HGN.out, R6.out, K6.out⟩
                        case measure => simp [intOf]; omega
                      · have HRS := hide (HBE.out 9 (HER.out 9 (by rw [HST2.out, hy1, hy2]; rfl)))
                        have HY1 := hide hy1
                        have HY2 := hide hy2
                        clear hy1 hy2
                        go_wp2_with fail
                        refine (beyond_is _ _ _ HY1.out).mono ?_
                        rintro en w9 ⟨rfl, rfl⟩
                        go_wp2_with fail
                        refine (beyond_is _ _ _ HY2.out).mono ?_
                        rintro en w9 ⟨rfl, rfl⟩
                        go_wp2
                        go_ret3
                        rw [← HRS.out]
                        exact ⟨rfl, hb8⟩
                    · have HRS := hide (HBE.out 9 (HER.out 9 (by rw [HST2.out, hy1]; rfl)))
                      have HY1 := hide hy1
                      clear hy1
                      go_wp2_with fail
                      refine (beyond_is _ _ _ HY1.out).mono ?_
                      rintro en w9 ⟨rfl, rfl⟩
                      go_wp2
                      go_ret3
                      rw [← HRS.out]
                      exact ⟨rfl, hb8⟩
        · obtain rfl : k = e.length := by omega
          have hps : padS e.length all = all := by
            unfold padS
            rw [HAL.out, Nat.sub_self]
            simp
          have hlast := HGA.out.spanAt_ (i := e.length - 1) (by rw [hps, HAL.out]; omega)
          rw [hps] at hlast
          obtain ⟨s0, s1⟩ := hlast
          have HRS : Hid ((((all.getD (e.length - 1) (0, 0)).1, (all.getD (e.length - 1) (0, 0)).2, (0 : Int)) : Int × Int × Int) = res) := by
            show _ = _
            rw [← HRES.out]
            unfold boundsL
            have hgo2 := HGO.out
            rw [List.take_length] at hgo2
            rw [if_neg (by rw [HV.out, HV2.out]; simp), hgo2]
            have hn : ((e.length : Int) - 1).toNat = e.length - 1 := by omega
            show _ = ((spanAt all ((e.length : Int) - 1)).1, (spanAt all ((e.length : Int) - 1)).2, (0 : Int))
            unfold spanAt
            rw [hn]
          have hcast : (e.length : Int) - 1 = ((e.length - 1 : Nat) : Int) := by omega
          have hll : (e.length - 1 : Nat) < e.length := by omega
          have h0l : (0 : Int) ≤ ((e.length - 1 : Nat) : Int) := by omega
          generalize all.getD (e.length - 1) (0, 0) = sp at s0 s1 HRS
          obtain ⟨p1, p2⟩ := sp
          dsimp only at s0 s1 HRS
          go_wp2
          go_quiet (fail)
          go_wp2
          go_ret3
          rw [← HRS.out]
          exact ⟨rfl, below_drewN (hbr.alloc hbr.size _) _⟩
end Go.Proofs.YtkomgidcgepknaaGreatDoor
