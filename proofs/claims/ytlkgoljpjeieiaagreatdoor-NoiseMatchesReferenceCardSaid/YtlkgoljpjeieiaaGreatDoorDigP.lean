/-
  The reference's numbers: rows of digits with zeros ahead. No program.
-/
import Derived.Test.YtlkgoljpjeieiaaGreatDoorNatP
set_option linter.unusedVariables false
set_option linter.unusedSimpArgs false
namespace Go.Proofs.YtlkgoljpjeieiaaGreatDoor
open Go.Lib

/-- All bytes are digits. -/
def Digs (l : List UInt8) : Prop := ∀ c ∈ l, 48 ≤ c.toNat ∧ c.toNat ≤ 57
/-- The number that digits behind a number spell. -/
def valF (a : Nat) (l : List UInt8) : Nat := l.foldl (fun a b => a * 10 + (b.toNat - 48)) a
theorem valF_cons (a : Nat) (b : UInt8) (l : List UInt8) : valF a (b :: l) = valF (a * 10 + (b.toNat - 48)) l := by unfold valF; rw [List.foldl_cons]
theorem valF_snoc (a : Nat) (l : List UInt8) (b : UInt8) : valF a (l ++ [b]) = valF a l * 10 + (b.toNat - 48) := by simp [valF, List.foldl_append]
theorem valF_app (a : Nat) (l m : List UInt8) : valF a (l ++ m) = valF (valF a l) m := by simp [valF, List.foldl_append]
theorem valF_acc : ∀ (l : List UInt8) (a : Nat), valF a l = a * 10 ^ l.length + valF 0 l
  | [], a => by simp [valF]
  | b :: l, a => by
    rw [valF_cons, valF_cons, Nat.zero_mul, Nat.zero_add, valF_acc l (a * 10 + (b.toNat - 48)), valF_acc l (b.toNat - 48), List.length_cons, Nat.pow_succ, Nat.add_mul, Nat.mul_assoc, Nat.mul_comm 10, Nat.add_assoc]
theorem valF_lt {l : List UInt8} (h : Digs l) : valF 0 l < 10 ^ l.length := by
  induction l with
  | nil => simp [valF]
  | cons b l ih =>
    have h1 := ih fun c hc => h c (List.mem_cons_of_mem _ hc)
    have h2 := h b List.mem_cons_self
    rw [valF_cons, valF_acc, List.length_cons, Nat.pow_succ]
    have : (0 * 10 + (b.toNat - 48)) * 10 ^ l.length ≤ 9 * 10 ^ l.length := Nat.mul_le_mul_right _ (by omega)
    omega
theorem dec_digs (n : Nat) : Digs (decDigits n) := dec_bytes n
theorem dec_val (n : Nat) : valF 0 (decDigits n) = n := by
  refine dec_induct (fun u l => valF 0 l = u) (fun u hu => ?_) (fun u hu ih => ?_) n
  · show 0 * 10 + ((UInt8.ofNat (48 + u)).toNat - 48) = u
    rw [digit_of u hu]
    omega
  · rw [valF_snoc, ih, digit_of _ (Nat.mod_lt _ (by decide))]
    omega
theorem byte_of {b : UInt8} (h : 48 ≤ b.toNat ∧ b.toNat ≤ 57) : b = UInt8.ofNat (48 + (b.toNat - 48)) := by
  rw [show 48 + (b.toNat - 48) = b.toNat by omega, UInt8.ofNat_toNat]
/-- Digits without a zero ahead are those of the number. -/
theorem dec_uniq (l : List UInt8) (h : Digs l) (hne : l ≠ []) (h0 : l.length = 1 ∨ ∀ b r, l = b :: r → b.toNat ≠ 48) : l = decDigits (valF 0 l) := by
  have key : ∀ (k : Nat) (l : List UInt8), l.length = k → Digs l → l ≠ [] → (l.length = 1 ∨ ∀ b r, l = b :: r → b.toNat ≠ 48) → l = decDigits (valF 0 l) ∧ (l.length = 1 ∨ 0 < valF 0 l) := by
    intro k
    induction k with
    | zero =>
      intro l hl _ hne _
      exact absurd (List.eq_nil_of_length_eq_zero hl) hne
    | succ k ih =>
      intro l hl hd hne h0
      obtain ⟨m, b, rfl⟩ : ∃ m b, l = m ++ [b] := ⟨l.dropLast, l.getLast hne, (List.dropLast_concat_getLast hne).symm⟩
      have hb := hd b (List.mem_append_right _ List.mem_cons_self)
      rw [List.length_append, List.length_singleton] at hl
      cases m with
      | nil =>
        refine ⟨?_, .inl (by simp)⟩
        have e : valF 0 ([] ++ [b]) = b.toNat - 48 := by simp [valF]
        rw [e, decDigits, dif_pos (by omega), ← byte_of hb]
        rfl
      | cons c r =>
        have hc : c.toNat ≠ 48 := by
          rcases h0 with h0 | h0
          · simp at h0
          · exact h0 c (r ++ [b]) rfl
        have hdm : Digs (c :: r) := fun x hx => hd x (List.mem_append_left _ hx)
        obtain ⟨e1, e2⟩ := ih (c :: r) (by omega) hdm (by simp) (.inr fun b' r' hh => by injection hh with h1 _; rw [← h1]; exact hc)
        have hpos : 0 < valF 0 (c :: r) := by
          rcases e2 with e2 | e2
          · have hr : r = [] := List.eq_nil_of_length_eq_zero (by simpa using e2)
            subst hr
            have := hdm c List.mem_cons_self
            show 0 < 0 * 10 + (c.toNat - 48)
            omega
          · exact e2
        refine ⟨?_, .inr (by rw [valF_snoc]; omega)⟩
        rw [valF_snoc, decDigits, dif_neg (by omega), show (valF 0 (c :: r) * 10 + (b.toNat - 48)) / 10 = valF 0 (c :: r) by omega, ← e1, show (valF 0 (c :: r) * 10 + (b.toNat - 48)) % 10 = b.toNat - 48 by omega, ← byte_of hb]
  exact (key l.length l rfl h hne h0).1
/-- Zeros ahead, which change nothing. -/
theorem val_drop {l : List UInt8} {i : Nat} (h : ∀ k, k < i → l[k]? = some 48) : valF 0 (l.drop i) = valF 0 l := by
  induction i with
  | zero => rfl
  | succ i ih =>
    rw [← ih fun k hk => h k (by omega)]
    have hi := h i (by omega)
    obtain ⟨hlt, hg⟩ := List.getElem?_eq_some_iff.1 hi
    rw [List.drop_eq_getElem_cons hlt, hg]
    rfl
/-- What the reference's trimmed leaves. -/
theorem trim_num {l : List UInt8} (hd : Digs l) {i : Nat} (hi : i < l.length) (h : ∀ k, k < i → l[k]? = some 48) (hend : i + 1 = l.length ∨ ∀ b, l[i]? = some b → b ≠ 48) : l.drop i = decDigits (valF 0 l) := by
  rw [← val_drop h]
  refine dec_uniq _ (fun c hc => hd c (List.mem_of_mem_drop hc)) (by simp; omega) ?_
  rcases hend with he | he
  · exact .inl (by simp; omega)
  · refine .inr fun b r hb hb48 => he b ?_ ?_
    · have : (l.drop i)[0]? = some b := by rw [hb]; rfl
      rw [List.getElem?_drop] at this
      exact this
    · exact UInt8.toNat_inj.1 hb48
/-- Digit k of a number. -/
def dg10 (n k : Nat) : Nat := n / 10 ^ k % 10
theorem dg10_lt (n k : Nat) : dg10 n k < 10 := Nat.mod_lt _ (by decide)
/-- The first m digits, the least one ahead. -/
def dl10 (n m : Nat) : List UInt8 := (List.range m).map fun k => UInt8.ofNat (dg10 n k)
theorem dl10_succ (n m : Nat) : dl10 n (m + 1) = dl10 n m ++ [UInt8.ofNat (dg10 n m)] := by simp [dl10, List.range_succ]
theorem dl10_len (n m : Nat) : (dl10 n m).length = m := by simp [dl10]
/-- The digits as text, the greatest one ahead. -/
def txt10 (n m : Nat) : List UInt8 := ((dl10 n m).map fun b => b + 48).reverse
theorem txt10_succ (n m : Nat) : txt10 n (m + 1) = (UInt8.ofNat (dg10 n m) + 48) :: txt10 n m := by simp [txt10, dl10_succ]
theorem txt_byte (v : Nat) (h : v < 10) : (UInt8.ofNat v + 48).toNat = 48 + v := by
  rw [UInt8.toNat_add, UInt8.toNat_ofNat']
  show (v % 256 + 48) % 256 = 48 + v
  omega
theorem txt10_digs (n : Nat) : ∀ m, Digs (txt10 n m)
  | 0 => fun c hc => by simp [txt10, dl10] at hc
  | m + 1 => fun c hc => by
    rw [txt10_succ] at hc
    rcases List.mem_cons.1 hc with rfl | hc
    · rw [txt_byte _ (dg10_lt n m)]
      have := dg10_lt n m
      omega
    · exact txt10_digs n m c hc
theorem txt10_len (n m : Nat) : (txt10 n m).length = m := by simp [txt10, dl10]
theorem mod_step (n m : Nat) : n % 10 ^ (m + 1) = dg10 n m * 10 ^ m + n % 10 ^ m := by
  have : 10 ^ (m + 1) = 10 ^ m * 10 := Nat.pow_succ ..
  rw [this, Nat.mod_mul]
  unfold dg10
  rw [Nat.mul_comm (10 ^ m)]
  omega
theorem txt10_val (n : Nat) : ∀ m, valF 0 (txt10 n m) = n % 10 ^ m
  | 0 => by simp [txt10, dl10, valF, Nat.mod_one]
  | m + 1 => by
    rw [txt10_succ, valF_cons, valF_acc, txt10_val n m, txt10_len, txt_byte _ (dg10_lt n m), mod_step]
    have : 0 * 10 + (48 + dg10 n m - 48) = dg10 n m := by omega
    rw [this]
theorem txt10_num {n m : Nat} (h : n < 10 ^ m) : valF 0 (txt10 n m) = n := by rw [txt10_val, Nat.mod_eq_of_lt h]
/-- A digit of a number's text, counted from its end. -/
theorem dec_at (n : Nat) : ∀ k, k < (decDigits n).length → (decDigits n)[(decDigits n).length - 1 - k]? = some (UInt8.ofNat (48 + dg10 n k)) := by
  refine dec_induct (fun n l => ∀ k, k < l.length → l[l.length - 1 - k]? = some (UInt8.ofNat (48 + dg10 n k))) (fun u hu k hk => ?_) (fun u hu ih k hk => ?_) n
  · obtain rfl : k = 0 := by simpa using hk
    show some (UInt8.ofNat (48 + u)) = _
    unfold dg10
    rw [Nat.pow_zero, Nat.div_one, Nat.mod_eq_of_lt hu]
  · rw [List.length_append, List.length_singleton] at hk ⊢
    cases k with
    | zero =>
      rw [List.getElem?_append_right (by omega)]
      unfold dg10
      simp
    | succ k =>
      have := ih k (by omega)
      rw [List.getElem?_append_left (by omega), show (decDigits (u / 10)).length + 1 - 1 - (k + 1) = (decDigits (u / 10)).length - 1 - k by omega, this]
      unfold dg10
      rw [Nat.div_div_eq_div_mul, Nat.pow_succ, Nat.mul_comm 10]
theorem dec_len_lt (n : Nat) : n < 10 ^ (decDigits n).length := by
  have := valF_lt (dec_digs n)
  rw [dec_val] at this
  exact this
theorem dg10_out {n k : Nat} (h : (decDigits n).length ≤ k) : dg10 n k = 0 := by
  unfold dg10
  rw [Nat.div_eq_of_lt (Nat.lt_of_lt_of_le (dec_len_lt n) (Nat.pow_le_pow_right (by decide) h))]
theorem lex_help {q r p x y : Nat} (hx : x < p) (hy : y < p) : (q < r ∨ q = r ∧ x < y) ↔ q * p + x < r * p + y := by
  constructor
  · rintro (h | ⟨rfl, h⟩)
    · have : (q + 1) * p ≤ r * p := Nat.mul_le_mul_right _ h
      rw [Nat.add_mul, Nat.one_mul] at this
      omega
    · omega
  · intro h
    rcases Nat.lt_trichotomy q r with h2 | h2 | h2
    · exact .inl h2
    · subst h2
      exact .inr ⟨rfl, by omega⟩
    · have : (r + 1) * p ≤ q * p := Nat.mul_le_mul_right _ h2
      rw [Nat.add_mul, Nat.one_mul] at this
      omega
/-- Texts of one length are in the order of their numbers. -/
theorem lt_val : ∀ {l m : List UInt8}, Digs l → Digs m → l.length = m.length → (l < m ↔ valF 0 l < valF 0 m)
  | [], [], _, _, _ => by simp [valF]
  | [], _ :: _, _, _, h => by simp at h
  | _ :: _, [], _, _, h => by simp at h
  | a :: l, b :: m, hl, hm, h => by
    have ha := hl a List.mem_cons_self
    have hb := hm b List.mem_cons_self
    have hl' : Digs l := fun c hc => hl c (List.mem_cons_of_mem _ hc)
    have hm' : Digs m := fun c hc => hm c (List.mem_cons_of_mem _ hc)
    have hlen : l.length = m.length := by simpa using h
    have ih := lt_val hl' hm' hlen
    have b1 := valF_lt hl'
    have b2 := valF_lt hm'
    rw [hlen] at b1
    rw [List.cons_lt_cons_iff, ih, valF_cons, valF_cons, Nat.zero_mul, Nat.zero_add, Nat.zero_add, valF_acc l (a.toNat - 48), valF_acc m (b.toNat - 48), hlen, ← lex_help b1 b2]
    constructor
    · rintro (h1 | ⟨rfl, h1⟩)
      · have h1 : a.toNat < b.toNat := h1
        exact .inl (by omega)
      · exact .inr ⟨rfl, h1⟩
    · rintro (h1 | ⟨h2, h1⟩)
      · have h1 : a.toNat < b.toNat := by omega
        exact .inl h1
      · have : a = b := UInt8.toNat_inj.1 (by omega)
        exact .inr ⟨this, h1⟩
theorem dec_len_le {a b : Nat} (h : a ≤ b) : (decDigits a).length ≤ (decDigits b).length := by
  cases hl : (decDigits a).length with
  | zero => omega
  | succ k =>
    apply Classical.byContradiction
    intro hlt
    have h1 : b < 10 ^ k := Nat.lt_of_lt_of_le (dec_len_lt b) (Nat.pow_le_pow_right (by decide) (by omega))
    cases k with
    | zero =>
      have := (dec_size b).1
      omega
    | succ k =>
      have := (dec_size a).2 k (by omega)
      omega
/-- The reference's less. -/
theorem less_num (a b : Nat) : ((decDigits a).length < (decDigits b).length ∨ ((decDigits a).length = (decDigits b).length ∧ decDigits a < decDigits b)) ↔ a < b := by
  constructor
  · rintro (h | ⟨h1, h2⟩)
    · apply Classical.byContradiction
      intro hn
      have := dec_len_le (a := b) (b := a) (by omega)
      omega
    · have := (lt_val (dec_digs a) (dec_digs b) h1).1 h2
      rw [dec_val, dec_val] at this
      exact this
  · intro h
    have h1 := dec_len_le (Nat.le_of_lt h)
    rcases Nat.lt_or_ge (decDigits a).length (decDigits b).length with h2 | h2
    · exact .inl h2
    · refine .inr ⟨by omega, (lt_val (dec_digs a) (dec_digs b) (by omega)).2 ?_⟩
      rw [dec_val, dec_val]
      exact h
/-- What is carried over at place i. -/
def carry10 (a b i : Nat) : Nat := (a % 10 ^ i + b % 10 ^ i) / 10 ^ i
theorem carry10_zero (a b : Nat) : carry10 a b 0 = 0 := by simp [carry10, Nat.mod_one]
theorem add_step (a b i : Nat) : dg10 a i + dg10 b i + carry10 a b i = dg10 (a + b) i + 10 * carry10 a b (i + 1) := by
  have hP : 0 < 10 ^ i := Nat.pow_pos (by decide)
  have h1 := mod_step a i
  have h2 := mod_step b i
  have h3 := mod_step (a + b) i
  have h4 : (a + b) % 10 ^ (i + 1) = (a % 10 ^ (i + 1) + b % 10 ^ (i + 1)) % 10 ^ (i + 1) := Nat.add_mod _ _ _
  have h5 : (a + b) % 10 ^ i = (a % 10 ^ i + b % 10 ^ i) % 10 ^ i := Nat.add_mod _ _ _
  have h6 := Nat.div_add_mod (a % 10 ^ (i + 1) + b % 10 ^ (i + 1)) (10 ^ (i + 1))
  have h7 := Nat.div_add_mod (a % 10 ^ i + b % 10 ^ i) (10 ^ i)
  rw [← h4, h3] at h6
  rw [← h5] at h7
  unfold carry10
  rw [h1, h2] at h6 ⊢
  have hp : 10 ^ (i + 1) = 10 ^ i * 10 := Nat.pow_succ ..
  rw [hp] at h6 ⊢
  generalize dg10 a i = x at *
  generalize dg10 b i = y at *
  generalize dg10 (a + b) i = z at *
  generalize (x * 10 ^ i + a % 10 ^ i + (y * 10 ^ i + b % 10 ^ i)) / (10 ^ i * 10) = q at *
  generalize (a % 10 ^ i + b % 10 ^ i) / 10 ^ i = c at *
  generalize (a + b) % 10 ^ i = s at *
  generalize 10 ^ i = P at *
  have e : P * (x + y + c) = P * (z + 10 * q) := by
    have e1 : P * 10 * q = P * (10 * q) := Nat.mul_assoc ..
    have e2 : x * P = P * x := Nat.mul_comm ..
    have e3 : y * P = P * y := Nat.mul_comm ..
    have e4 : z * P = P * z := Nat.mul_comm ..
    rw [Nat.mul_add, Nat.mul_add, Nat.mul_add]
    omega
  exact Nat.eq_of_mul_eq_mul_left hP e
theorem carry10_le (a b i : Nat) : carry10 a b i ≤ 1 := by
  have hP : 0 < 10 ^ i := Nat.pow_pos (by decide)
  have h1 := Nat.mod_lt a hP
  have h2 := Nat.mod_lt b hP
  unfold carry10
  have : (a % 10 ^ i + b % 10 ^ i) / 10 ^ i < 2 := Nat.div_lt_of_lt_mul (by omega)
  omega
theorem add_done {a b i : Nat} (ha : (decDigits a).length ≤ i) (hb : (decDigits b).length ≤ i) (hc : carry10 a b i = 0) : a + b < 10 ^ i := by
  have h1 : a < 10 ^ i := Nat.lt_of_lt_of_le (dec_len_lt a) (Nat.pow_le_pow_right (by decide) ha)
  have h2 : b < 10 ^ i := Nat.lt_of_lt_of_le (dec_len_lt b) (Nat.pow_le_pow_right (by decide) hb)
  unfold carry10 at hc
  rw [Nat.mod_eq_of_lt h1, Nat.mod_eq_of_lt h2] at hc
  exact (Nat.div_eq_zero_iff_lt (Nat.pow_pos (by decide))).1 hc
/-- What is borrowed at place i. -/
def borrow10 (a b i : Nat) : Nat := if a % 10 ^ i < b % 10 ^ i then 1 else 0
theorem sub_step {a b : Nat} (h : b ≤ a) (i : Nat) : dg10 a i + 10 = dg10 b i + borrow10 a b i + dg10 (a - b) i + 10 * (1 - borrow10 a b (i + 1)) := by
  have hP : 0 < 10 ^ i := Nat.pow_pos (by decide)
  have h1 := mod_step a i
  have h2 := mod_step b i
  have h3 := add_step (a - b) b i
  rw [Nat.sub_add_cancel h] at h3
  have c1 : ∀ j, carry10 (a - b) b j = borrow10 a b j := fun j => by
    have hQ : 0 < 10 ^ j := Nat.pow_pos (by decide)
    have m1 := Nat.mod_lt (a - b) hQ
    have m2 := Nat.mod_lt b hQ
    have h5 : a % 10 ^ j = ((a - b) % 10 ^ j + b % 10 ^ j) % 10 ^ j := by rw [← Nat.add_mod, Nat.sub_add_cancel h]
    have h7 := Nat.div_add_mod ((a - b) % 10 ^ j + b % 10 ^ j) (10 ^ j)
    have h8 := carry10_le (a - b) b j
    rw [← h5] at h7
    unfold borrow10
    unfold carry10 at h8 ⊢
    rcases Nat.le_one_iff_eq_zero_or_eq_one.1 h8 with h9 | h9
    · rw [h9, Nat.mul_zero] at h7
      rw [h9, if_neg (by omega)]
    · rw [h9, Nat.mul_one] at h7
      rw [h9, if_pos (by omega)]
  rw [c1, c1] at h3
  have b1 : borrow10 a b (i + 1) ≤ 1 := by unfold borrow10; split <;> omega
  omega
/-- One digit more of a quotient. -/
theorem div10_step {b : Nat} (hb : 0 < b) (p d : Nat) : (p * 10 + d) / b = p / b * 10 + (p % b * 10 + d) / b ∧ (p * 10 + d) % b = (p % b * 10 + d) % b := by
  have h := Nat.div_add_mod p b
  have e : p * 10 + d = b * (p / b * 10) + (p % b * 10 + d) := by
    rw [← Nat.mul_assoc]
    omega
  constructor
  · rw [e, Nat.mul_add_div hb]
  · rw [e, Nat.mul_add_mod]
theorem rest_ten {b r d : Nat} (hr : r < b) (hd : d < 10) : (r * 10 + d) / b < 10 := Nat.div_lt_of_lt_mul (by
  have : (r + 1) * 10 ≤ b * 10 := Nat.mul_le_mul_right _ hr
  omega)
theorem div_count {b x n : Nat} (hb : 0 < b) (h : n * b ≤ x) (hl : x - n * b < b) : n = x / b ∧ x - n * b = x % b := by
  obtain ⟨y, rfl⟩ : ∃ y, x = n * b + y := ⟨x - n * b, by omega⟩
  rw [Nat.add_sub_cancel_left] at hl ⊢
  constructor
  · rw [Nat.mul_comm n b, Nat.mul_add_div hb, Nat.div_eq_of_lt hl, Nat.add_zero]
  · rw [Nat.mul_comm n b, Nat.mul_add_mod, Nat.mod_eq_of_lt hl]
end Go.Proofs.YtlkgoljpjeieiaaGreatDoor
