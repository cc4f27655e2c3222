/-
  The lexer of chapter 8 in plain words. No program.
-/
import Derived.Test.YtkomgidcgepknaaGreatDoorBase
set_option linter.unusedVariables false
set_option linter.unusedSimpArgs false
namespace Go.Proofs.YtkomgidcgepknaaGreatDoor

/-- The byte at i; 0 behind the end. -/
def bAt (s : ByteArray) (i : Nat) : Nat := if h : i < s.size then s[i].toNat else 0
theorem bAt_eq {s : ByteArray} {i : Nat} (h : i < s.size) : bAt s i = s[i].toNat := by unfold bAt; rw [dif_pos h]
theorem bAt_lt (s : ByteArray) (i : Nat) : bAt s i < 256 := by
  unfold bAt
  split
  · exact UInt8.toNat_lt _
  · omega
def isLetter (c : Nat) : Bool := (decide (97 ≤ c) && decide (c ≤ 122)) || (decide (65 ≤ c) && decide (c ≤ 90))
def isDigit (c : Nat) : Bool := decide (48 ≤ c) && decide (c ≤ 57)
def isWord (c : Nat) : Bool := isLetter c || isDigit c || c == 95
def symbols : List Nat := [59, 44, 46, 58, 40, 41, 91, 93, 123, 125, 43, 45, 42, 47]
/-- The class of a byte: 1 blank, 2 '#', 3 letter, 4 digit, 5 '_', 6 quote, 7 '!', 8 '<', '=', '>', 9 symbol, 0 other. -/
def cls (c : Nat) : Nat :=
  if isLetter c = true then 3 else if isDigit c = true then 4 else if c = 95 then 5 else if c = 32 ∨ c = 9 ∨ c = 10 then 1 else if c = 35 then 2
  else if c = 34 then 6 else if c = 33 then 7 else if c = 60 ∨ c = 61 ∨ c = 62 then 8 else if symbols.contains c = true then 9 else 0
theorem cls_le (c : Nat) : cls c ≤ 9 := by
  unfold cls
  repeat' split
  all_goals omega
def atC (s : ByteArray) (i : Nat) : Nat := if i < s.size then cls (bAt s i) else 0
theorem atC_le (s : ByteArray) (i : Nat) : atC s i ≤ 9 := by
  unfold atC
  split
  · exact cls_le _
  · omega
theorem atC_in {s : ByteArray} {i : Nat} (h : atC s i ≠ 0) : i < s.size := by
  unfold atC at h
  split at h
  · assumption
  · exact absurd rfl h

def inL (cl : List Int) (c : Nat) : Bool := cl.contains (c : Int)
def runE (s : ByteArray) (p : Nat → Bool) : Nat → Nat → Nat
  | 0, i => i
  | f + 1, i => if i < s.size ∧ p (atC s i) = true then runE s p f (i + 1) else i
/-- The first offset from i on whose class does not meet p. -/
def whileE (s : ByteArray) (p : Nat → Bool) (i : Nat) : Nat := runE s p (s.size - i) i
theorem whileE_step {s : ByteArray} {p : Nat → Bool} {i : Nat} (h : i < s.size) (hp : p (atC s i) = true) : whileE s p i = whileE s p (i + 1) := by
  unfold whileE
  rw [show s.size - i = (s.size - (i + 1)) + 1 by omega]
  show (if _ then _ else _) = _
  rw [if_pos ⟨h, hp⟩]
theorem whileE_stop {s : ByteArray} {p : Nat → Bool} {i : Nat} (h : ¬ (i < s.size ∧ p (atC s i) = true)) : whileE s p i = i := by
  unfold whileE
  cases s.size - i with
  | zero => rfl
  | succ f =>
    show (if _ then _ else _) = _
    rw [if_neg h]
theorem runE_ge (s : ByteArray) (p : Nat → Bool) : ∀ f i, i ≤ runE s p f i
  | 0, i => Nat.le_refl _
  | f + 1, i => by
    unfold runE
    split
    · have := runE_ge s p f (i + 1); omega
    · exact Nat.le_refl _
theorem whileE_ge (s : ByteArray) (p : Nat → Bool) (i : Nat) : i ≤ whileE s p i := runE_ge s p _ i
theorem runE_le (s : ByteArray) (p : Nat → Bool) : ∀ f i, i ≤ s.size → runE s p f i ≤ s.size
  | 0, i, h => h
  | f + 1, i, h => by
    unfold runE
    split
    · rename_i h2; exact runE_le s p f (i + 1) (by omega)
    · exact h
theorem whileE_le (s : ByteArray) (p : Nat → Bool) (i : Nat) (h : i ≤ s.size) : whileE s p i ≤ s.size := runE_le s p _ i h
theorem runE_all (s : ByteArray) (p : Nat → Bool) : ∀ f i j, i ≤ j → j < runE s p f i → p (atC s j) = true
  | 0, i, j, h1, h2 => by unfold runE at h2; omega
  | f + 1, i, j, h1, h2 => by
    unfold runE at h2
    split at h2
    · rename_i h3
      by_cases e : i = j
      · subst e; exact h3.2
      · exact runE_all s p f (i + 1) j (by omega) h2
    · omega
theorem whileE_all {s : ByteArray} {p : Nat → Bool} {i j : Nat} (h1 : i ≤ j) (h2 : j < whileE s p i) : p (atC s j) = true := runE_all s p _ i j h1 h2
theorem whileE_end {s : ByteArray} {p : Nat → Bool} {i : Nat} : ¬ (whileE s p i < s.size ∧ p (atC s (whileE s p i)) = true) := by
  have key : ∀ f i, s.size - i ≤ f → ¬ (runE s p f i < s.size ∧ p (atC s (runE s p f i)) = true) := by
    intro f
    induction f with
    | zero => intro i h; unfold runE; omega
    | succ f ih =>
      intro i h
      unfold runE
      split
      · exact ih (i + 1) (by omega)
      · assumption
  exact key _ i (Nat.le_refl _)
theorem whileE_eq {s : ByteArray} {p : Nat → Bool} {i e : Nat} (h1 : i ≤ e) (h2 : e ≤ s.size) (h3 : ∀ j, i ≤ j → j < e → p (atC s j) = true) (h4 : ¬ (e < s.size ∧ p (atC s e) = true)) : whileE s p i = e := by
  rcases Nat.lt_trichotomy (whileE s p i) e with h | h | h
  · exact absurd ⟨by omega, h3 _ (whileE_ge s p i) h⟩ whileE_end
  · exact h
  · refine absurd ⟨?_, whileE_all h1 h⟩ h4
    have := whileE_le s p i (by omega)
    omega

/-- The first byte c from i on. -/
def findB (s : ByteArray) (c : Nat → Bool) : Nat → Nat → Option Nat
  | 0, _ => none
  | f + 1, i => if i < s.size then (if c (bAt s i) = true then some i else findB s c f (i + 1)) else none
def find (s : ByteArray) (c : Nat → Bool) (i : Nat) : Option Nat := findB s c (s.size - i) i
theorem findB_some (s : ByteArray) (c : Nat → Bool) : ∀ f i k, findB s c f i = some k → i ≤ k ∧ k < s.size ∧ c (bAt s k) = true ∧ ∀ j, i ≤ j → j < k → c (bAt s j) = false
  | 0, i, k, h => by cases h
  | f + 1, i, k, h => by
    unfold findB at h
    split at h
    · split at h
      · injection h with h
        subst h
        exact ⟨Nat.le_refl _, by assumption, by assumption, fun j h1 h2 => by omega⟩
      · rename_i h2
        obtain ⟨h3, h4, h5, h6⟩ := findB_some s c f (i + 1) k h
        refine ⟨by omega, h4, h5, fun j h7 h8 => ?_⟩
        by_cases e : i = j
        · subst e; simpa using h2
        · exact h6 j (by omega) h8
    · cases h
theorem find_some {s : ByteArray} {c : Nat → Bool} {i k : Nat} (h : find s c i = some k) : i ≤ k ∧ k < s.size ∧ c (bAt s k) = true ∧ ∀ j, i ≤ j → j < k → c (bAt s j) = false := findB_some s c _ i k h
theorem findB_none (s : ByteArray) (c : Nat → Bool) : ∀ f i, s.size - i ≤ f → findB s c f i = none → ∀ j, i ≤ j → j < s.size → c (bAt s j) = false
  | 0, i, hf, _, j, h1, h2 => by omega
  | f + 1, i, hf, h, j, h1, h2 => by
    unfold findB at h
    rw [if_pos (by omega)] at h
    split at h
    · cases h
    · rename_i h3
      by_cases e : i = j
      · subst e; simpa using h3
      · exact findB_none s c f (i + 1) (by omega) h j (by omega) h2
theorem find_none {s : ByteArray} {c : Nat → Bool} {i : Nat} (h : find s c i = none) : ∀ j, i ≤ j → j < s.size → c (bAt s j) = false := findB_none s c _ i (Nat.le_refl _) h
theorem find_eq {s : ByteArray} {c : Nat → Bool} {i k : Nat} (h1 : i ≤ k) (h2 : k < s.size) (h3 : c (bAt s k) = true) (h4 : ∀ j, i ≤ j → j < k → c (bAt s j) = false) : find s c i = some k := by
  cases h : find s c i with
  | none =>
    have := find_none h k h1 h2
    rw [h3] at this
    cases this
  | some m =>
    obtain ⟨a1, a2, a3, a4⟩ := find_some h
    congr 1
    rcases Nat.lt_trichotomy m k with h5 | h5 | h5
    · have := h4 m a1 h5; rw [a3] at this; cases this
    · exact h5
    · have := a4 k h1 h5; rw [h3] at this; cases this
theorem find_eq_none {s : ByteArray} {c : Nat → Bool} {i : Nat} (h : ∀ j, i ≤ j → j < s.size → c (bAt s j) = false) : find s c i = none := by
  cases e : find s c i with
  | none => rfl
  | some m =>
    obtain ⟨a1, a2, a3, _⟩ := find_some e
    have := h m a1 a2
    rw [a3] at this
    cases this

def isBlank (c : Nat) : Bool := inL [1] c
def isNl (c : Nat) : Bool := c == 10
def gapF (s : ByteArray) : Nat → Nat → Nat
  | 0, i => whileE s isBlank i
  | f + 1, i => if atC s (whileE s isBlank i) = 2 then (match find s isNl (whileE s isBlank i) with | none => s.size | some k => gapF s f k) else whileE s isBlank i
/-- The end of the gaps that begin at i. -/
def gapE (s : ByteArray) (i : Nat) : Nat := gapF s (s.size + 1 - i) i
/-- The same, behind the blanks. -/
def gapJ (s : ByteArray) (j : Nat) : Nat := if atC s j = 2 then (match find s isNl j with | none => s.size | some k => gapE s k) else j
theorem gapF_enough (s : ByteArray) : ∀ f f' i, s.size + 1 - i ≤ f → s.size + 1 - i ≤ f' → gapF s f i = gapF s f' i
  | 0, f', i, h, h' => by
    have hi : s.size < i := by omega
    have hw : whileE s isBlank i = i := whileE_stop (by omega)
    cases f' with
    | zero => rfl
    | succ f' =>
      unfold gapF
      rw [hw, if_neg (by unfold atC; rw [if_neg (by omega)]; decide)]
  | f + 1, 0, i, h, h' => by
    have hi : s.size < i := by omega
    have hw : whileE s isBlank i = i := whileE_stop (by omega)
    unfold gapF
    rw [hw, if_neg (by unfold atC; rw [if_neg (by omega)]; decide)]
  | f + 1, f' + 1, i, h, h' => by
    unfold gapF
    split
    · rename_i hc
      cases hf : find s isNl (whileE s isBlank i) with
      | none => rfl
      | some k =>
        obtain ⟨a1, a2, a3, _⟩ := find_some hf
        have hge := whileE_ge s isBlank i
        have hne : whileE s isBlank i ≠ k := by
          intro e
          rw [← e] at a3 a2
          unfold atC at hc
          rw [if_pos a2] at hc
          have h10 : bAt s (whileE s isBlank i) = 10 := by simpa [isNl] using a3
          rw [h10] at hc
          exact absurd hc (by decide)
        exact gapF_enough s f f' k (by omega) (by omega)
    · rfl
theorem gapE_eq (s : ByteArray) (i : Nat) : gapE s i = gapJ s (whileE s isBlank i) := by
  unfold gapE gapJ
  have e := gapF_enough s (s.size + 1 - i) (s.size + 1 - i + 1) i (Nat.le_refl _) (by omega)
  rw [e]
  show (if _ then _ else _) = _
  split
  · rename_i hc
    cases hf : find s isNl (whileE s isBlank i) with
    | none => rfl
    | some k =>
      obtain ⟨a1, _, _, _⟩ := find_some hf
      have hge := whileE_ge s isBlank i
      exact gapF_enough s _ _ k (by omega) (Nat.le_refl _)
  · rfl
theorem gapF_ge (s : ByteArray) : ∀ f i, i ≤ s.size → i ≤ gapF s f i ∧ gapF s f i ≤ s.size
  | 0, i, h => ⟨whileE_ge _ _ _, whileE_le _ _ _ h⟩
  | f + 1, i, h => by
    unfold gapF
    have h1 := whileE_ge s isBlank i
    have h2 := whileE_le s isBlank i h
    split
    · cases hf : find s isNl (whileE s isBlank i) with
      | none => exact ⟨h, Nat.le_refl _⟩
      | some k =>
        obtain ⟨a1, a2, _, _⟩ := find_some hf
        have := gapF_ge s f k (by omega)
        exact ⟨by show i ≤ gapF s f k; omega, this.2⟩
    · exact ⟨h1, h2⟩
theorem gapE_ge (s : ByteArray) (i : Nat) (h : i ≤ s.size) : i ≤ gapE s i ∧ gapE s i ≤ s.size := gapF_ge s _ i h

/-- A token: its kind (1 name, 2 number, 3 string, 4 symbol), text, number and offset. -/
structure Tok where
  kind : Int
  text : ByteArray
  n : Int
  off : Int
/-- The number that decimal digits stand for. -/
def numD (s : ByteArray) : Nat → Nat → Int
  | _, 0 => 0
  | i, k + 1 => numD s i k * 10 + ((bAt s (i + k) : Int) - 48)
def isWordC (c : Nat) : Bool := inL [3, 4, 5] c
def isDigC (c : Nat) : Bool := inL [4] c
def isQuo (c : Nat) : Bool := c == 34 || c == 10
/-- What begins at i: a token and its end, or an error (then the end is 0). -/
def nextT (s : ByteArray) (i : Nat) : Int × Tok × Nat :=
  if atC s i = 3 then (if 24 < whileE s isWordC i - i then (2, ⟨0, ByteArray.empty, 0, 0⟩, 0) else (0, ⟨1, s.extract i (whileE s isWordC i), 0, i⟩, whileE s isWordC i))
  else if atC s i = 4 then
    (if 13 < whileE s isDigC i - i ∨ atC s (whileE s isDigC i) = 3 ∨ atC s (whileE s isDigC i) = 5 then (4, ⟨0, ByteArray.empty, 0, 0⟩, 0)
     else (0, ⟨2, s.extract i (whileE s isDigC i), numD s i (whileE s isDigC i - i), i⟩, whileE s isDigC i))
  else if atC s i = 6 then
    (match find s isQuo (i + 1) with
     | none => (6, ⟨0, ByteArray.empty, 0, 0⟩, 0)
     | some k => if bAt s k = 10 then (6, ⟨0, ByteArray.empty, 0, 0⟩, 0) else if 400 < k - (i + 1) then (2, ⟨0, ByteArray.empty, 0, 0⟩, 0) else (0, ⟨3, s.extract (i + 1) k, 0, i⟩, k + 1))
  else if atC s i = 7 ∨ atC s i = 8 then
    (if bAt s (i + 1) = 61 then (0, ⟨4, s.extract i (i + 2), 0, i⟩, i + 2) else if atC s i = 7 then (3, ⟨0, ByteArray.empty, 0, 0⟩, 0) else (0, ⟨4, s.extract i (i + 1), 0, i⟩, i + 1))
  else if atC s i = 9 then (0, ⟨4, s.extract i (i + 1), 0, i⟩, i + 1)
  else (3, ⟨0, ByteArray.empty, 0, 0⟩, 0)
theorem bAt_in {s : ByteArray} {i c : Nat} (h : bAt s i = c) (hc : c ≠ 0) : i < s.size := by
  unfold bAt at h
  split at h
  · assumption
  · exact absurd h.symm hc
theorem nextT_end {s : ByteArray} {i : Nat} (hi : i < s.size) (h : (nextT s i).1 = 0) : i < (nextT s i).2.2 ∧ (nextT s i).2.2 ≤ s.size := by
  unfold nextT at h ⊢
  split at h
  · rename_i hc
    rw [if_pos hc]
    split at h
    · exact absurd h (by decide)
    · rename_i h2
      rw [if_neg h2]
      have h1 : whileE s isWordC i = whileE s isWordC (i + 1) := whileE_step hi (by rw [hc]; rfl)
      have := whileE_ge s isWordC (i + 1)
      have := whileE_le s isWordC i (by omega)
      show i < whileE s isWordC i ∧ whileE s isWordC i ≤ s.size
      omega
  · rename_i hc
    rw [if_neg hc]
    split at h
    · rename_i hc2
      rw [if_pos hc2]
      split at h
      · exact absurd h (by decide)
      · rename_i h2
        rw [if_neg h2]
        have h1 : whileE s isDigC i = whileE s isDigC (i + 1) := whileE_step hi (by rw [hc2]; rfl)
        have := whileE_ge s isDigC (i + 1)
        have := whileE_le s isDigC i (by omega)
        show i < whileE s isDigC i ∧ whileE s isDigC i ≤ s.size
        omega
    · rename_i hc2
      rw [if_neg hc2]
      split at h
      · rename_i hc3
        rw [if_pos hc3]
        cases hf : find s isQuo (i + 1) with
        | none => rw [hf] at h; simp at h
        | some k =>
          rw [hf] at h
          simp only at h ⊢
          obtain ⟨a1, a2, _, _⟩ := find_some hf
          split at h
          · exact absurd h (by decide)
          · rename_i h2
            rw [if_neg h2]
            split at h
            · exact absurd h (by decide)
            · rename_i h3
              rw [if_neg h3]
              show i < k + 1 ∧ k + 1 ≤ s.size
              omega
      · rename_i hc3
        rw [if_neg hc3]
        split at h
        · rename_i hc4
          rw [if_pos hc4]
          split at h
          · rename_i h2
            rw [if_pos h2]
            have := bAt_in h2 (by decide)
            show i < i + 2 ∧ i + 2 ≤ s.size
            omega
          · rename_i h2
            rw [if_neg h2]
            split at h
            · exact absurd h (by decide)
            · rename_i h3
              rw [if_neg h3]
              show i < i + 1 ∧ i + 1 ≤ s.size
              omega
        · rename_i hc4
          rw [if_neg hc4]
          split at h
          · rename_i h2
            rw [if_pos h2]
            show i < i + 1 ∧ i + 1 ≤ s.size
            omega
          · exact absurd h (by decide)

/-- What Lex returns: tokens, an error, an offset. -/
structure LexR where
  toks : List Tok
  err : Int
  off : Int
def lexF (s : ByteArray) : Nat → Nat → List Tok → LexR
  | 0, _, acc => ⟨acc, 0, 0⟩
  | f + 1, i, acc => if i < s.size then
      (if (nextT s i).1 ≠ 0 then ⟨[], (nextT s i).1, i⟩ else if acc.length = 5000 then ⟨[], 2, i⟩ else lexF s f (gapE s (nextT s i).2.2) (acc ++ [(nextT s i).2.1]))
    else ⟨acc, 0, 0⟩
def lexI (s : ByteArray) (i : Nat) (acc : List Tok) : LexR := lexF s (s.size + 1 - i) i acc
def lexL (s : ByteArray) : LexR := if 20000 < s.size then ⟨[], 2, -1⟩ else lexI s (gapE s 0) []
theorem lexF_enough (s : ByteArray) : ∀ f f' i acc, s.size - i ≤ f → s.size - i ≤ f' → lexF s f i acc = lexF s f' i acc
  | 0, 0, _, _, _, _ => rfl
  | 0, f' + 1, i, acc, h, h' => by
    show _ = (if i < s.size then _ else _)
    rw [if_neg (by omega)]
    rfl
  | f + 1, 0, i, acc, h, h' => by
    show (if i < s.size then _ else _) = _
    rw [if_neg (by omega)]
    rfl
  | f + 1, f' + 1, i, acc, h, h' => by
    unfold lexF
    split
    · rename_i hi
      split
      · rfl
      · rename_i he
        split
        · rfl
        · have h1 := nextT_end hi (by simpa using he)
          have h2 := gapE_ge s (nextT s i).2.2 h1.2
          exact lexF_enough s f f' _ _ (by omega) (by omega)
    · rfl
theorem lexI_end {s : ByteArray} {i : Nat} (h : ¬ i < s.size) (acc : List Tok) : lexI s i acc = ⟨acc, 0, 0⟩ := by
  unfold lexI
  cases s.size + 1 - i with
  | zero => rfl
  | succ f =>
    show (if i < s.size then _ else _) = _
    rw [if_neg h]
theorem lexI_err {s : ByteArray} {i : Nat} (h : i < s.size) (he : (nextT s i).1 ≠ 0) (acc : List Tok) : lexI s i acc = ⟨[], (nextT s i).1, i⟩ := by
  unfold lexI
  rw [show s.size + 1 - i = (s.size - i) + 1 by omega]
  show (if i < s.size then _ else _) = _
  rw [if_pos h, if_pos he]
theorem lexI_full {s : ByteArray} {i : Nat} (h : i < s.size) (he : (nextT s i).1 = 0) (acc : List Tok) (ha : acc.length = 5000) : lexI s i acc = ⟨[], 2, i⟩ := by
  unfold lexI
  rw [show s.size + 1 - i = (s.size - i) + 1 by omega]
  show (if i < s.size then _ else _) = _
  rw [if_pos h, if_neg (by simpa using he), if_pos ha]
theorem lexI_next {s : ByteArray} {i : Nat} (h : i < s.size) (he : (nextT s i).1 = 0) (acc : List Tok) (ha : acc.length ≠ 5000) :
    lexI s i acc = lexI s (gapE s (nextT s i).2.2) (acc ++ [(nextT s i).2.1]) := by
  unfold lexI
  rw [show s.size + 1 - i = (s.size - i) + 1 by omega]
  show (if i < s.size then _ else _) = _
  rw [if_pos h, if_neg (by simpa using he), if_neg ha]
  have h1 := nextT_end h he
  have h2 := gapE_ge s (nextT s i).2.2 h1.2
  exact lexF_enough s _ _ _ _ (by omega) (by omega)
end Go.Proofs.YtkomgidcgepknaaGreatDoor
