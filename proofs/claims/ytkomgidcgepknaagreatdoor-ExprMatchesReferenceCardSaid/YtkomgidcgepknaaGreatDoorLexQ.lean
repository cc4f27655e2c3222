/-
  The lexer's searches and the library's words for them. No program.
-/
import Derived.Test.YtkomgidcgepknaaGreatDoorLexP
import Derived.Lib.Bytealg
import Derived.Lib.IndexAny
import Derived.Lib.Atoi
import Derived.Lib.Strings
set_option linter.unusedVariables false
set_option linter.unusedSimpArgs false
namespace Go.Proofs.YtkomgidcgepknaaGreatDoor
open Go.Lib

theorem byte_at (s : ByteArray) (k : Nat) : s.data.toList[k]? = if h : k < s.size then some s[k] else none := by
  have e : s.data.toList.length = s.size := rfl
  by_cases h : k < s.size
  · rw [dif_pos h, List.getElem?_eq_getElem (by rw [e]; exact h)]
    rfl
  · rw [dif_neg h, List.getElem?_eq_none (by rw [e]; omega)]
theorem tail_list (s : ByteArray) (j : Nat) : (s.extract j s.size).data.toList = s.data.toList.drop j := by
  rw [ByteArray.data_extract, Array.toList_extract]
  exact List.take_of_length_le (by simp)
/-- Is the byte with this number one of these? -/
def oneOf (chars : List UInt8) (c : Nat) : Bool := chars.any fun b => b.toNat == c
theorem oneOf_eq (chars : List UInt8) (b : UInt8) : oneOf chars b.toNat = chars.contains b := by
  unfold oneOf
  rw [Bool.eq_iff_iff]
  simp only [List.any_eq_true, beq_iff_eq, List.contains_iff_mem]
  constructor
  · rintro ⟨x, hx, e⟩
    rw [← UInt8.toNat_inj.1 e]; exact hx
  · intro h
    exact ⟨b, h, rfl⟩
theorem find_any (s : ByteArray) (j : Nat) (chars : List UInt8) :
    indexAny (s.data.toList.drop j) chars = match find s (oneOf chars) j with | none => -1 | some k => ((k - j : Nat) : Int) := by
  have no : ∀ m, (∀ i, j ≤ i → i < m → oneOf chars (bAt s i) = false) → m ≤ s.size → NoAny (s.data.toList.drop j) chars (m - j) := by
    intro m hm hms i b hi hb
    rw [List.getElem?_drop, byte_at, dif_pos (by omega)] at hb
    injection hb with hb
    have := hm (j + i) (by omega) (by omega)
    rw [bAt_eq (by omega : j + i < s.size), oneOf_eq, hb] at this
    exact this
  cases hf : find s (oneOf chars) j with
  | none =>
    refine indexAny_none ?_
    have := no s.size (fun i h1 h2 => find_none hf i h1 h2) (Nat.le_refl _)
    rw [List.length_drop]
    exact this
  | some k =>
    obtain ⟨a1, a2, a3, a4⟩ := find_some hf
    refine indexAny_hit (x := s[k]) (no k a4 (by omega)) ?_ ?_
    · rw [List.getElem?_drop, byte_at, dif_pos (by omega)]
      congr 1
      congr 1
      omega
    · rw [← oneOf_eq, ← bAt_eq a2]; exact a3
theorem find_byte (s : ByteArray) (j : Nat) (c : UInt8) :
    indexByte (s.data.toList.drop j) c = match find s (oneOf [c]) j with | none => -1 | some k => ((k - j : Nat) : Int) := by
  rw [← indexAny_one, find_any]
theorem oneOf_nl : oneOf [10] = isNl := by
  funext c
  show (10 == c || false) = (c == 10)
  rw [Bool.or_false, Bool.eq_iff_iff]
  simp only [beq_iff_eq]
  exact eq_comm
theorem oneOf_quo : oneOf [34, 10] = isQuo := by
  funext c
  show (34 == c || (10 == c || false)) = (c == 34 || c == 10)
  rw [Bool.or_false, Bool.eq_iff_iff]
  simp only [beq_iff_eq, Bool.or_eq_true]
  constructor <;> rintro (h | h) <;> subst h <;> simp

theorem part_list (s : ByteArray) (i e : Nat) : (s.extract i e).data.toList = (s.data.toList.drop i).take (e - i) := by
  rw [ByteArray.data_extract, Array.toList_extract]
theorem part_at (s : ByteArray) {i e k : Nat} (h : i + k < e) (he : e ≤ s.size) : (s.extract i e).data.toList[k]? = some s[i + k] := by
  rw [part_list, List.getElem?_take, if_pos (by omega), List.getElem?_drop, byte_at, dif_pos (by omega)]
/-- The number of k digits, as a natural number. -/
def numN (s : ByteArray) (i : Nat) : Nat → Nat
  | 0 => 0
  | k + 1 => numN s i k * 10 + (bAt s (i + k) - 48)
theorem cls_digit {c : Nat} (h : cls c = 4) : 48 ≤ c ∧ c ≤ 57 := by
  unfold cls at h
  by_cases h1 : isLetter c = true
  · rw [if_pos h1] at h; omega
  · rw [if_neg h1] at h
    by_cases h2 : isDigit c = true
    · simpa [isDigit] using h2
    · rw [if_neg h2] at h
      repeat' split at h
      all_goals omega
theorem atC_digit {s : ByteArray} {i : Nat} (h : atC s i = 4) : 48 ≤ bAt s i ∧ bAt s i ≤ 57 := by
  have hi := atC_in (by rw [h]; decide)
  unfold atC at h
  rw [if_pos hi] at h
  exact cls_digit h
theorem numN_eq (s : ByteArray) (i : Nat) : ∀ k, (∀ j, j < k → atC s (i + j) = 4) → ((numN s i k : Nat) : Int) = numD s i k
  | 0, _ => rfl
  | k + 1, h => by
    have ih := numN_eq s i k (fun j hj => h j (by omega))
    have hd := atC_digit (h k (by omega))
    show ((numN s i k * 10 + (bAt s (i + k) - 48) : Nat) : Int) = numD s i k * 10 + ((bAt s (i + k) : Int) - 48)
    omega
theorem decFrom_digits (s : ByteArray) (i e : Nat) (he : e ≤ s.size) (h : ∀ j, i ≤ j → j < e → atC s j = 4) : ∀ k, i + k ≤ e → decFrom 0 ((s.extract i e).data.toList.take k) = some (numN s i k)
  | 0, _ => by simp [decFrom, numN]
  | k + 1, hk => by
    have ih := decFrom_digits s i e he h k (by omega)
    have hd := atC_digit (h (i + k) (by omega) (by omega))
    rw [bAt_eq (by omega : i + k < s.size)] at hd
    refine (decFrom_take _ k 0 _ s[i + k] (s[i + k].toNat - 48) ih (part_at s (by omega) he) ?_).trans ?_
    · unfold digitVal
      rw [if_pos hd]
    · rw [numN, bAt_eq (by omega : i + k < s.size)]
theorem atoi_digits (s : ByteArray) (i e : Nat) (hie : i < e) (he : e ≤ s.size) (h : ∀ j, i ≤ j → j < e → atC s j = 4) : atoi (s.extract i e).data.toList = some (numD s i (e - i)) := by
  have hd := decFrom_digits s i e he h (e - i) (by omega)
  have hl : (s.extract i e).data.toList.length = e - i := by
    show (s.extract i e).size = _
    rw [ByteArray.size_extract, Nat.min_eq_left he]
  rw [List.take_of_length_le (by omega)] at hd
  have h0 := part_at s (i := i) (e := e) (k := 0) (by omega) he
  have hb := atC_digit (h i (Nat.le_refl _) hie)
  rw [bAt_eq (by omega : i < s.size)] at hb
  have hn := numN_eq s i (e - i) (fun j hj => h (i + j) (by omega) (by omega))
  cases hL : (s.extract i e).data.toList with
  | nil => rw [hL] at hl; simp at hl; omega
  | cons b r =>
    rw [hL] at hd h0
    simp only [List.getElem?_cons_zero, Option.some.injEq, Nat.add_zero] at h0
    have h45 : (b == 45) = false := by
      rw [beq_eq_false_iff_ne]; intro e; rw [h0] at e; rw [e] at hb; exact absurd hb.1 (by decide)
    have h43 : (b == 43) = false := by
      rw [beq_eq_false_iff_ne]; intro e; rw [h0] at e; rw [e] at hb; exact absurd hb.1 (by decide)
    unfold atoi
    dsimp only
    rw [h45, h43]
    simp only [Bool.false_eq_true, if_false]
    unfold decNat
    simp only [List.isEmpty_cons, Bool.false_eq_true, if_false]
    rw [hd]
    simp [hn]
theorem hasPrefix_one (s : ByteArray) (j : Nat) (c : UInt8) (hc : c ≠ 0) : hasPrefix (s.extract j s.size).data.toList [c] = decide (bAt s j = c.toNat) := by
  rw [tail_list]
  unfold hasPrefix
  by_cases h : j < s.size
  · have e : s.data.toList.drop j = s[j] :: s.data.toList.drop (j + 1) := List.drop_eq_getElem_cons (by exact h)
    rw [e, bAt_eq h, Bool.eq_iff_iff]
    simp only [List.isPrefixOf, Bool.and_true, beq_iff_eq, decide_eq_true_eq]
    constructor
    · intro h; rw [h]
    · intro h; exact (UInt8.toNat_inj.1 h).symm
  · have e : s.data.toList.drop j = [] := List.drop_eq_nil_of_le (by have : s.data.toList.length = s.size := rfl; omega)
    rw [e]
    have : bAt s j = 0 := by unfold bAt; rw [dif_neg h]
    rw [this]
    symm
    simp only [List.isPrefixOf, decide_eq_false_iff_not]
    intro h
    exact hc (UInt8.toNat_inj.1 (by simpa using h.symm))
end Go.Proofs.YtkomgidcgepknaaGreatDoor
