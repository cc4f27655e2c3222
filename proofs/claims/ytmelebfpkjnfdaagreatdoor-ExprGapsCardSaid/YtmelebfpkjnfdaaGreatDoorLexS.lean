/-
  The lexer's tokens are well formed. No program.
-/
import Derived.Test.YtmelebfpkjnfdaaGreatDoorText
set_option linter.unusedVariables false
set_option linter.unusedSimpArgs false
namespace Go.Proofs.YtmelebfpkjnfdaaGreatDoor

theorem ba_list (t : ByteArray) : (⟨t.data.toList.toArray⟩ : ByteArray) = t := by cases t; simp
theorem list_len (t : ByteArray) : t.data.toList.length = t.size := Array.length_toList
theorem suf_at {s : ByteArray} {i : Nat} (h : i ≤ s.size) : Suf s i (s.data.toList.drop i) := ⟨h, rfl⟩
theorem list_extract (s : ByteArray) (i e : Nat) : (s.extract i e).data.toList = (s.data.toList.drop i).take (e - i) := by
  rw [Go.Lib.extract_eq]
theorem bAt_get {t : ByteArray} {j : Nat} (h : j < t.size) : t.data.toList[j]? = some (UInt8.ofNat (bAt t j)) := by
  rw [bAt_eq h]
  have : t.data.toList[j]? = some t[j] := by
    rw [Array.getElem?_toList]
    exact Array.getElem?_eq_getElem h
  rw [this]
  simp
/-- The bytes of a part. -/
theorem bAt_extract {s : ByteArray} {i e j : Nat} (he : e ≤ s.size) (hj : i + j < e) : bAt (s.extract i e) j = bAt s (i + j) := by
  have hl : (s.extract i e).data.toList[j]? = s.data.toList[i + j]? := by
    rw [list_extract, List.getElem?_take_of_lt (by omega), List.getElem?_drop]
  have h1 := bAt_get (t := s.extract i e) (j := j) (by rw [extract_size s i e he]; omega)
  have h2 := bAt_get (t := s) (j := i + j) (by omega)
  rw [h1, h2] at hl
  injection hl with hl
  have h3 := congrArg UInt8.toNat hl
  rw [UInt8.toNat_ofNat', UInt8.toNat_ofNat'] at h3
  have := bAt_lt s (i + j)
  have := bAt_lt (s.extract i e) j
  omega
/-- A token as the lexer makes them: names, numbers, strings or symbols. -/
def tokOk (t : Tok) : Prop :=
  (t.kind = 1 → nameB t.text = true ∧ t.n = 0) ∧
  (t.kind = 2 → (∀ c ∈ t.text.data.toList, isDigit c.toNat = true) ∧ 1 ≤ t.text.size ∧ t.text.size ≤ 13 ∧ t.n = numV t.text.data.toList) ∧
  (t.kind = 4 → t.n = 0 ∧ ∃ c : UInt8, (t.text.data.toList = [c] ∧ (cls c.toNat = 9 ∨ cls c.toNat = 8)) ∨ (t.text.data.toList = [c, 61] ∧ (cls c.toNat = 7 ∨ cls c.toNat = 8)))
theorem digit_of_cls {c : Nat} (h : cls c = 4) : isDigit c = true := by
  cases hd : isDigit c
  · unfold cls at h
    split at h
    · omega
    · rw [hd] at h
      rw [if_neg (by decide)] at h
      repeat' split at h
      all_goals omega
  · rfl
theorem next_ok {s : ByteArray} {i : Nat} (hi : i < s.size) (h : (nextT s i).1 = 0) : tokOk (nextT s i).2.1 := by
  have hin : ∀ j, j < s.size → atC s j = cls (bAt s j) := fun j hj => by unfold atC; rw [if_pos hj]
  unfold nextT at h ⊢
  by_cases h3 : atC s i = 3
  · rw [if_pos h3] at h ⊢
    by_cases h24 : 24 < whileE s isWordC i - i
    · rw [if_pos h24] at h; exact absurd h (by decide)
    · rw [if_neg h24]
      refine ⟨fun _ => ⟨?_, rfl⟩, fun h => by have h : (1 : Int) = 2 := h; omega, fun h => by have h : (1 : Int) = 4 := h; omega⟩
      have hle := whileE_le s isWordC i (by omega)
      have h1 : whileE s isWordC i = whileE s isWordC (i + 1) := whileE_step hi (by rw [h3]; rfl)
      have h2 := whileE_ge s isWordC (i + 1)
      have hsz : (s.extract i (whileE s isWordC i)).size = whileE s isWordC i - i := extract_size s i _ hle
      show nameB (s.extract i (whileE s isWordC i)) = true
      unfold nameB
      simp only [Bool.and_eq_true, decide_eq_true_eq]
      refine ⟨⟨⟨by omega, by omega⟩, ?_⟩, ?_⟩
      · rw [bAt_extract hle (by omega), Nat.add_zero]
        rw [hin i hi] at h3
        exact (cls_letter _).1 h3
      · rw [List.all_eq_true]
        intro j hj
        rw [List.mem_range, hsz] at hj
        rw [bAt_extract hle (by omega)]
        have := whileE_all (s := s) (p := isWordC) (i := i) (j := i + j) (by omega) (by omega)
        rwa [atC_word (by omega)] at this
  rw [if_neg h3] at h ⊢
  by_cases h4 : atC s i = 4
  · rw [if_pos h4] at h ⊢
    by_cases h13 : 13 < whileE s isDigC i - i ∨ atC s (whileE s isDigC i) = 3 ∨ atC s (whileE s isDigC i) = 5
    · rw [if_pos h13] at h; exact absurd h (by decide)
    · rw [if_neg h13]
      refine ⟨fun h => by have h : (2 : Int) = 1 := h; omega, fun _ => ?_, fun h => by have h : (2 : Int) = 4 := h; omega⟩
      have hle := whileE_le s isDigC i (by omega)
      have h1 : whileE s isDigC i = whileE s isDigC (i + 1) := whileE_step hi (by rw [h4]; rfl)
      have h2 := whileE_ge s isDigC (i + 1)
      have hsz : (s.extract i (whileE s isDigC i)).size = whileE s isDigC i - i := extract_size s i _ hle
      refine ⟨?_, ?_, ?_, ?_⟩
      · intro c hc
        obtain ⟨j, hj, rfl⟩ := List.getElem_of_mem hc
        have hj' : j < (s.extract i (whileE s isDigC i)).size := by rw [← list_len]; exact hj
        have hb := bAt_get hj'
        have hg : (s.extract i (whileE s isDigC i)).data.toList[j]? = some _ := List.getElem?_eq_getElem hj
        have hb2 := bAt_list hg
        rw [ba_list] at hb2
        have e1 := bAt_extract (s := s) (i := i) (e := whileE s isDigC i) (j := j) hle (by omega)
        have := whileE_all (s := s) (p := isDigC) (i := i) (j := i + j) (by omega) (by omega)
        have hlt : i + j < s.size := by omega
        rw [hin _ hlt, ← e1, hb2] at this
        refine digit_of_cls ?_
        generalize (s.extract i (whileE s isDigC i)).data.toList[j]'hj = x at this ⊢
        unfold isDigC inL at this
        simp at this
        omega
      · show 1 ≤ (s.extract i _).size
        omega
      · show (s.extract i _).size ≤ 13
        omega
      · show numD s i (whileE s isDigC i - i) = _
        rw [list_extract, numD_V (suf_at (Nat.le_of_lt hi)) _ (by rw [List.length_drop, list_len]; omega)]
  rw [if_neg h4] at h ⊢
  by_cases h6 : atC s i = 6
  · rw [if_pos h6] at h ⊢
    cases hf : find s isQuo (i + 1) with
    | none => rw [hf] at h; have h : (6 : Int) = 0 := h; omega
    | some k =>
      rw [hf] at h
      dsimp only at h ⊢
      by_cases c1 : bAt s k = 10
      · rw [if_pos c1] at h; exact absurd h (by decide)
      rw [if_neg c1] at h ⊢
      by_cases c2 : 400 < k - (i + 1)
      · rw [if_pos c2] at h; exact absurd h (by decide)
      rw [if_neg c2]
      exact ⟨fun h => by have h : (3 : Int) = 1 := h; omega, fun h => by have h : (3 : Int) = 2 := h; omega, fun h => by have h : (3 : Int) = 4 := h; omega⟩
  rw [if_neg h6] at h ⊢
  have one : i + 1 ≤ s.size → (s.extract i (i + 1)).data.toList = [UInt8.ofNat (bAt s i)] := fun hle => by
    have hl : (s.extract i (i + 1)).data.toList.length = 1 := by rw [list_len, extract_size s i _ hle]; omega
    obtain ⟨c, hc⟩ := List.length_eq_one_iff.1 hl
    have hb := bAt_get (t := s.extract i (i + 1)) (j := 0) (by rw [extract_size s i _ hle]; omega)
    rw [bAt_extract hle (by omega), hc] at hb
    injection hb with hb
    rw [hc, hb]
    rfl
  have byte : (UInt8.ofNat (bAt s i)).toNat = bAt s i := by
    rw [UInt8.toNat_ofNat']
    have := bAt_lt s i
    omega
  by_cases h78 : atC s i = 7 ∨ atC s i = 8
  · rw [if_pos h78] at h ⊢
    by_cases h61 : bAt s (i + 1) = 61
    · rw [if_pos h61]
      have hlt := bAt_in h61 (by decide)
      refine ⟨fun h => by have h : (4 : Int) = 1 := h; omega, fun h => by have h : (4 : Int) = 2 := h; omega, fun _ => ⟨rfl, UInt8.ofNat (bAt s i), .inr ⟨?_, ?_⟩⟩⟩
      · show (s.extract i (i + 2)).data.toList = _
        have hl : (s.extract i (i + 2)).data.toList.length = 2 := by rw [list_len, extract_size s i _ (by omega)]; omega
        have b0 := bAt_get (t := s.extract i (i + 2)) (j := 0) (by rw [extract_size s i _ (by omega)]; omega)
        have b1 := bAt_get (t := s.extract i (i + 2)) (j := 1) (by rw [extract_size s i _ (by omega)]; omega)
        rw [bAt_extract (by omega) (by omega)] at b0 b1
        rw [h61] at b1
        rw [Nat.add_zero] at b0
        generalize (s.extract i (i + 2)).data.toList = l at hl b0 b1
        match l, hl, b0, b1 with
        | [a, b], _, b0, b1 =>
          injection b0 with b0
          injection b1 with b1
          rw [b0, b1]
          rfl
      · rw [byte, ← hin i hi]; exact h78
    · rw [if_neg h61] at h ⊢
      by_cases h7 : atC s i = 7
      · rw [if_pos h7] at h; exact absurd h (by decide)
      · rw [if_neg h7]
        refine ⟨fun h => by have h : (4 : Int) = 1 := h; omega, fun h => by have h : (4 : Int) = 2 := h; omega, fun _ => ⟨rfl, UInt8.ofNat (bAt s i), .inl ⟨one (by omega), ?_⟩⟩⟩
        rw [byte, ← hin i hi]
        omega
  rw [if_neg h78] at h ⊢
  by_cases h9 : atC s i = 9
  · rw [if_pos h9]
    refine ⟨fun h => by have h : (4 : Int) = 1 := h; omega, fun h => by have h : (4 : Int) = 2 := h; omega, fun _ => ⟨rfl, UInt8.ofNat (bAt s i), .inl ⟨one (by omega), ?_⟩⟩⟩
    rw [byte, ← hin i hi]
    exact .inl h9
  · rw [if_neg h9] at h; exact absurd h (by decide)
theorem lexF_ok (s : ByteArray) : ∀ (f i : Nat) (acc : List Tok), (∀ t ∈ acc, tokOk t) → ∀ t ∈ (lexF s f i acc).toks, tokOk t
  | 0, i, acc, h => h
  | f + 1, i, acc, h => by
    unfold lexF
    split
    · rename_i hi
      split
      · exact fun t ht => by cases ht
      · rename_i he
        split
        · exact fun t ht => by cases ht
        · refine lexF_ok s f _ _ fun t ht => ?_
          rcases List.mem_append.1 ht with ht | ht
          · exact h t ht
          · rw [List.mem_singleton.1 ht]
            exact next_ok hi (by simpa using he)
    · exact h
theorem lexL_ok (s : ByteArray) : ∀ t ∈ (lexL s).toks, tokOk t := by
  unfold lexL
  split
  · exact fun t ht => by cases ht
  · exact lexF_ok s _ _ [] fun t ht => by cases ht
end Go.Proofs.YtmelebfpkjnfdaaGreatDoor
