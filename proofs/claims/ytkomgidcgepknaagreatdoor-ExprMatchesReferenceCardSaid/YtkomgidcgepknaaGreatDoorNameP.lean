/-
  What is a name, in plain words: by the lexer, and letter by letter.
-/
import Derived.Test.YtkomgidcgepknaaGreatDoorLexP
set_option linter.unusedVariables false
set_option linter.unusedSimpArgs false
namespace Go.Proofs.YtkomgidcgepknaaGreatDoor

/-- A name, letter by letter. -/
def nameB (s : ByteArray) : Bool := decide (1 ≤ s.size) && decide (s.size ≤ 24) && isLetter (bAt s 0) && (List.range s.size).all fun i => isWord (bAt s i)
/-- A name, by the lexer: one token, a name, of the whole text. -/
def lexName (s : ByteArray) : Bool :=
  (lexL s).err == 0 && (match (lexL s).toks with | [t] => t.kind == 1 && decide (t.text = s) | _ => false)
theorem cls_letter (c : Nat) : cls c = 3 ↔ isLetter c = true := by
  unfold cls
  split
  · rename_i h; simp [h]
  · rename_i h
    constructor
    · intro e
      repeat' (split at e)
      all_goals exact absurd e (by decide)
    · intro e; exact absurd e h
theorem cls_word (c : Nat) : isWordC (cls c) = isWord c := by
  unfold isWordC inL isWord
  cases hl : isLetter c
  · cases hd : isDigit c
    · by_cases h5 : c = 95
      · subst h5; rfl
      · have : cls c ≠ 3 ∧ cls c ≠ 4 ∧ cls c ≠ 5 := by
          unfold cls
          rw [if_neg (by rw [hl]; decide), if_neg (by rw [hd]; decide), if_neg h5]
          repeat' split
          all_goals decide
        have h6 : (c == 95) = false := by simp [h5]
        rw [h6]
        simp
        omega
    · have : cls c = 4 := by
        unfold cls
        rw [if_neg (by rw [hl]; decide), if_pos hd]
      rw [this]
      rfl
  · have : cls c = 3 := (cls_letter c).2 hl
    rw [this]
    rfl
theorem atC_word {s : ByteArray} {i : Nat} (h : i < s.size) : isWordC (atC s i) = isWord (bAt s i) := by
  unfold atC
  rw [if_pos h, cls_word]
theorem extract_size (s : ByteArray) (i e : Nat) (he : e ≤ s.size) : (s.extract i e).size = e - i := by
  rw [ByteArray.size_extract, Nat.min_eq_left he]
theorem nextT_kind {s : ByteArray} {i : Nat} (h : ¬ atC s i = 3) : ¬ (nextT s i).2.1.kind = 1 := by
  unfold nextT
  rw [if_neg h]
  cases find s isQuo (i + 1) <;> (repeat' split) <;> simp
theorem lexName_eq (s : ByteArray) : lexName s = nameB s := by
  rw [Bool.eq_iff_iff]
  constructor
  · intro h
    unfold lexName at h
    rw [Bool.and_eq_true] at h
    obtain ⟨h1, h2⟩ := h
    cases ht : (lexL s).toks with
    | nil => rw [ht] at h2; cases h2
    | cons t l =>
      cases l with
      | cons _ _ => rw [ht] at h2; cases h2
      | nil =>
        rw [ht] at h2
        simp only [Bool.and_eq_true, beq_iff_eq, decide_eq_true_eq] at h1 h2
        -- the lexer's way
        unfold lexL at ht h1
        split at ht
        · cases ht
        · rename_i hsz
          rw [if_neg hsz] at h1
          by_cases hi : gapE s 0 < s.size
          · by_cases he : (nextT s (gapE s 0)).1 = 0
            · have hn := lexI_next hi he [] (by simp)
              rw [hn, List.nil_append] at ht h1
              have h0 := nextT_end hi he
              have h3 := gapE_ge s _ h0.2
              have htt : t = (nextT s (gapE s 0)).2.1 := by
                by_cases hi2 : gapE s (nextT s (gapE s 0)).2.2 < s.size
                · by_cases he2 : (nextT s (gapE s (nextT s (gapE s 0)).2.2)).1 = 0
                  · exfalso
                    rw [lexI_next hi2 he2 _ (by simp)] at ht
                    have key : ∀ f i acc, acc.length ≥ 2 → (lexF s f i acc).err = 0 → (lexF s f i acc).toks.length ≥ 2 := by
                      intro f
                      induction f with
                      | zero => intro i acc ha _; exact ha
                      | succ f ih =>
                        intro i acc ha hz
                        unfold lexF at hz ⊢
                        split
                        · rename_i h5
                          rw [if_pos h5] at hz
                          split
                          · rename_i h6
                            rw [if_pos h6] at hz
                            exact absurd hz h6
                          · rename_i h6
                            rw [if_neg h6] at hz
                            split
                            · rename_i h7
                              rw [if_pos h7] at hz
                              exact absurd hz (by simp)
                            · rename_i h7
                              rw [if_neg h7] at hz
                              exact ih _ _ (by simp; omega) hz
                        · exact ha
                    rw [lexI_next hi2 he2 _ (by simp)] at h1
                    have h9 := key (s.size + 1 - gapE s (nextT s (gapE s (nextT s (gapE s 0)).2.2)).2.2) (gapE s (nextT s (gapE s (nextT s (gapE s 0)).2.2)).2.2) ([(nextT s (gapE s 0)).2.1] ++ [(nextT s (gapE s (nextT s (gapE s 0)).2.2)).2.1]) (by simp) h1
                    unfold lexI at ht
                    rw [ht] at h9
                    simp at h9
                  · rw [lexI_err hi2 he2] at ht; cases ht
                · rw [lexI_end hi2] at ht
                  injection ht with ht _
                  exact ht.symm
              rw [htt] at h2
              by_cases hc : atC s (gapE s 0) = 3
              · unfold nextT at h2 he h0
                rw [if_pos hc] at he h0 h2
                split at h2
                · exact absurd h2.1 (by simp)
                · rename_i h24
                  rw [if_neg h24] at h0
                  have hext : s.extract (gapE s 0) (whileE s isWordC (gapE s 0)) = s := h2.2
                  have hs1 : (s.extract (gapE s 0) (whileE s isWordC (gapE s 0))).size = s.size := by rw [hext]
                  have hle := whileE_le s isWordC (gapE s 0) (by omega)
                  rw [extract_size _ _ _ hle] at hs1
                  have hz : gapE s 0 = 0 := by omega
                  rw [hz] at hc h24 hs1 hle
                  have hw : whileE s isWordC 0 = s.size := by omega
                  have hpos : 0 < s.size := by omega
                  unfold nameB
                  simp only [Bool.and_eq_true, decide_eq_true_eq, List.all_eq_true, List.mem_range]
                  refine ⟨⟨⟨by omega, by omega⟩, ?_⟩, fun i hi => ?_⟩
                  · unfold atC at hc
                    rw [if_pos hpos] at hc
                    exact (cls_letter _).1 hc
                  · have := whileE_all (s := s) (p := isWordC) (i := 0) (j := i) (Nat.zero_le _) (by omega)
                    rwa [atC_word hi] at this
              · exact absurd h2.1 (nextT_kind hc)
            · rw [lexI_err hi he] at ht; cases ht
          · rw [lexI_end hi] at ht; cases ht
  · intro h
    unfold nameB at h
    simp only [Bool.and_eq_true, decide_eq_true_eq, List.all_eq_true, List.mem_range] at h
    obtain ⟨⟨⟨h1, h2⟩, h3⟩, h4⟩ := h
    have hc0 : atC s 0 = 3 := by
      unfold atC
      rw [if_pos (by omega)]
      exact (cls_letter _).2 h3
    have hw0 : whileE s isBlank 0 = 0 := whileE_stop (by rw [hc0]; intro ⟨_, e⟩; cases e)
    have hg0 : gapE s 0 = 0 := by
      rw [gapE_eq, hw0]
      unfold gapJ
      rw [if_neg (by rw [hc0]; decide)]
    have hw : whileE s isWordC 0 = s.size := whileE_eq (Nat.zero_le _) (Nat.le_refl _) (fun j _ hj => by rw [atC_word hj]; exact h4 j hj) (by omega)
    have hx : s.extract 0 s.size = s := by simp
    have hn : nextT s 0 = (0, ⟨1, s, 0, 0⟩, s.size) := by
      unfold nextT
      rw [if_pos hc0, hw, if_neg (by omega), hx]
      rfl
    have hend : gapE s s.size = s.size := by
      have := gapE_ge s s.size (Nat.le_refl _)
      omega
    have hL : lexL s = ⟨[⟨1, s, 0, 0⟩], 0, 0⟩ := by
      unfold lexL
      rw [if_neg (by omega), hg0, lexI_next (by omega) (by rw [hn]) [] (by simp), hn]
      show lexI s (gapE s s.size) ([] ++ [⟨1, s, 0, 0⟩]) = _
      rw [hend, lexI_end (by omega)]
      rfl
    unfold lexName
    rw [hL]
    simp
end Go.Proofs.YtkomgidcgepknaaGreatDoor
