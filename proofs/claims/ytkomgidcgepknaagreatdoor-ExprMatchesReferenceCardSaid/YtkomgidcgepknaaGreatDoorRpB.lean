/-
  The reference parser (chapter 21): Parse.
-/
import Derived.Test.YtkomgidcgepknaaGreatDoorTools
import Derived.Test.YtkomgidcgepknaaGreatDoorNameP
import Derived.Test.YtkomgidcgepknaaGreatDoorLexW
import Derived.Deep.CutBlock
import Derived.Deep.DeepCutAuto
import Derived.Test.YtkomgidcgepknaaGreatDoorParP
import Derived.Test.YtkomgidcgepknaaGreatDoorExpL
import Derived.Test.YtkomgidcgepknaaGreatDoorRefN
import Derived.Test.YtkomgidcgepknaaGreatDoorExpP
set_option linter.unusedVariables false
set_option linter.unusedSimpArgs false
namespace Go.Proofs.YtkomgidcgepknaaGreatDoor
open Go.RowKit Go.Deep Go.Maps

set_option maxHeartbeats 1000000 in
theorem letter_any (n : Nat) (hn : n < 256) (w : World) : Calls Tryz.prog 140 #[.int .u8 n] w fun e w' => e = .returned (.bool (isLetter n)) ∧ w = w' := by
  have HB : Hid (isLetter n = ((decide (97 ≤ n) && decide (n ≤ 122)) || (decide (65 ≤ n) && decide (n ≤ 90)))) := rfl
  cases e1 : decide (97 ≤ n) <;> cases e2 : decide (n ≤ 122) <;> cases e3 : decide (65 ≤ n) <;> cases e4 : decide (n ≤ 90)
  all_goals
    rw [e1, e2, e3, e4] at HB
    have g1 : decide ((97 : Int) ≤ (n : Int)) = _ := (decide_eq_decide.2 (by omega)).trans e1
    have g2 : decide ((n : Int) ≤ 122) = _ := (decide_eq_decide.2 (by omega)).trans e2
    have g3 : decide ((65 : Int) ≤ (n : Int)) = _ := (decide_eq_decide.2 (by omega)).trans e3
    have g4 : decide ((n : Int) ≤ 90) = _ := (decide_eq_decide.2 (by omega)).trans e4
    go_enter Tryz.func140, Tryz.ntmps140
    go_wp2
    go_ret
    exact ⟨by rw [HB.out]; rfl, rfl⟩
set_option maxHeartbeats 1000000 in
theorem digit_any (n : Nat) (hn : n < 256) (w : World) : Calls Tryz.prog 171 #[.int .u8 n] w fun e w' => e = .returned (.bool (isDigit n)) ∧ w = w' := by
  have HB : Hid (isDigit n = (decide (48 ≤ n) && decide (n ≤ 57))) := rfl
  cases e1 : decide (48 ≤ n) <;> cases e2 : decide (n ≤ 57)
  all_goals
    rw [e1, e2] at HB
    have g1 : decide ((48 : Int) ≤ (n : Int)) = _ := (decide_eq_decide.2 (by omega)).trans e1
    have g2 : decide ((n : Int) ≤ 57) = _ := (decide_eq_decide.2 (by omega)).trans e2
    go_enter Tryz.func171, Tryz.ntmps171
    go_wp2
    go_ret
    exact ⟨by rw [HB.out]; rfl, rfl⟩
set_option maxHeartbeats 1000000 in
theorem word_any (n : Nat) (hn : n < 256) (w : World) : Calls Tryz.prog 139 #[.int .u8 n] w fun e w' => e = .returned (.bool (isWord n)) ∧ w = w' := by
  have HB : Hid (isWord n = (isLetter n || isDigit n || (n == 95))) := rfl
  have HL := hide (letter_any n hn w)
  have HD := hide (digit_any n hn w)
  cases e1 : isLetter n
  · cases e2 : isDigit n
    · cases e3 : (n == 95)
      all_goals
        rw [e1, e2, e3] at HB
        rw [e1] at HL
        rw [e2] at HD
        have g3 : decide (n = 95) = _ := (by rw [Bool.eq_iff_iff]; simp : decide (n = 95) = (n == 95)).trans e3
        have g4 : ((n : Int) == 95) = _ := (by rw [Bool.eq_iff_iff]; simp; omega : ((n : Int) == 95) = decide (n = 95)).trans g3
        go_enter Tryz.func139, Tryz.ntmps139
        go_wp2_with fail
        refine HL.out.mono ?_
        rintro en w' ⟨rfl, rfl⟩
        go_wp2_with fail
        refine HD.out.mono ?_
        rintro en w' ⟨rfl, rfl⟩
        go_wp2
        go_ret
        exact ⟨by rw [HB.out]; rfl, rfl⟩
    · rw [e1, e2] at HB
      rw [e1] at HL
      rw [e2] at HD
      go_enter Tryz.func139, Tryz.ntmps139
      go_wp2_with fail
      refine HL.out.mono ?_
      rintro en w' ⟨rfl, rfl⟩
      go_wp2_with fail
      refine HD.out.mono ?_
      rintro en w' ⟨rfl, rfl⟩
      go_wp2
      go_ret
      exact ⟨by rw [HB.out]; simp, rfl⟩
  · rw [e1] at HB
    rw [e1] at HL
    go_enter Tryz.func139, Tryz.ntmps139
    go_wp2_with fail
    refine HL.out.mono ?_
    rintro en w' ⟨rfl, rfl⟩
    go_wp2
    go_ret
    exact ⟨by rw [HB.out]; simp, rfl⟩

open Go.RowKit Go.Deep Go.Maps

theorem all_range {p : Nat → Bool} {n : Nat} : ((List.range n).all p = true) ↔ ∀ i < n, p i = true := by
  rw [List.all_eq_true]
  exact ⟨fun h i hi => h i (List.mem_range.2 hi), fun h i hi => h i (List.mem_range.1 hi)⟩
theorem name_bad {s : ByteArray} {i : Nat} (hi : i < s.size) (h : isWord (bAt s i) = false) : nameB s = false := by
  unfold nameB
  cases ha : (List.range s.size).all fun i => isWord (bAt s i)
  · simp
  · have := all_range.1 ha i hi
    rw [h] at this
    cases this
theorem name_good {s : ByteArray} (h : ∀ i < s.size, isWord (bAt s i) = true) : nameB s = (decide (1 ≤ s.size) && decide (s.size ≤ 24) && isLetter (bAt s 0)) := by
  unfold nameB
  rw [all_range.2 h, Bool.and_true]
set_option maxHeartbeats 2000000 in
set_option maxRecDepth 20000 in
theorem refName_any (s : ByteArray) (w : World) (hs : s.size ≤ maxLen) : Calls Tryz.prog 90 #[.string s] w fun e w' => e = .returned (.bool (nameB s)) ∧ w = w' := by
  unfold maxLen at hs
  go_enter Tryz.func90, Tryz.ntmps90
  go_wp2
  go_loop [3] (fun i => ∃ k : Nat, k ≤ s.size ∧ i = .int .i64 k ∧ ∀ j < k, isWord (bAt s j) = true) (fun i => s.size - (intOf i).toNat)
  case atStart => exact ⟨0, Nat.zero_le _, rfl, fun j hj => absurd hj (by omega)⟩
  case round =>
    obtain ⟨k, hk, rfl, hall⟩ := hrel
    have HA := hide hall
    clear hall
    by_cases hlt : k < s.size
    · have hb : bAt s k = s[k].toNat := bAt_eq hlt
      have h256 : s[k].toNat < 256 := UInt8.toNat_lt _
      have HW := hide (word_any s[k].toNat h256 w)
      have HB := hide hb
      clear hb
      cases hw : isWord s[k].toNat
      · have HF := hide (name_bad hlt (by rw [HB.out]; exact hw))
        rw [hw] at HW
        go_wp2_with fail
        refine HW.out.mono ?_
        rintro en w' ⟨rfl, rfl⟩
        go_wp2
        go_ret
        exact ⟨by rw [HF.out]; rfl, rfl⟩
      · rw [hw] at HW
        go_wp2_with fail
        refine HW.out.mono ?_
        rintro en w' ⟨rfl, rfl⟩
        go_wp2
        go_round
        case rel =>
          refine ⟨k + 1, hlt, by go_num, fun j hj => ?_⟩
          by_cases hj2 : j < k
          · exact HA.out j hj2
          · obtain rfl : j = k := by omega
            rw [HB.out]
            exact hw
        case measure => simp [intOf]; omega
    · obtain rfl : k = s.size := by omega
      have HG := hide (name_good HA.out)
      clear HA
      cases e1 : decide (0 < s.size)
      · have HF : Hid (nameB s = false) := by
          show _ = _
          have : ¬ (1 ≤ s.size) := fun h => by have := of_decide_eq_false e1; omega
          rw [HG.out, decide_eq_false this]
          rfl
        have g1 : decide ((0 : Int) < (s.size : Int)) = false := (decide_eq_decide.2 (by omega)).trans e1
        go_wp2
        go_ret
        exact ⟨by rw [HF.out]; rfl, rfl⟩
      · have hpos : 0 < s.size := of_decide_eq_true e1
        have h1 : decide (1 ≤ s.size) = true := decide_eq_true (by omega)
        have g1 : decide ((0 : Int) < (s.size : Int)) = true := decide_eq_true (by omega)
        cases e2 : decide (s.size ≤ 24)
        · have HF : Hid (nameB s = false) := by
            show _ = _
            rw [HG.out, h1, e2]
            rfl
          have g2 : decide ((s.size : Int) ≤ 24) = false := (decide_eq_decide.2 (by omega)).trans e2
          clear h1
          go_wp2
          go_ret
          exact ⟨by rw [HF.out]; rfl, rfl⟩
        · have g2 : decide ((s.size : Int) ≤ 24) = true := (decide_eq_decide.2 (by omega)).trans e2
          have hb : bAt s 0 = s[0].toNat := bAt_eq hpos
          have HF : Hid (nameB s = isLetter s[0].toNat) := by
            show _ = _
            rw [HG.out, h1, e2, hb]
            rfl
          have HL := hide (letter_any s[0].toNat (UInt8.toNat_lt _) w)
          clear h1 hb
          go_wp2_with fail
          refine HL.out.mono ?_
          rintro en w' ⟨rfl, rfl⟩
          go_wp2
          go_ret
          exact ⟨by rw [HF.out]; rfl, rfl⟩
end Go.Proofs.YtkomgidcgepknaaGreatDoor

set_option linter.unusedVariables false
set_option linter.unusedSimpArgs false
namespace Go.Proofs.YtkomgidcgepknaaGreatDoor
open Go.RowKit Go.Deep Go.Maps

/-- Has a text a byte? -/
def hasB (s : ByteArray) (c : Nat) : Bool := (List.range s.size).any fun i => bAt s i == c
theorem hasB_yes {s : ByteArray} {c i : Nat} (hi : i < s.size) (h : bAt s i = c) : hasB s c = true := by
  unfold hasB
  rw [List.any_eq_true]
  exact ⟨i, List.mem_range.2 hi, by rw [h]; exact beq_self_eq_true _⟩
theorem hasB_no {s : ByteArray} {c : Nat} (h : ∀ i, i < s.size → bAt s i ≠ c) : hasB s c = false := by
  cases hv : hasB s c
  · rfl
  · unfold hasB at hv
    rw [List.any_eq_true] at hv
    obtain ⟨i, hi, e⟩ := hv
    exact absurd (by simpa using e) (h i (List.mem_range.1 hi))
/-- What the reference asks of a byte, by its class. -/
theorem cls_tab : ∀ c : Fin 256, isLetter c.val = decide (cls c.val = 3) ∧ isDigit c.val = decide (cls c.val = 4) ∧ isWord c.val = (decide (cls c.val = 3) || decide (cls c.val = 4) || decide (cls c.val = 5)) ∧
    hasB ⟨#[32, 9, 10]⟩ c.val = decide (cls c.val = 1) ∧ decide (c.val = 35) = decide (cls c.val = 2) ∧ decide (c.val = 34) = decide (cls c.val = 6) ∧
    hasB ⟨#[33, 60, 62, 61]⟩ c.val = (decide (cls c.val = 7) || decide (cls c.val = 8)) ∧
    hasB ⟨#[59, 44, 46, 58, 40, 41, 91, 93, 123, 125, 61, 60, 62, 43, 45, 42, 47]⟩ c.val = (decide (cls c.val = 8) || decide (cls c.val = 9)) := by decide +kernel
theorem cls_at {s : ByteArray} {k : Nat} (h : k < s.size) : atC s k = cls s[k].toNat := by
  unfold atC
  rw [if_pos h, bAt_eq h]
set_option maxHeartbeats 2000000 in
theorem rhas_any (s : ByteArray) (c : Nat) (hc : c < 256) (w : World) (hs : s.size ≤ maxLen) : Calls Tryz.prog 170 #[.string s, .int .u8 c] w fun e w' => e = .returned (.bool (hasB s c)) ∧ w = w' := by
  unfold maxLen at hs
  go_enter Tryz.func170, Tryz.ntmps170
  go_wp2
  go_loop [5] (fun i => ∃ k : Nat, k ≤ s.size ∧ i = .int .i64 k ∧ ∀ j < k, bAt s j ≠ c) (fun i => s.size - (intOf i).toNat)
  case atStart => exact ⟨0, Nat.zero_le _, rfl, fun j hj => absurd hj (by omega)⟩
  case round =>
    obtain ⟨k, hk, rfl, hall⟩ := hrel
    have HA := hide hall
    clear hall
    by_cases hlt : k < s.size
    · have hb : bAt s k = s[k].toNat := bAt_eq hlt
      have HB := hide hb
      clear hb
      by_cases he : s[k].toNat = c
      · have HT := hide (hasB_yes hlt (HB.out.trans he))
        have he' : ((s[k].toNat : Int) == (c : Int)) = true := beq_iff_eq.2 (by omega)
        clear he
        go_wp2
        go_ret
        exact ⟨by rw [HT.out]; rfl, rfl⟩
      · have HE := hide he
        have he' : ((s[k].toNat : Int) == (c : Int)) = false := beq_eq_false_iff_ne.2 (by omega)
        clear he
        go_wp2
        go_round
        case rel =>
          refine ⟨k + 1, hlt, by go_num, fun j hj => ?_⟩
          by_cases hj2 : j < k
          · exact HA.out j hj2
          · obtain rfl : j = k := by omega
            rw [HB.out]
            exact HE.out
        case measure => simp [intOf]; omega
    · obtain rfl : k = s.size := by omega
      have HF := hide (hasB_no HA.out)
      go_wp2
      go_ret
      exact ⟨by rw [HF.out]; rfl, rfl⟩
theorem gap_blank {s : ByteArray} {k : Nat} (h : k < s.size) (hc : atC s k = 1) : gapE s k = gapE s (k + 1) := by
  rw [gapE_eq, gapE_eq, whileE_step h (by rw [hc]; rfl)]
theorem gap_hash {s : ByteArray} {k m : Nat} (h : k < s.size) (hc : atC s k = 2) (hkm : k ≤ m) (hm : m ≤ s.size) (hall : ∀ j, k ≤ j → j < m → bAt s j ≠ 10) (he : m = s.size ∨ bAt s m = 10) : gapE s k = gapE s m := by
  have hw : whileE s isBlank k = k := whileE_stop (fun h' => by have := h'.2; rw [hc] at this; exact absurd this (by decide))
  rw [gapE_eq s k, hw]
  unfold gapJ
  rw [if_pos hc]
  rcases he with he | he
  · subst he
    have : find s isNl k = none := find_eq_none fun j h1 h2 => by
      have := hall j h1 h2
      unfold isNl
      simpa using this
    rw [this]
    have := gapE_ge s s.size (Nat.le_refl _)
    show s.size = gapE s s.size
    omega
  · have hms : m < s.size := bAt_in he (by decide)
    have : find s isNl k = some m := find_eq hkm hms (by unfold isNl; rw [he]; rfl) fun j h1 h2 => by
      have := hall j h1 h2
      unfold isNl
      simpa using this
    rw [this]
theorem gap_stop {s : ByteArray} {k : Nat} (h : atC s k ≠ 1) (h2 : atC s k ≠ 2) : gapE s k = k := by
  have hw : whileE s isBlank k = k := whileE_stop (fun h' => by
    have := h'.2
    unfold isBlank inL at this
    simp at this
    exact h (by omega))
  rw [gapE_eq, hw]
  unfold gapJ
  rw [if_neg h2]
theorem gap_end (s : ByteArray) : gapE s s.size = s.size := by
  have := gapE_ge s s.size (Nat.le_refl _)
  omega
set_option maxHeartbeats 4000000 in
theorem rgap_any (s : ByteArray) (i : Nat) (w : World) (hi : i ≤ s.size) (hs : s.size ≤ maxLen) : Calls Tryz.prog 122 #[.string s, .int .i64 i] w fun e w' => e = .returned (.int .i64 (gapE s i)) ∧ w = w' := by
  have HS := hide hs
  unfold maxLen at hs
  go_enter Tryz.func122, Tryz.ntmps122
  go_wp2
  go_loopw [1] (fun t1 wr => ∃ k : Nat, k ≤ s.size ∧ t1 = .int .i64 k ∧ gapE s i = gapE s k ∧ w = wr) (fun t1 _ => s.size - (intOf t1).toNat)
  case atStart => exact ⟨i, hi, rfl, rfl, rfl⟩
  case round =>
    obtain ⟨k, hk, rfl, hg, rfl⟩ := hrel
    have HG := hide hg
    clear hg hi
    by_cases hlt : k < s.size
    · have h256 : s[k].toNat < 256 := UInt8.toNat_lt _
      obtain ⟨t1, t2, t3, t4, t5, t6, t7, t8⟩ := cls_tab ⟨s[k].toNat, h256⟩
      have HC := hide (cls_at hlt)
      dsimp only at t4 t5
      clear t1 t2 t3 t6 t7 t8
      have HH := hide (rhas_any ⟨#[32, 9, 10]⟩ s[k].toNat h256 w (by decide))
      have HE := hide (bAt_eq hlt)
      by_cases h1 : cls s[k].toNat = 1
      · have HN := hide (HG.out.trans (gap_blank hlt (HC.out.trans h1)))
        rw [t4, decide_eq_true h1] at HH
        clear t4 t5 h1
        go_wp2_with fail
        refine HH.out.mono ?_
        rintro en w' ⟨rfl, rfl⟩
        go_wp2
        go_roundw
        case rel => exact ⟨k + 1, by omega, by go_num, HN.out, trivial⟩
        case measure => simp [intOf]; omega
      · rw [t4, decide_eq_false h1] at HH
        by_cases h2 : cls s[k].toNat = 2
        · have h35 : s[k].toNat = 35 := of_decide_eq_true (by rw [t5]; exact decide_eq_true h2)
          have H35 := hide h35
          have e35 : ((s[k].toNat : Int) == 35) = true := beq_iff_eq.2 (by omega)
          have HC2 := hide (HC.out.trans h2)
          clear t4 t5 h1 h2 h35
          go_wp2_with fail
          refine HH.out.mono ?_
          rintro en w' ⟨rfl, rfl⟩
          clear HH
          go_wp2_with fail
          go_loopw [1] (fun t1 wy => ∃ m : Nat, k ≤ m ∧ m ≤ s.size ∧ t1 = .int .i64 m ∧ (∀ j, k ≤ j → j < m → bAt s j ≠ 10) ∧ w = wy) (fun t1 _ => s.size - (intOf t1).toNat)
          case atStart => exact ⟨k, Nat.le_refl _, hk, rfl, fun j h1 h2 => absurd h2 (by omega), rfl⟩
          case round =>
            obtain ⟨m, hkm, hm, rfl, hall, rfl⟩ := hrel
            have HALL := hide hall
            clear hall
            by_cases hms : m < s.size
            · have h256m : s[m].toNat < 256 := UInt8.toNat_lt _
              have HEM := hide (bAt_eq hms)
              by_cases h10 : s[m].toNat = 10
              · have HN := hide (HG.out.trans (gap_hash hlt HC2.out hkm hm HALL.out (.inr (HEM.out.trans h10))))
                have hne : k < m := by
                  rcases Nat.lt_or_ge k m with h | h
                  · exact h
                  · exfalso
                    obtain rfl : k = m := by omega
                    have := H35.out
                    omega
                have e10 : ((s[m].toNat : Int) != 10) = false := by simp; omega
                clear h10
                go_wp2_with fail
                go_roundw
                case rel => exact ⟨m, by omega, rfl, HN.out, trivial⟩
                case measure => simp [intOf]; omega
              · have H10 := hide h10
                have e10 : ((s[m].toNat : Int) != 10) = true := by simp; omega
                clear h10
                go_wp2_with fail
                go_roundw
                case rel =>
                  refine ⟨m + 1, by omega, by omega, by go_num, fun j h1 h2 => ?_, trivial⟩
                  by_cases hj : j < m
                  · exact HALL.out j h1 hj
                  · obtain rfl : j = m := by omega
                    rw [HEM.out]
                    exact H10.out
                case measure => simp [intOf]; omega
            · obtain rfl : m = s.size := by omega
              have HN := hide (HG.out.trans (gap_hash hlt HC2.out hkm (Nat.le_refl _) HALL.out (.inl rfl)))
              go_wp2_with fail
              go_roundw
              case rel => exact ⟨s.size, Nat.le_refl _, rfl, HN.out, trivial⟩
              case measure => simp [intOf]; omega
        · have h35 : s[k].toNat ≠ 35 := of_decide_eq_false (by rw [t5]; exact decide_eq_false h2)
          have e35 : ((s[k].toNat : Int) == 35) = false := beq_eq_false_iff_ne.2 (by omega)
          have HN := hide (HG.out.trans (gap_stop (by rw [HC.out]; exact h1) (by rw [HC.out]; exact h2)))
          clear t4 t5 h1 h2 h35
          go_wp2_with fail
          refine HH.out.mono ?_
          rintro en w' ⟨rfl, rfl⟩
          clear HH
          go_wp2
          go_ret
          exact ⟨by rw [HN.out]; rfl, rfl⟩
    · obtain rfl : k = s.size := by omega
      have HN := hide (HG.out.trans (gap_end s))
      go_wp2
      go_ret
      exact ⟨by rw [HN.out]; rfl, rfl⟩
set_option maxHeartbeats 2000000 in
theorem rwidth_any (t : Tok) (w : World) (hs : t.text.size ≤ 100000) : Calls Tryz.prog 124 #[.agg t.cells] w fun e w' => e = .returned (.int .i64 ((t.text.size : Int) + if t.kind = 3 then 2 else 0)) ∧ Below w.heap.size w w' := by
  have hb : Below w.heap.size w (w.alloc (Obj.cells t.cells 166)) := (Below.refl _ _).alloc (Nat.le_refl _) _
  have hq : Blk (w.alloc (Obj.cells t.cells 166)) w.heap.size 166 t.cells := Blk.new _ _ _
  have HB := hide hb
  clear hb
  unfold Tok.cells at *
  go_enter Tryz.func124, Tryz.ntmps124
  have c0 := hq.cell 0
  have c1 := hq.cell 1
  by_cases h3 : t.kind = 3
  · rw [if_pos h3]
    have e3 : (t.kind == (3 : Int)) = true := beq_iff_eq.2 h3
    clear h3
    go_wp2
    go_ret
    exact ⟨rfl, HB.out⟩
  · rw [if_neg h3]
    have e3 : (t.kind == (3 : Int)) = false := beq_eq_false_iff_ne.2 h3
    clear h3
    go_wp2
    go_ret
    exact ⟨by rw [Int.add_zero]; rfl, HB.out⟩
end Go.Proofs.YtkomgidcgepknaaGreatDoor

set_option linter.unusedVariables false
set_option linter.unusedSimpArgs false
namespace Go.Proofs.YtkomgidcgepknaaGreatDoor
open Go.RowKit Go.Deep Go.Maps

theorem results_cell1 {P : Program} {fn : Func} {p t : Tmp} {ty : TypeId} (h : fn.results = #[.cell p ty, .tmp t]) (tmps : Array Value) (w : World) (g : Nat) (T : TypeId) (cs : Array Value) (fr : Nat × Nat) (d : TypeDesc)
    (hp : tmps.getD p undef = .pointer (some ⟨g, 0, none⟩)) (hg : w.heap[g]? = some (.cells cs T fr))
    (hu : P.underlying ty = some d) (hd : (match d with | .struct _ | .array _ _ => true | _ => false) = true) (hi : (P.info? ty).map (·.size) = some cs.size) :
    (results fn tmps).run P w = .ok (.tuple #[.agg cs, tmps.getD t undef]) w := by
  have hp' : tmps[p]?.getD undef = .pointer (some ⟨g, 0, none⟩) := by simpa using hp
  simp [results, h, hp', asAddr, run_loadVar_row w g T ty cs fr d hg hu hd hi]
/-- What the reference's next hands back. -/
def rnextV (s : ByteArray) (i : Nat) : Value := .tuple #[.agg (nextT s i).2.1.cells, .int .i64 (nextT s i).1]
theorem rnextV_of {s : ByteArray} {i : Nat} {err : Int} {t : Tok} {e : Nat} (h : nextT s i = (err, t, e)) : rnextV s i = .tuple #[.agg t.cells, .int .i64 err] := by
  unfold rnextV; rw [h]
/-- The two cells that next makes: its result's, and t's. -/
structure Two (w w' : World) (i : Nat) : Prop where
  bel : Below w.heap.size w w'
  r : Blk w' w.heap.size 166 #[.int .i64 0, .string ⟨#[]⟩, .int .i64 0, .int .i64 0]
  t : Blk w' (w.heap.size + 1) 166 #[.int .i64 0, .string ⟨#[]⟩, .int .i64 0, .int .i64 i]
theorem Two.start (w : World) (i : Nat) : Two w ((w.alloc (Obj.cells #[.int .i64 0, .string ⟨#[]⟩, .int .i64 0, .int .i64 0] 166)).alloc (Obj.cells #[.int .i64 0, .string ⟨#[]⟩, .int .i64 0, .int .i64 i] 166)) i := by
  refine ⟨((Below.refl _ _).alloc (Nat.le_refl _) _).alloc (by simp) _, (Blk.new _ _ _).alloc _, ?_⟩
  have := Blk.new (w.alloc (Obj.cells #[.int .i64 0, .string ⟨#[]⟩, .int .i64 0, .int .i64 0] 166)) 166 #[.int .i64 0, .string ⟨#[]⟩, .int .i64 0, .int .i64 i]
  rwa [World.size_alloc] at this
set_option maxHeartbeats 4000000 in
set_option maxRecDepth 100000 in
theorem rnext_name (s : ByteArray) (i : Nat) (w : World) (hi : i < s.size) (hs : s.size ≤ 20000) (k3 : atC s i = 3) :
    Calls Tryz.prog 123 #[.string s, .int .i64 i] w fun e w' => e = .returned (rnextV s i) ∧ Below w.heap.size w w' := by
  have HT0 := hide (Two.start w i)
  have h256 : s[i].toNat < 256 := UInt8.toNat_lt _
  have HCI := hide (cls_at hi)
  obtain ⟨t1, t2, t3, t4, t5, t6, t7, t8⟩ := cls_tab ⟨s[i].toNat, h256⟩
  dsimp only at t1 t2 t3 t4 t5 t6 t7 t8
  have HE := hide (bAt_eq hi)
  go_enter Tryz.func123, Tryz.ntmps123
  go_upto_region 4 with (fail)
  change Code.wp _ _ _ _ ((w.alloc (Obj.cells #[.int .i64 0, .string ⟨#[]⟩, .int .i64 0, .int .i64 0] 166)).alloc (Obj.cells #[.int .i64 0, .string ⟨#[]⟩, .int .i64 0, .int .i64 i] 166))
  generalize (w.alloc (Obj.cells #[.int .i64 0, .string ⟨#[]⟩, .int .i64 0, .int .i64 0] 166)).alloc (Obj.cells #[.int .i64 0, .string ⟨#[]⟩, .int .i64 0, .int .i64 i] 166) = w1 at HT0 ⊢
  obtain ⟨r, hr⟩ : ∃ r, r = w.heap.size := ⟨_, rfl⟩
  have HB1 := hide HT0.out.bel
  have HR1 : Hid (Blk w1 r 166 #[.int .i64 0, .string ⟨#[]⟩, .int .i64 0, .int .i64 0]) := hide (by rw [hr]; exact HT0.out.r)
  have HT1 : Hid (Blk w1 (r + 1) 166 #[.int .i64 0, .string ⟨#[]⟩, .int .i64 0, .int .i64 i]) := hide (by rw [hr]; exact HT0.out.t)
  have HRW : Hid (w.heap.size ≤ r) := hide (by rw [hr]; exact Nat.le_refl _)
  rw [← hr]
  clear hr HT0
  have HL := hide (letter_any s[i].toNat h256 w1)
  rw [t1, decide_eq_true (HCI.out.symm.trans k3)] at HL
  have HN0 : Hid (nextT s i = if 24 < whileE s isWordC i - i then (2, ⟨0, ByteArray.empty, 0, 0⟩, 0) else (0, ⟨1, s.extract i (whileE s isWordC i), 0, i⟩, whileE s isWordC i)) := by
    show nextT s i = _
    unfold nextT
    rw [if_pos k3]
  have HK3 := hide k3
  clear t1 t2 t3 t4 t5 t6 t7 t8 k3
  go_wp2_with fail
  refine HL.out.mono ?_
  rintro en w' ⟨rfl, rfl⟩
  clear HL
  go_upto_block 0 with (fail)
  go_cut [6] (fun t6 wx => t6 = .int .i64 (whileE s isWordC i) ∧ wx = w1)
  case first =>
    go_wp2_with fail
    go_loopw [6] (fun t6 wr => ∃ m : Nat, i + 1 ≤ m ∧ m ≤ s.size ∧ t6 = .int .i64 m ∧ (∀ j, i ≤ j → j < m → isWordC (atC s j) = true) ∧ w1 = wr) (fun t6 _ => s.size - (intOf t6).toNat)
    case atStart => exact ⟨i + 1, Nat.le_refl _, hi, by go_num, fun j h1 h2 => (show j = i by omega) ▸ (by rw [HK3.out]; rfl), rfl⟩
    case round =>
      obtain ⟨m, hm1, hm2, rfl, hall, rfl⟩ := hrel
      have HALL := hide hall
      clear hall
      by_cases hms : m < s.size
      · have h256m : s[m].toNat < 256 := UInt8.toNat_lt _
        have HCM := hide (cls_at hms)
        have HW := hide (word_any s[m].toNat h256m w1)
        have HWE : Hid (isWord s[m].toNat = isWordC (atC s m)) := hide (by
          rw [HCM.out, (cls_tab ⟨s[m].toNat, h256m⟩).2.2.1]
          have := cls_le s[m].toNat
          generalize cls s[m].toNat = q at this
          have : ∀ q : Fin 10, (decide (q.val = 3) || decide (q.val = 4) || decide (q.val = 5)) = isWordC q.val := by decide
          exact this ⟨q, by omega⟩)
        rw [HWE.out] at HW
        cases hw : isWordC (atC s m)
        · rw [hw] at HW
          have HWH : Hid (whileE s isWordC i = m) := hide (whileE_eq (by omega) hm2 HALL.out (fun h => by rw [hw] at h; cases h.2))
          clear hw HWE HCM
          go_wp2_with fail
          refine HW.out.mono ?_
          rintro en w' ⟨rfl, rfl⟩
          clear HW
          go_wp2_with fail
          go_meet
          exact ⟨by rw [HWH.out], rfl⟩
        · rw [hw] at HW
          have HG := hide hw
          clear hw HWE HCM
          go_wp2_with fail
          refine HW.out.mono ?_
          rintro en w' ⟨rfl, rfl⟩
          clear HW
          go_wp2_with fail
          go_roundw
          case rel =>
            refine ⟨m + 1, by omega, by omega, by go_num, fun j h1 h2 => ?_, trivial⟩
            by_cases hj : j < m
            · exact HALL.out j h1 hj
            · obtain rfl : j = m := by omega
              exact HG.out
          case measure => simp [intOf]; omega
      · obtain rfl : m = s.size := by omega
        have HWH : Hid (whileE s isWordC i = s.size) := hide (whileE_eq (by omega) (Nat.le_refl _) HALL.out (fun h => by omega))
        go_wp2_with fail
        go_meet
        exact ⟨by rw [HWH.out], rfl⟩
  case rest =>
  obtain ⟨rfl, hwc⟩ := hcut
  obtain rfl : w1 = wc := hwc.symm
  obtain ⟨c0, c1, c2, c3, z0, z1, z2, z3⟩ := blk4 HT1.out
  obtain ⟨d0, d1, d2, d3, y0, y1, y2, y3⟩ := blk4 HR1.out
  have hg := whileE_ge s isWordC i
  have hl := whileE_le s isWordC i (by omega)
  have hne : r ≠ r + 1 := by omega
  generalize whileE s isWordC i = e0 at HN0 hg hl ⊢
  have hrb : w.heap.size ≤ r + 1 := by have := HRW.out; omega
  by_cases h24 : 24 < e0 - i
  · have HN : Hid (nextT s i = (2, ⟨0, ByteArray.empty, 0, 0⟩, 0)) := by
      show nextT s i = _
      rw [HN0.out, if_pos h24]
    have h24' : (24 : Int) < (e0 : Int) - i := by omega
    have hq := set4 (HR1.out.far (p := ⟨r + 1, 0, none⟩) hne (.int .i64 1)) (.int .i64 0) (.string ⟨#[]⟩) (.int .i64 0) (.int .i64 0)
    have hbq := below4 (HB1.out.setCell (p := ⟨r + 1, 0, none⟩) hrb (.int .i64 1)) HRW.out (.int .i64 0) (.string ⟨#[]⟩) (.int .i64 0) (.int .i64 0)
    have HQ := hide hq
    have HBQ := hide hbq
    clear hq hbq hrb
    go_wp2
    refine bodyPost_ret (results_cell1 rfl _ _ r 166 _ (0, 0) _ rfl HQ.out Tryz.underlying166 rfl (by kernel_rfl)) rfl ?_
    exact ⟨by rw [rnextV_of HN.out]; rfl, HBQ.out⟩
  · have HN : Hid (nextT s i = (0, ⟨1, s.extract i e0, 0, i⟩, e0)) := by
      show nextT s i = _
      rw [HN0.out, if_neg h24]
    have h24' : ¬ (24 : Int) < (e0 : Int) - i := by omega
    have hq := set4 ((HR1.out.far (p := ⟨r + 1, 0, none⟩) hne (.int .i64 1)).far (p := ⟨r + 1, 1, none⟩) hne (.string (s.extract i e0))) (.int .i64 1) (.string (s.extract i e0)) (.int .i64 0) (.int .i64 i)
    have hbq := below4 ((HB1.out.setCell (p := ⟨r + 1, 0, none⟩) hrb (.int .i64 1)).setCell (p := ⟨r + 1, 1, none⟩) hrb (.string (s.extract i e0))) HRW.out (.int .i64 1) (.string (s.extract i e0)) (.int .i64 0) (.int .i64 i)
    have HQ := hide hq
    have HBQ := hide hbq
    clear hq hbq hrb
    go_wp2
    refine bodyPost_ret (results_cell1 rfl _ _ r 166 _ (0, 0) _ rfl HQ.out Tryz.underlying166 rfl (by kernel_rfl)) rfl ?_
    exact ⟨by rw [rnextV_of HN.out]; rfl, HBQ.out⟩
theorem numD_bd (s : ByteArray) (i : Nat) : ∀ k, (∀ j, j < k → 48 ≤ bAt s (i + j) ∧ bAt s (i + j) ≤ 57) → 0 ≤ numD s i k ∧ numD s i k < ((10 ^ k : Nat) : Int)
  | 0, _ => by simp [numD]
  | k + 1, h => by
    have h1 := numD_bd s i k fun j hj => h j (by omega)
    have h2 := h k (by omega)
    unfold numD
    rw [Nat.pow_succ]
    omega
set_option maxHeartbeats 4000000 in
set_option maxRecDepth 100000 in
theorem rnext_num (s : ByteArray) (i : Nat) (w : World) (hi : i < s.size) (hs : s.size ≤ 20000) (k4 : atC s i = 4) :
    Calls Tryz.prog 123 #[.string s, .int .i64 i] w fun e w' => e = .returned (rnextV s i) ∧ Below w.heap.size w w' := by
  have HT0 := hide (Two.start w i)
  have h256 : s[i].toNat < 256 := UInt8.toNat_lt _
  have HCI := hide (cls_at hi)
  obtain ⟨t1, t2, t3, t4, t5, t6, t7, t8⟩ := cls_tab ⟨s[i].toNat, h256⟩
  dsimp only at t1 t2 t3 t4 t5 t6 t7 t8
  have HE := hide (bAt_eq hi)
  go_enter Tryz.func123, Tryz.ntmps123
  go_upto_region 4 with (fail)
  change Code.wp _ _ _ _ ((w.alloc (Obj.cells #[.int .i64 0, .string ⟨#[]⟩, .int .i64 0, .int .i64 0] 166)).alloc (Obj.cells #[.int .i64 0, .string ⟨#[]⟩, .int .i64 0, .int .i64 i] 166))
  generalize (w.alloc (Obj.cells #[.int .i64 0, .string ⟨#[]⟩, .int .i64 0, .int .i64 0] 166)).alloc (Obj.cells #[.int .i64 0, .string ⟨#[]⟩, .int .i64 0, .int .i64 i] 166) = w1 at HT0 ⊢
  obtain ⟨r, hr⟩ : ∃ r, r = w.heap.size := ⟨_, rfl⟩
  have HB1 := hide HT0.out.bel
  have HR1 : Hid (Blk w1 r 166 #[.int .i64 0, .string ⟨#[]⟩, .int .i64 0, .int .i64 0]) := hide (by rw [hr]; exact HT0.out.r)
  have HT1 : Hid (Blk w1 (r + 1) 166 #[.int .i64 0, .string ⟨#[]⟩, .int .i64 0, .int .i64 i]) := hide (by rw [hr]; exact HT0.out.t)
  have HRW : Hid (w.heap.size ≤ r) := hide (by rw [hr]; exact Nat.le_refl _)
  rw [← hr]
  clear hr HT0
  have HL := hide (letter_any s[i].toNat h256 w1)
  have HD := hide (digit_any s[i].toNat h256 w1)
  rw [t1, decide_eq_false (by rw [← HCI.out, k4]; decide)] at HL
  rw [t2, decide_eq_true (HCI.out.symm.trans k4)] at HD
  have HN0 : Hid (nextT s i = if 13 < whileE s isDigC i - i ∨ atC s (whileE s isDigC i) = 3 ∨ atC s (whileE s isDigC i) = 5 then (4, ⟨0, ByteArray.empty, 0, 0⟩, 0) else (0, ⟨2, s.extract i (whileE s isDigC i), numD s i (whileE s isDigC i - i), i⟩, whileE s isDigC i)) := by
    show nextT s i = _
    unfold nextT
    rw [if_neg (by rw [k4]; decide), if_pos k4]
  have HK4 := hide k4
  clear t1 t2 t3 t4 t5 t6 t7 t8 k4
  go_wp2_with fail
  refine HL.out.mono ?_
  rintro en w' ⟨rfl, rfl⟩
  clear HL
  go_wp2_with fail
  refine HD.out.mono ?_
  rintro en w' ⟨rfl, rfl⟩
  clear HD
  go_upto_block 2 with (fail)
  go_cut [6] (fun t6 wx => t6 = .int .i64 (whileE s isDigC i) ∧ wx = w1)
  case first =>
    go_wp2_with fail
    go_loopw [6] (fun t6 wr => ∃ m : Nat, i + 1 ≤ m ∧ m ≤ s.size ∧ t6 = .int .i64 m ∧ (∀ j, i ≤ j → j < m → isDigC (atC s j) = true) ∧ w1 = wr) (fun t6 _ => s.size - (intOf t6).toNat)
    case atStart => exact ⟨i + 1, Nat.le_refl _, hi, by go_num, fun j h1 h2 => (show j = i by omega) ▸ (by rw [HK4.out]; rfl), rfl⟩
    case round =>
      obtain ⟨m, hm1, hm2, rfl, hall, rfl⟩ := hrel
      have HALL := hide hall
      clear hall
      by_cases hms : m < s.size
      · have h256m : s[m].toNat < 256 := UInt8.toNat_lt _
        have HCM := hide (cls_at hms)
        have HW := hide (digit_any s[m].toNat h256m w1)
        have HWE : Hid (isDigit s[m].toNat = isDigC (atC s m)) := hide (by
          rw [HCM.out, (cls_tab ⟨s[m].toNat, h256m⟩).2.1]
          have := cls_le s[m].toNat
          generalize cls s[m].toNat = q at this
          have : ∀ q : Fin 10, decide (q.val = 4) = isDigC q.val := by decide
          exact this ⟨q, by omega⟩)
        rw [HWE.out] at HW
        cases hw : isDigC (atC s m)
        · rw [hw] at HW
          have HWH : Hid (whileE s isDigC i = m) := hide (whileE_eq (by omega) hm2 HALL.out (fun h => by rw [hw] at h; cases h.2))
          clear hw HWE HCM
          go_wp2_with fail
          refine HW.out.mono ?_
          rintro en w' ⟨rfl, rfl⟩
          clear HW
          go_wp2_with fail
          go_meet
          exact ⟨by rw [HWH.out], rfl⟩
        · rw [hw] at HW
          have HG := hide hw
          clear hw HWE HCM
          go_wp2_with fail
          refine HW.out.mono ?_
          rintro en w' ⟨rfl, rfl⟩
          clear HW
          go_wp2_with fail
          go_roundw
          case rel =>
            refine ⟨m + 1, by omega, by omega, by go_num, fun j h1 h2 => ?_, trivial⟩
            by_cases hj : j < m
            · exact HALL.out j h1 hj
            · obtain rfl : j = m := by omega
              exact HG.out
          case measure => simp [intOf]; omega
      · obtain rfl : m = s.size := by omega
        have HWH : Hid (whileE s isDigC i = s.size) := hide (whileE_eq (by omega) (Nat.le_refl _) HALL.out (fun h => by omega))
        go_wp2_with fail
        go_meet
        exact ⟨by rw [HWH.out], rfl⟩
  case rest =>
  obtain ⟨rfl, hwc⟩ := hcut
  obtain rfl : w1 = wc := hwc.symm
  obtain ⟨c0, c1, c2, c3, z0, z1, z2, z3⟩ := blk4 HT1.out
  obtain ⟨d0, d1, d2, d3, y0, y1, y2, y3⟩ := blk4 HR1.out
  have hg := whileE_ge s isDigC i
  have hl := whileE_le s isDigC i (by omega)
  have hnd : ¬ (whileE s isDigC i < s.size ∧ isDigC (atC s (whileE s isDigC i)) = true) := whileE_end
  have HDG : Hid (∀ j, j < whileE s isDigC i - i → 48 ≤ bAt s (i + j) ∧ bAt s (i + j) ≤ 57) := hide (fun j hj => atC_digit (by
    have := whileE_all (s := s) (p := isDigC) (i := i) (j := i + j) (by omega) (by omega)
    unfold isDigC inL at this
    simp at this
    omega))
  have hne : r ≠ r + 1 := by omega
  have HND := hide hnd
  clear hnd
  generalize whileE s isDigC i = e0 at HN0 hg hl HND HDG ⊢
  have hrb : w.heap.size ≤ r + 1 := by have := HRW.out; omega
  have hi0 : (0 : Int) ≤ (i : Int) := Int.natCast_nonneg i
  by_cases h13 : 13 < e0 - i
  · have HN : Hid (nextT s i = (4, ⟨0, ByteArray.empty, 0, 0⟩, 0)) := by
      show nextT s i = _
      rw [HN0.out, if_pos (.inl h13)]
    have h13' : (13 : Int) < (e0 : Int) - i := by omega
    have hq := set4 (HR1.out.far (p := ⟨r + 1, 0, none⟩) hne (.int .i64 2)) (.int .i64 0) (.string ⟨#[]⟩) (.int .i64 0) (.int .i64 0)
    have hbq := below4 (HB1.out.setCell (p := ⟨r + 1, 0, none⟩) hrb (.int .i64 2)) HRW.out (.int .i64 0) (.string ⟨#[]⟩) (.int .i64 0) (.int .i64 0)
    have HQ := hide hq
    have HBQ := hide hbq
    clear hq hbq hrb
    go_wp2
    refine bodyPost_ret (results_cell1 rfl _ _ r 166 _ (0, 0) _ rfl HQ.out Tryz.underlying166 rfl (by kernel_rfl)) rfl ?_
    exact ⟨by rw [rnextV_of HN.out]; rfl, HBQ.out⟩
  · have h13' : ¬ (13 : Int) < (e0 : Int) - i := by omega
    have HW2 : Hid (∀ w2 : World, (hes : e0 < s.size) → Calls Tryz.prog 139 #[.int .u8 s[e0].toNat] w2 fun e w' => e = .returned (.bool (decide (atC s e0 = 3 ∨ atC s e0 = 5))) ∧ w2 = w') := hide (fun w2 hes => by
      have h256e : s[e0].toNat < 256 := UInt8.toNat_lt _
      have h := word_any s[e0].toNat h256e w2
      rw [(cls_tab ⟨s[e0].toNat, h256e⟩).2.2.1] at h
      have hce := cls_at hes
      have h4 : atC s e0 ≠ 4 := fun h4 => HND.out ⟨hes, by rw [h4]; rfl⟩
      rw [hce] at h4 ⊢
      dsimp only at h
      rw [decide_eq_false h4] at h
      have e : (decide (cls s[e0].toNat = 3) || false || decide (cls s[e0].toNat = 5)) = decide (cls s[e0].toNat = 3 ∨ cls s[e0].toNat = 5) := by simp
      rw [e] at h
      exact h)
    go_upto_region 14 with (fail)
    go_cut [67] (fun t67 wx => t67 = .bool (decide (atC s e0 = 3 ∨ atC s e0 = 5)) ∧ wx = w1.setCell ⟨r + 1, 0, none⟩ (.int .i64 2))
    case first =>
      by_cases hes : e0 < s.size
      · have hes' : (e0 : Int) < (s.size : Int) := Int.ofNat_lt.2 hes
        have H2 := hide (HW2.out (w1.setCell ⟨r + 1, 0, none⟩ (.int .i64 2)) hes)
        clear HW2
        go_wp2_with fail
        refine H2.out.mono ?_
        rintro en w' ⟨rfl, rfl⟩
        clear H2
        obtain ⟨bb, hbb⟩ : ∃ bb, bb = decide (atC s e0 = 3 ∨ atC s e0 = 5) := ⟨_, rfl⟩
        rw [← hbb]
        have HBB := hide hbb
        clear hbb
        go_wp2_with fail
        go_meet
        exact ⟨by rw [HBB.out], rfl⟩
      · have hes' : ¬ (e0 : Int) < (s.size : Int) := by omega
        have HZ : Hid (decide (atC s e0 = 3 ∨ atC s e0 = 5) = false) := hide (decide_eq_false (by unfold atC; rw [if_neg hes]; omega))
        clear HW2
        go_wp2_with fail
        go_meet
        exact ⟨by rw [HZ.out], rfl⟩
    case rest =>
    obtain ⟨rfl, hwc⟩ := hcut
    rw [hwc]
    clear hwc
    by_cases hw : atC s e0 = 3 ∨ atC s e0 = 5
    · have HN : Hid (nextT s i = (4, ⟨0, ByteArray.empty, 0, 0⟩, 0)) := by
        show nextT s i = _
        rw [HN0.out, if_pos (.inr hw)]
      rw [decide_eq_true hw]
      have hq := set4 (HR1.out.far (p := ⟨r + 1, 0, none⟩) hne (.int .i64 2)) (.int .i64 0) (.string ⟨#[]⟩) (.int .i64 0) (.int .i64 0)
      have hbq := below4 (HB1.out.setCell (p := ⟨r + 1, 0, none⟩) hrb (.int .i64 2)) HRW.out (.int .i64 0) (.string ⟨#[]⟩) (.int .i64 0) (.int .i64 0)
      have HQ := hide hq
      have HBQ := hide hbq
      clear hq hbq hrb hw HW2
      go_wp2
      refine bodyPost_ret (results_cell1 rfl _ _ r 166 _ (0, 0) _ rfl HQ.out Tryz.underlying166 rfl (by kernel_rfl)) rfl ?_
      exact ⟨by rw [rnextV_of HN.out]; rfl, HBQ.out⟩
    · have HN : Hid (nextT s i = (0, ⟨2, s.extract i e0, numD s i (e0 - i), i⟩, e0)) := by
        show nextT s i = _
        rw [HN0.out, if_neg (fun h => by rcases h with h | h; exact h13 h; exact hw h)]
      rw [decide_eq_false hw]
      have HT2 : Hid (Blk (w1.setCell ⟨r + 1, 0, none⟩ (.int .i64 2)) (r + 1) 166 #[.int .i64 2, .string ⟨#[]⟩, .int .i64 0, .int .i64 i]) := hide (by
        have := HT1.out.set_ 0 (.int .i64 2)
        simpa using this)
      have HR2 : Hid (Blk (w1.setCell ⟨r + 1, 0, none⟩ (.int .i64 2)) r 166 #[.int .i64 0, .string ⟨#[]⟩, .int .i64 0, .int .i64 0]) := hide (HR1.out.far hne _)
      have HB2 := hide (HB1.out.setCell (p := ⟨r + 1, 0, none⟩) hrb (.int .i64 2))
      clear hw HW2 HN0 HND HT1 HR1 HB1 c0 c1 c2 c3 z0 z1 z2 z3 d0 d1 d2 d3 y0 y1 y2 y3
      go_upto_region 16 with (fail)
      generalize w1.setCell ⟨r + 1, 0, none⟩ (.int .i64 2) = w2 at HT2 HR2 HB2 ⊢
      go_wp2_with fail
      go_loopw [9] (fun t9 wr => ∃ k : Nat, i + k ≤ e0 ∧ t9 = .int .i64 ((i + k : Nat) : Int) ∧ Blk wr (r + 1) 166 #[.int .i64 2, .string ⟨#[]⟩, .int .i64 (numD s i k), .int .i64 i] ∧ Blk wr r 166 #[.int .i64 0, .string ⟨#[]⟩, .int .i64 0, .int .i64 0] ∧ Below w.heap.size w wr) (fun t9 _ => e0 - (intOf t9).toNat)
      case atStart => exact ⟨0, by omega, rfl, HT2.out, HR2.out, HB2.out⟩
      case round =>
        obtain ⟨k, hk, rfl, ht, hr_, hb⟩ := hrel
        have HT3 := hide ht
        have HR3 := hide hr_
        have HB3 := hide hb
        clear ht hr_ hb HT2 HR2 HB2
        obtain ⟨c0, c1, c2, c3, z0, z1, z2, z3⟩ := blk4 HT3.out
        by_cases hke : i + k < e0
        · have hks : i + k < s.size := by omega
          have hdg := HDG.out k (by omega)
          rw [bAt_eq hks] at hdg
          have HBE := hide (bAt_eq hks)
          have hnb := numD_bd s i k fun j hj => HDG.out j (by omega)
          have h12 : ((10 ^ k : Nat) : Int) ≤ 10 ^ 12 := by
            have : (10 : Nat) ^ k ≤ 10 ^ 12 := Nat.pow_le_pow_right (by omega) (by omega)
            exact_mod_cast this
          have HNS : Hid (numD s i (k + 1) = numD s i k * 10 + ((s[i + k].toNat : Int) - 48)) := hide (by rw [← HBE.out]; rfl)
          generalize numD s i k = nn at c2 hnb HNS HT3
          generalize ((10 ^ k : Nat) : Int) = pk at hnb h12
          have hke' : ((i + k : Nat) : Int) < (e0 : Int) := Int.ofNat_lt.2 hke
          have hks' : ((i + k : Nat) : Int) < (s.size : Int) := Int.ofNat_lt.2 hks
          have hik0 : (0 : Int) ≤ ((i + k : Nat) : Int) := Int.natCast_nonneg _
          generalize hik : i + k = ik at hke hks hdg HBE HNS hke' hks' hik0 ⊢
          have HIK : Hid (ik = i + k) := hide hik.symm
          clear hik
          go_wp2_with fail
          have hd0 : (48 : Int) ≤ (s[ik].toNat : Int) := by omega
          have hd1 : (s[ik].toNat : Int) ≤ 57 := by omega
          go_region
          have HT4 : Hid (Blk ((wr.setCell ⟨r + 1, 2, none⟩ (.int .i64 (10 * nn + ((s[ik].toNat : Int) - 48)))).drew) (r + 1) 166 #[.int .i64 2, .string ⟨#[]⟩, .int .i64 (numD s i (k + 1)), .int .i64 i]) := hide (by
            have h := (HT3.out.set_ 2 (.int .i64 (10 * nn + ((s[ik].toNat : Int) - 48)))).drew
            rw [HNS.out, Int.mul_comm nn 10]
            simpa using h)
          have HR4 : Hid (Blk ((wr.setCell ⟨r + 1, 2, none⟩ (.int .i64 (10 * nn + ((s[ik].toNat : Int) - 48)))).drew) r 166 #[.int .i64 0, .string ⟨#[]⟩, .int .i64 0, .int .i64 0]) := hide ((HR3.out.far (p := ⟨r + 1, 2, none⟩) hne _).drew)
          have HB4 : Hid (Below w.heap.size w ((wr.setCell ⟨r + 1, 2, none⟩ (.int .i64 (10 * nn + ((s[ik].toNat : Int) - 48)))).drew)) := hide ((HB3.out.setCell (p := ⟨r + 1, 2, none⟩) hrb _).drew)
          generalize (wr.setCell ⟨r + 1, 2, none⟩ (.int .i64 (10 * nn + ((s[ik].toNat : Int) - 48)))).drew = w5 at HT4 HR4 HB4 ⊢
          go_wp2
          go_roundw
          case rel => exact ⟨k + 1, by have := HIK.out; omega, by rw [HIK.out]; go_num, HT4.out, HR4.out, HB4.out⟩
          case measure => simp [intOf]; omega
        · have hike : e0 = i + k := by omega
          have hkd : e0 - i = k := by omega
          have HN2 : Hid (nextT s i = (0, ⟨2, s.extract i e0, numD s i k, i⟩, e0)) := hide (by rw [HN.out, hkd])
          rw [← hike]
          clear HN hike hkd
          obtain ⟨d0, d1, d2, d3, y0, y1, y2, y3⟩ := blk4 HR3.out
          generalize numD s i k = nn at HT3 c2 HN2
          have hq := set4 (HR3.out.far (p := ⟨r + 1, 1, none⟩) hne (.string (s.extract i e0))) (.int .i64 2) (.string (s.extract i e0)) (.int .i64 nn) (.int .i64 i)
          have hbq := below4 (HB3.out.setCell (p := ⟨r + 1, 1, none⟩) hrb (.string (s.extract i e0))) HRW.out (.int .i64 2) (.string (s.extract i e0)) (.int .i64 nn) (.int .i64 i)
          have HQ := hide hq
          have HBQ := hide hbq
          clear hq hbq
          have hie : (i : Int) ≤ (e0 : Int) := Int.ofNat_le.2 hg
          have hes : (e0 : Int) ≤ (s.size : Int) := Int.ofNat_le.2 hl
          go_wp2
          refine bodyPost_ret (results_cell1 rfl _ _ r 166 _ (0, 0) _ rfl HQ.out Tryz.underlying166 rfl (by kernel_rfl)) rfl ?_
          exact ⟨by rw [rnextV_of HN2.out]; rfl, HBQ.out⟩
set_option maxHeartbeats 4000000 in
set_option maxRecDepth 100000 in
theorem rnext_quo (s : ByteArray) (i : Nat) (w : World) (hi : i < s.size) (hs : s.size ≤ 20000) (k6 : atC s i = 6) :
    Calls Tryz.prog 123 #[.string s, .int .i64 i] w fun e w' => e = .returned (rnextV s i) ∧ Below w.heap.size w w' := by
  have HT0 := hide (Two.start w i)
  have h256 : s[i].toNat < 256 := UInt8.toNat_lt _
  have HCI := hide (cls_at hi)
  obtain ⟨t1, t2, t3, t4, t5, t6, t7, t8⟩ := cls_tab ⟨s[i].toNat, h256⟩
  dsimp only at t1 t2 t3 t4 t5 t6 t7 t8
  have HE := hide (bAt_eq hi)
  go_enter Tryz.func123, Tryz.ntmps123
  go_upto_region 4 with (fail)
  change Code.wp _ _ _ _ ((w.alloc (Obj.cells #[.int .i64 0, .string ⟨#[]⟩, .int .i64 0, .int .i64 0] 166)).alloc (Obj.cells #[.int .i64 0, .string ⟨#[]⟩, .int .i64 0, .int .i64 i] 166))
  generalize (w.alloc (Obj.cells #[.int .i64 0, .string ⟨#[]⟩, .int .i64 0, .int .i64 0] 166)).alloc (Obj.cells #[.int .i64 0, .string ⟨#[]⟩, .int .i64 0, .int .i64 i] 166) = w1 at HT0 ⊢
  obtain ⟨r, hr⟩ : ∃ r, r = w.heap.size := ⟨_, rfl⟩
  have HB1 := hide HT0.out.bel
  have HR1 : Hid (Blk w1 r 166 #[.int .i64 0, .string ⟨#[]⟩, .int .i64 0, .int .i64 0]) := hide (by rw [hr]; exact HT0.out.r)
  have HT1 : Hid (Blk w1 (r + 1) 166 #[.int .i64 0, .string ⟨#[]⟩, .int .i64 0, .int .i64 i]) := hide (by rw [hr]; exact HT0.out.t)
  have HRW : Hid (w.heap.size ≤ r) := hide (by rw [hr]; exact Nat.le_refl _)
  rw [← hr]
  clear hr HT0
  have HL := hide (letter_any s[i].toNat h256 w1)
  have HD := hide (digit_any s[i].toNat h256 w1)
  have hk6 : cls s[i].toNat = 6 := HCI.out.symm.trans k6
  rw [t1, decide_eq_false (by rw [hk6]; decide)] at HL
  rw [t2, decide_eq_false (by rw [hk6]; decide)] at HD
  have h34 : s[i].toNat = 34 := of_decide_eq_true (by rw [t6]; exact decide_eq_true hk6)
  have e34 : ((s[i].toNat : Int) == 34) = true := beq_iff_eq.2 (by omega)
  have HN0 : Hid (nextT s i = match find s isQuo (i + 1) with
     | none => (6, ⟨0, ByteArray.empty, 0, 0⟩, 0)
     | some k => if bAt s k = 10 then (6, ⟨0, ByteArray.empty, 0, 0⟩, 0) else if 400 < k - (i + 1) then (2, ⟨0, ByteArray.empty, 0, 0⟩, 0) else (0, ⟨3, s.extract (i + 1) k, 0, i⟩, k + 1)) := by
    show nextT s i = _
    unfold nextT
    rw [if_neg (by rw [k6]; decide), if_neg (by rw [k6]; decide), if_pos k6]
    rfl
  clear t1 t2 t3 t4 t5 t6 t7 t8 k6 hk6 h34
  go_wp2_with fail
  refine HL.out.mono ?_
  rintro en w' ⟨rfl, rfl⟩
  clear HL
  go_wp2_with fail
  refine HD.out.mono ?_
  rintro en w' ⟨rfl, rfl⟩
  clear HD
  go_upto_block 6 with (fail)
  go_cut [6] (fun t6 wx => (∃ e0 : Nat, t6 = .int .i64 e0 ∧ i + 1 ≤ e0 ∧ e0 ≤ s.size ∧ find s isQuo (i + 1) = if e0 < s.size then some e0 else none) ∧ wx = w1)
  case first =>
    go_wp2_with fail
    go_loopw [6] (fun t6 wr => ∃ m : Nat, i + 1 ≤ m ∧ m ≤ s.size ∧ t6 = .int .i64 m ∧ (∀ j, i + 1 ≤ j → j < m → isQuo (bAt s j) = false) ∧ w1 = wr) (fun t6 _ => s.size - (intOf t6).toNat)
    case atStart => exact ⟨i + 1, Nat.le_refl _, hi, by go_num, fun j h1 h2 => absurd h2 (by omega), rfl⟩
    case round =>
      obtain ⟨m, hm1, hm2, rfl, hall, rfl⟩ := hrel
      have HALL := hide hall
      clear hall
      by_cases hms : m < s.size
      · have h256m : s[m].toNat < 256 := UInt8.toNat_lt _
        have HBM := hide (bAt_eq hms)
        by_cases hq : s[m].toNat = 34
        · have HWH : Hid (find s isQuo (i + 1) = if m < s.size then some m else none) := hide (by rw [if_pos hms]; exact find_eq hm1 hms (by rw [HBM.out, hq]; rfl) HALL.out)
          have n34 : ((s[m].toNat : Int) != 34) = false := by simp; omega
          clear hq
          go_wp2_with fail
          go_meet
          exact ⟨⟨m, rfl, hm1, hm2, HWH.out⟩, rfl⟩
        · have n34 : ((s[m].toNat : Int) != 34) = true := by simp; omega
          by_cases hn : s[m].toNat = 10
          · have HWH : Hid (find s isQuo (i + 1) = if m < s.size then some m else none) := hide (by rw [if_pos hms]; exact find_eq hm1 hms (by rw [HBM.out, hn]; rfl) HALL.out)
            have n10 : ((s[m].toNat : Int) != 10) = false := by simp; omega
            clear hq hn
            go_wp2_with fail
            go_meet
            exact ⟨⟨m, rfl, hm1, hm2, HWH.out⟩, rfl⟩
          · have n10 : ((s[m].toNat : Int) != 10) = true := by simp; omega
            have HG : Hid (isQuo (bAt s m) = false) := hide (by rw [HBM.out]; unfold isQuo; simp [hq, hn])
            clear hq hn
            go_wp2_with fail
            go_roundw
            case rel =>
              refine ⟨m + 1, by omega, by omega, by go_num, fun j h1 h2 => ?_, trivial⟩
              by_cases hj : j < m
              · exact HALL.out j h1 hj
              · obtain rfl : j = m := by omega
                exact HG.out
            case measure => simp [intOf]; omega
      · obtain rfl : m = s.size := by omega
        have HWH : Hid (find s isQuo (i + 1) = if s.size < s.size then some s.size else none) := hide (by rw [if_neg (Nat.lt_irrefl _)]; exact find_eq_none HALL.out)
        go_wp2_with fail
        go_meet
        exact ⟨⟨s.size, rfl, hm1, hm2, HWH.out⟩, rfl⟩
  case rest =>
  obtain ⟨⟨e0, rfl, hg, hl, hf⟩, hwc⟩ := hcut
  obtain rfl : w1 = wc := hwc.symm
  rw [hf] at HN0
  clear hf
  obtain ⟨d0, d1, d2, d3, y0, y1, y2, y3⟩ := blk4 HR1.out
  have hq0 := set4 HR1.out (.int .i64 0) (.string ⟨#[]⟩) (.int .i64 0) (.int .i64 0)
  have hbq0 := below4 HB1.out HRW.out (.int .i64 0) (.string ⟨#[]⟩) (.int .i64 0) (.int .i64 0)
  by_cases hes : e0 < s.size
  · have hes' : ((e0 : Int) == (s.size : Int)) = false := beq_eq_false_iff_ne.2 (by omega)
    have hes2 : (e0 : Int) < (s.size : Int) := Int.ofNat_lt.2 hes
    have HBE := hide (bAt_eq hes)
    rw [if_pos hes] at HN0
    have HN1 : Hid (nextT s i = if s[e0].toNat = 10 then (6, ⟨0, ByteArray.empty, 0, 0⟩, 0) else if 400 < e0 - (i + 1) then (2, ⟨0, ByteArray.empty, 0, 0⟩, 0) else (0, ⟨3, s.extract (i + 1) e0, 0, i⟩, e0 + 1)) := hide (by rw [HN0.out]; dsimp only; rw [HBE.out])
    clear HN0
    by_cases hn : s[e0].toNat = 10
    · have HN : Hid (nextT s i = (6, ⟨0, ByteArray.empty, 0, 0⟩, 0)) := hide (by rw [HN1.out, if_pos hn])
      have n10 : ((s[e0].toNat : Int) == 10) = true := beq_iff_eq.2 (by omega)
      have HQ := hide hq0
      have HBQ := hide hbq0
      clear hn HN1 hq0 hbq0
      go_wp2
      refine bodyPost_ret (results_cell1 rfl _ _ r 166 _ (0, 0) _ rfl HQ.out Tryz.underlying166 rfl (by kernel_rfl)) rfl ?_
      exact ⟨by rw [rnextV_of HN.out]; rfl, HBQ.out⟩
    · have n10 : ((s[e0].toNat : Int) == 10) = false := beq_eq_false_iff_ne.2 (by omega)
      by_cases h4 : 400 < e0 - (i + 1)
      · have HN : Hid (nextT s i = (2, ⟨0, ByteArray.empty, 0, 0⟩, 0)) := hide (by rw [HN1.out, if_neg hn, if_pos h4])
        have h4' : (400 : Int) < (e0 : Int) - (i : Int) - 1 := by omega
        have HQ := hide hq0
        have HBQ := hide hbq0
        clear hn HN1 hq0 hbq0
        go_wp2
        refine bodyPost_ret (results_cell1 rfl _ _ r 166 _ (0, 0) _ rfl HQ.out Tryz.underlying166 rfl (by kernel_rfl)) rfl ?_
        exact ⟨by rw [rnextV_of HN.out]; rfl, HBQ.out⟩
      · have HN : Hid (nextT s i = (0, ⟨3, s.extract (i + 1) e0, 0, i⟩, e0 + 1)) := hide (by rw [HN1.out, if_neg hn, if_neg h4])
        have h4' : ¬ (400 : Int) < (e0 : Int) - (i : Int) - 1 := by omega
        have hq := set4 HR1.out (.int .i64 3) (.string (s.extract (i + 1) e0)) (.int .i64 0) (.int .i64 i)
        have hbq := below4 HB1.out HRW.out (.int .i64 3) (.string (s.extract (i + 1) e0)) (.int .i64 0) (.int .i64 i)
        have HQ := hide hq
        have HBQ := hide hbq
        clear hn HN1 hq0 hbq0 hq hbq
        go_wp2
        refine bodyPost_ret (results_cell1 rfl _ _ r 166 _ (0, 0) _ rfl HQ.out Tryz.underlying166 rfl (by kernel_rfl)) rfl ?_
        exact ⟨by rw [rnextV_of HN.out]; rfl, HBQ.out⟩
  · obtain rfl : e0 = s.size := by omega
    have hes' : ((s.size : Int) == (s.size : Int)) = true := beq_self_eq_true _
    have HN : Hid (nextT s i = (6, ⟨0, ByteArray.empty, 0, 0⟩, 0)) := hide (by rw [HN0.out, if_neg hes])
    have HQ := hide hq0
    have HBQ := hide hbq0
    clear HN0 hq0 hbq0
    go_wp2
    refine bodyPost_ret (results_cell1 rfl _ _ r 166 _ (0, 0) _ rfl HQ.out Tryz.underlying166 rfl (by kernel_rfl)) rfl ?_
    exact ⟨by rw [rnextV_of HN.out]; rfl, HBQ.out⟩
set_option maxHeartbeats 4000000 in
set_option maxRecDepth 100000 in
theorem rnext_sym (s : ByteArray) (i : Nat) (w : World) (hi : i < s.size) (hs : s.size ≤ 20000) (k : atC s i ≠ 3 ∧ atC s i ≠ 4 ∧ atC s i ≠ 6) :
    Calls Tryz.prog 123 #[.string s, .int .i64 i] w fun e w' => e = .returned (rnextV s i) ∧ Below w.heap.size w w' := by
  have HT0 := hide (Two.start w i)
  have h256 : s[i].toNat < 256 := UInt8.toNat_lt _
  have HCI := hide (cls_at hi)
  obtain ⟨t1, t2, t3, t4, t5, t6, t7, t8⟩ := cls_tab ⟨s[i].toNat, h256⟩
  dsimp only at t1 t2 t3 t4 t5 t6 t7 t8
  have HE := hide (bAt_eq hi)
  go_enter Tryz.func123, Tryz.ntmps123
  go_upto_region 4 with (fail)
  change Code.wp _ _ _ _ ((w.alloc (Obj.cells #[.int .i64 0, .string ⟨#[]⟩, .int .i64 0, .int .i64 0] 166)).alloc (Obj.cells #[.int .i64 0, .string ⟨#[]⟩, .int .i64 0, .int .i64 i] 166))
  generalize (w.alloc (Obj.cells #[.int .i64 0, .string ⟨#[]⟩, .int .i64 0, .int .i64 0] 166)).alloc (Obj.cells #[.int .i64 0, .string ⟨#[]⟩, .int .i64 0, .int .i64 i] 166) = w1 at HT0 ⊢
  obtain ⟨r, hr⟩ : ∃ r, r = w.heap.size := ⟨_, rfl⟩
  have HB1 := hide HT0.out.bel
  have HR1 : Hid (Blk w1 r 166 #[.int .i64 0, .string ⟨#[]⟩, .int .i64 0, .int .i64 0]) := hide (by rw [hr]; exact HT0.out.r)
  have HT1 : Hid (Blk w1 (r + 1) 166 #[.int .i64 0, .string ⟨#[]⟩, .int .i64 0, .int .i64 i]) := hide (by rw [hr]; exact HT0.out.t)
  have HRW : Hid (w.heap.size ≤ r) := hide (by rw [hr]; exact Nat.le_refl _)
  rw [← hr]
  clear hr HT0
  have HL := hide (letter_any s[i].toNat h256 w1)
  have HD := hide (digit_any s[i].toNat h256 w1)
  rw [t1, decide_eq_false (by rw [← HCI.out]; exact k.1)] at HL
  rw [t2, decide_eq_false (by rw [← HCI.out]; exact k.2.1)] at HD
  have h34 : s[i].toNat ≠ 34 := of_decide_eq_false (by rw [t6]; exact decide_eq_false (by rw [← HCI.out]; exact k.2.2))
  have e34 : ((s[i].toNat : Int) == 34) = false := beq_eq_false_iff_ne.2 (by omega)
  have HN0 : Hid (nextT s i = if atC s i = 7 ∨ atC s i = 8 then
    (if bAt s (i + 1) = 61 then (0, ⟨4, s.extract i (i + 2), 0, i⟩, i + 2) else if atC s i = 7 then (3, ⟨0, ByteArray.empty, 0, 0⟩, 0) else (0, ⟨4, s.extract i (i + 1), 0, i⟩, i + 1))
    else if atC s i = 9 then (0, ⟨4, s.extract i (i + 1), 0, i⟩, i + 1) else (3, ⟨0, ByteArray.empty, 0, 0⟩, 0)) := by
    show nextT s i = _
    unfold nextT
    rw [if_neg k.1, if_neg k.2.1, if_neg k.2.2]
  have hne : r ≠ r + 1 := by omega
  have hrb : w.heap.size ≤ r + 1 := by have := HRW.out; omega
  have HA : Hid (∀ w2, Calls Tryz.prog 170 #[.string ⟨#[33, 60, 62, 61]⟩, .int .u8 s[i].toNat] w2 fun e w' => e = .returned (.bool (decide (atC s i = 7 ∨ atC s i = 8))) ∧ w2 = w') := hide (fun w2 => by
    have h := rhas_any ⟨#[33, 60, 62, 61]⟩ s[i].toNat h256 w2 (by decide)
    rw [t7, ← HCI.out] at h
    have e : (decide (atC s i = 7) || decide (atC s i = 8)) = decide (atC s i = 7 ∨ atC s i = 8) := by simp
    rwa [e] at h)
  have HS : Hid (∀ w2, Calls Tryz.prog 170 #[.string ⟨#[59, 44, 46, 58, 40, 41, 91, 93, 123, 125, 61, 60, 62, 43, 45, 42, 47]⟩, .int .u8 s[i].toNat] w2 fun e w' => e = .returned (.bool (decide (atC s i = 8 ∨ atC s i = 9))) ∧ w2 = w') := hide (fun w2 => by
    have h := rhas_any ⟨#[59, 44, 46, 58, 40, 41, 91, 93, 123, 125, 61, 60, 62, 43, 45, 42, 47]⟩ s[i].toNat h256 w2 (by decide)
    rw [t8, ← HCI.out] at h
    have e : (decide (atC s i = 8) || decide (atC s i = 9)) = decide (atC s i = 8 ∨ atC s i = 9) := by simp
    rwa [e] at h)
  clear t1 t2 t3 t4 t5 t6 t7 t8 k h34
  obtain ⟨c0, c1, c2, c3, z0, z1, z2, z3⟩ := blk4 HT1.out
  obtain ⟨d0, d1, d2, d3, y0, y1, y2, y3⟩ := blk4 HR1.out
  have hi0 : (0 : Int) ≤ (i : Int) := Int.natCast_nonneg i
  have his : (i : Int) + 1 ≤ (s.size : Int) := by omega
  go_wp2_with fail
  refine HL.out.mono ?_
  rintro en w' ⟨rfl, rfl⟩
  clear HL
  go_wp2_with fail
  refine HD.out.mono ?_
  rintro en w' ⟨rfl, rfl⟩
  clear HD
  go_wp2_with fail
  refine (HA.out _).mono ?_
  rintro en w' ⟨rfl, rfl⟩
  clear HA
  have FAIL : Hid (∀ (h : nextT s i = (3, ⟨0, ByteArray.empty, 0, 0⟩, 0)), True) := hide (fun _ => trivial)
  have hqf := set4 (HR1.out.far (p := ⟨r + 1, 0, none⟩) hne (.int .i64 4)) (.int .i64 0) (.string ⟨#[]⟩) (.int .i64 0) (.int .i64 0)
  have hbqf := below4 (HB1.out.setCell (p := ⟨r + 1, 0, none⟩) hrb (.int .i64 4)) HRW.out (.int .i64 0) (.string ⟨#[]⟩) (.int .i64 0) (.int .i64 0)
  have HQF := hide hqf
  have HBF := hide hbqf
  have HQT : Hid (∀ e0 : Nat, Blk _ _ _ _) := hide (fun e0 => set4 ((HR1.out.far (p := ⟨r + 1, 0, none⟩) hne (.int .i64 4)).far (p := ⟨r + 1, 1, none⟩) hne (.string (s.extract i e0))) (.int .i64 4) (.string (s.extract i e0)) (.int .i64 0) (.int .i64 i))
  have HBT : Hid (∀ e0 : Nat, Below _ _ _) := hide (fun e0 => below4 ((HB1.out.setCell (p := ⟨r + 1, 0, none⟩) hrb (.int .i64 4)).setCell (p := ⟨r + 1, 1, none⟩) hrb (.string (s.extract i e0))) HRW.out (.int .i64 4) (.string (s.extract i e0)) (.int .i64 0) (.int .i64 i))
  clear FAIL hqf hbqf
  obtain ⟨e1, he1⟩ : ∃ e1, e1 = i + 1 := ⟨_, rfl⟩
  have hz1 : (i : Int) + 1 = (e1 : Int) := by omega
  have HX2 : Hid (s.extract i (i + 2) = s.extract i (e1 + 1)) := hide (by rw [he1])
  have HX1 : Hid (s.extract i (i + 1) = s.extract i e1) := hide (by rw [he1])
  rw [← he1] at HN0
  rw [HX2.out] at HN0
  have h1e : i ≤ e1 := by omega
  have he1s : e1 ≤ s.size := by omega
  have he1s' : (e1 : Int) ≤ (s.size : Int) := Int.ofNat_le.2 he1s
  have hie1 : (i : Int) ≤ (e1 : Int) := Int.ofNat_le.2 h1e
  have he10 : (0 : Int) ≤ (e1 : Int) := Int.natCast_nonneg e1
  have HE1 := hide he1
  clear he1 his HX2 HX1
  have HEQ : Hid (∀ hin : e1 < s.size, bAt s e1 = s[e1].toNat) := hide (fun hin => bAt_eq hin)
  rw [hz1]
  clear hz1
  by_cases h78 : atC s i = 7 ∨ atC s i = 8
  · rw [decide_eq_true h78]
    rw [if_pos h78] at HN0
    by_cases hin : e1 < s.size
    · have hin' : (e1 : Int) < (s.size : Int) := Int.ofNat_lt.2 hin
      by_cases h61 : s[e1].toNat = 61
      · have HN : Hid (nextT s i = (0, ⟨4, s.extract i (e1 + 1), 0, i⟩, i + 2)) := hide (by rw [HN0.out, if_pos ((HEQ.out hin).trans h61)])
        have b61 : ((s[e1].toNat : Int) == 61) = true := beq_iff_eq.2 (by omega)
        have HQ := hide (HQT.out (e1 + 1))
        have HBQ := hide (HBT.out (e1 + 1))
        clear HN0 h61 h78 HQT HBT HQF HBF HS HEQ
        go_wp2
        refine bodyPost_ret (results_cell1 rfl _ _ r 166 _ (0, 0) _ rfl HQ.out Tryz.underlying166 rfl (by kernel_rfl)) rfl ?_
        exact ⟨by rw [rnextV_of HN.out]; rfl, HBQ.out⟩
      · have b61 : ((s[e1].toNat : Int) == 61) = false := beq_eq_false_iff_ne.2 (by omega)
        have HN1 : Hid (nextT s i = if atC s i = 7 then (3, ⟨0, ByteArray.empty, 0, 0⟩, 0) else (0, ⟨4, s.extract i e1, 0, i⟩, e1)) := hide (by rw [HN0.out, if_neg (fun h => h61 ((HEQ.out hin).symm.trans h))])
        clear HN0 h61 HEQ
        go_wp2_with fail
        refine (HS.out _).mono ?_
        rintro en w' ⟨rfl, rfl⟩
        clear HS
        by_cases h7 : atC s i = 7
        · have HN : Hid (nextT s i = (3, ⟨0, ByteArray.empty, 0, 0⟩, 0)) := hide (by rw [HN1.out, if_pos h7])
          rw [decide_eq_false (by omega)]
          have HQ := HQF
          have HBQ := HBF
          clear HN1 h7 h78 HQT HBT HQF HBF
          go_wp2
          refine bodyPost_ret (results_cell1 rfl _ _ r 166 _ (0, 0) _ rfl HQ.out Tryz.underlying166 rfl (by kernel_rfl)) rfl ?_
          exact ⟨by rw [rnextV_of HN.out]; rfl, HBQ.out⟩
        · have HN : Hid (nextT s i = (0, ⟨4, s.extract i e1, 0, i⟩, e1)) := hide (by rw [HN1.out, if_neg h7])
          rw [decide_eq_true (.inl (h78.resolve_left h7))]
          have HQ := hide (HQT.out e1)
          have HBQ := hide (HBT.out e1)
          clear HN1 h7 h78 HQT HBT HQF HBF
          go_wp2
          refine bodyPost_ret (results_cell1 rfl _ _ r 166 _ (0, 0) _ rfl HQ.out Tryz.underlying166 rfl (by kernel_rfl)) rfl ?_
          exact ⟨by rw [rnextV_of HN.out]; rfl, HBQ.out⟩
    · have hin' : ¬ (e1 : Int) < (s.size : Int) := by omega
      have HN1 : Hid (nextT s i = if atC s i = 7 then (3, ⟨0, ByteArray.empty, 0, 0⟩, 0) else (0, ⟨4, s.extract i e1, 0, i⟩, e1)) := hide (by
        rw [HN0.out, if_neg (fun h => hin (bAt_in h (by decide)))])
      clear HN0 HEQ
      go_wp2_with fail
      refine (HS.out _).mono ?_
      rintro en w' ⟨rfl, rfl⟩
      clear HS
      by_cases h7 : atC s i = 7
      · have HN : Hid (nextT s i = (3, ⟨0, ByteArray.empty, 0, 0⟩, 0)) := hide (by rw [HN1.out, if_pos h7])
        rw [decide_eq_false (by omega)]
        have HQ := HQF
        have HBQ := HBF
        clear HN1 h7 h78 HQT HBT HQF HBF
        go_wp2
        refine bodyPost_ret (results_cell1 rfl _ _ r 166 _ (0, 0) _ rfl HQ.out Tryz.underlying166 rfl (by kernel_rfl)) rfl ?_
        exact ⟨by rw [rnextV_of HN.out]; rfl, HBQ.out⟩
      · have HN : Hid (nextT s i = (0, ⟨4, s.extract i e1, 0, i⟩, e1)) := hide (by rw [HN1.out, if_neg h7])
        rw [decide_eq_true (.inl (h78.resolve_left h7))]
        have HQ := hide (HQT.out e1)
        have HBQ := hide (HBT.out e1)
        clear HN1 h7 h78 HQT HBT HQF HBF
        go_wp2
        refine bodyPost_ret (results_cell1 rfl _ _ r 166 _ (0, 0) _ rfl HQ.out Tryz.underlying166 rfl (by kernel_rfl)) rfl ?_
        exact ⟨by rw [rnextV_of HN.out]; rfl, HBQ.out⟩
  · rw [decide_eq_false h78]
    rw [if_neg h78] at HN0
    clear HEQ
    go_wp2_with fail
    refine (HS.out _).mono ?_
    rintro en w' ⟨rfl, rfl⟩
    clear HS
    by_cases h9 : atC s i = 9
    · have HN : Hid (nextT s i = (0, ⟨4, s.extract i e1, 0, i⟩, e1)) := hide (by rw [HN0.out, if_pos h9])
      rw [decide_eq_true (.inr h9)]
      have HQ := hide (HQT.out e1)
      have HBQ := hide (HBT.out e1)
      clear HN0 h9 h78 HQT HBT HQF HBF
      go_wp2
      refine bodyPost_ret (results_cell1 rfl _ _ r 166 _ (0, 0) _ rfl HQ.out Tryz.underlying166 rfl (by kernel_rfl)) rfl ?_
      exact ⟨by rw [rnextV_of HN.out]; rfl, HBQ.out⟩
    · have HN : Hid (nextT s i = (3, ⟨0, ByteArray.empty, 0, 0⟩, 0)) := hide (by rw [HN0.out, if_neg h9])
      rw [decide_eq_false (fun h => by rcases h with h | h; exact h78 (.inr h); exact h9 h)]
      have HQ := HQF
      have HBQ := HBF
      clear HN0 h9 h78 HQT HBT HQF HBF
      go_wp2
      refine bodyPost_ret (results_cell1 rfl _ _ r 166 _ (0, 0) _ rfl HQ.out Tryz.underlying166 rfl (by kernel_rfl)) rfl ?_
      exact ⟨by rw [rnextV_of HN.out]; rfl, HBQ.out⟩
end Go.Proofs.YtkomgidcgepknaaGreatDoor

set_option linter.unusedVariables false
set_option linter.unusedSimpArgs false
namespace Go.Proofs.YtkomgidcgepknaaGreatDoor
open Go.RowKit Go.Deep Go.Maps

theorem rnext_any (s : ByteArray) (i : Nat) (w : World) (hi : i < s.size) (hs : s.size ≤ 20000) :
    Calls Tryz.prog 123 #[.string s, .int .i64 i] w fun e w' => e = .returned (rnextV s i) ∧ Below w.heap.size w w' := by
  by_cases h3 : atC s i = 3
  · exact rnext_name s i w hi hs h3
  · by_cases h4 : atC s i = 4
    · exact rnext_num s i w hi hs h4
    · by_cases h6 : atC s i = 6
      · exact rnext_quo s i w hi hs h6
      · exact rnext_sym s i w hi hs ⟨h3, h4, h6⟩
/-- How many bytes a token takes. -/
def widT (t : Tok) : Nat := t.text.size + if t.kind = 3 then 2 else 0
theorem next_width {s : ByteArray} {i : Nat} (hi : i < s.size) (h : (nextT s i).1 = 0) : (nextT s i).2.2 = i + widT (nextT s i).2.1 ∧ (nextT s i).2.1.text.size ≤ s.size := by
  have hx : ∀ a b : Nat, a ≤ b → b ≤ s.size → (s.extract a b).size = b - a := fun a b h1 h2 => by
    rw [ByteArray.size_extract]; omega
  have hend := nextT_end hi h
  unfold nextT at h hend ⊢
  split at h
  · rename_i hc
    rw [if_pos hc] at hend ⊢
    split at h
    · exact absurd h (by decide)
    · rename_i h2
      rw [if_neg h2] at hend ⊢
      dsimp only at hend ⊢
      have hsz := hx i _ (Nat.le_of_lt hend.1) hend.2
      unfold widT
      simp only [hsz]
      simp only [show ((1 : Int) = 3) = False by decide, show ((2 : Int) = 3) = False by decide, show ((4 : Int) = 3) = False by decide, if_false, if_true]
      omega
  · rename_i hc
    rw [if_neg hc] at hend ⊢
    split at h
    · rename_i hc2
      rw [if_pos hc2] at hend ⊢
      split at h
      · exact absurd h (by decide)
      · rename_i h2
        rw [if_neg h2] at hend ⊢
        dsimp only at hend ⊢
        have hsz := hx i _ (Nat.le_of_lt hend.1) hend.2
        unfold widT
        simp only [hsz]
        simp only [show ((1 : Int) = 3) = False by decide, show ((2 : Int) = 3) = False by decide, show ((4 : Int) = 3) = False by decide, if_false, if_true]
        omega
    · rename_i hc2
      rw [if_neg hc2] at hend ⊢
      split at h
      · rename_i hc3
        rw [if_pos hc3] at hend ⊢
        cases hf : find s isQuo (i + 1) with
        | none => rw [hf] at h; simp at h
        | some k =>
          rw [hf] at h hend
          dsimp only at h hend ⊢
          split at h
          · exact absurd h (by decide)
          · rename_i h2
            rw [if_neg h2] at hend ⊢
            split at h
            · exact absurd h (by decide)
            · rename_i h3
              rw [if_neg h3] at hend ⊢
              obtain ⟨a1, a2, _, _⟩ := find_some hf
              dsimp only at hend ⊢
              have hsz := hx _ _ a1 (show _ ≤ s.size by omega)
              unfold widT
              simp only [hsz]
              simp only [show ((1 : Int) = 3) = False by decide, show ((2 : Int) = 3) = False by decide, show ((4 : Int) = 3) = False by decide, if_false, if_true]
              omega
      · rename_i hc3
        rw [if_neg hc3] at hend ⊢
        split at h
        · rename_i hc4
          rw [if_pos hc4] at hend ⊢
          split at h
          · rename_i h2
            rw [if_pos h2] at hend ⊢
            dsimp only at hend ⊢
            have hsz := hx i _ (Nat.le_of_lt hend.1) hend.2
            unfold widT
            simp only [hsz]
            simp only [show ((1 : Int) = 3) = False by decide, show ((2 : Int) = 3) = False by decide, show ((4 : Int) = 3) = False by decide, if_false, if_true]
            omega
          · rename_i h2
            rw [if_neg h2] at hend ⊢
            split at h
            · exact absurd h (by decide)
            · rename_i h3
              rw [if_neg h3] at hend ⊢
              dsimp only at hend ⊢
              have hsz := hx i _ (Nat.le_of_lt hend.1) hend.2
              unfold widT
              simp only [hsz]
              simp only [show ((1 : Int) = 3) = False by decide, show ((2 : Int) = 3) = False by decide, show ((4 : Int) = 3) = False by decide, if_false, if_true]
              omega
        · rename_i hc4
          rw [if_neg hc4] at hend ⊢
          split at h
          · rename_i h2
            rw [if_pos h2] at hend ⊢
            dsimp only at hend ⊢
            have hsz := hx i _ (Nat.le_of_lt hend.1) hend.2
            unfold widT
            simp only [hsz]
            simp only [show ((1 : Int) = 3) = False by decide, show ((2 : Int) = 3) = False by decide, show ((4 : Int) = 3) = False by decide, if_false, if_true]
            omega
          · exact absurd h (by decide)
set_option maxHeartbeats 4000000 in
set_option maxRecDepth 100000 in
theorem rlex_any (s : ByteArray) (w : World) (hs : s.size ≤ maxLen) :
    Calls Tryz.prog 68 #[.string s] w fun e w' => (∃ v, e = .returned v ∧ LexV w w' (lexL s) v) ∧ Below w.heap.size w w' := by
  unfold maxLen at hs
  by_cases hbig : 20000 < s.size
  · have HL : Hid (lexL s = ⟨[], 2, -1⟩) := by
      show lexL s = _
      unfold lexL
      rw [if_pos hbig]
    go_enter Tryz.func68, Tryz.ntmps68
    go_wp2
    go_ret3
    refine ⟨⟨_, rfl, ?_⟩, Below.refl _ _⟩
    rw [HL.out]
    exact ⟨none, 0, rfl, Own.nil _ _ _ _⟩
  · have HL : Hid (lexL s = lexI s (gapE s 0) []) := by
      show lexL s = _
      unfold lexL
      rw [if_neg hbig]
    go_enter Tryz.func68, Tryz.ntmps68
    go_wp2_with fail
    refine (rgap_any s 0 w (Nat.zero_le _) hs).mono ?_
    rintro e w' ⟨rfl, rfl⟩
    have hk0 := (gapE_ge s 0 (Nat.zero_le _)).2
    generalize hgz : gapE s 0 = k0 at HL hk0 ⊢
    clear hgz
    go_wp2_with fail
    go_loopw [5, 6, 7, 8] (fun t i t7 t8 wr => ∃ (k : Nat) (acc : List Tok) (A : Option Addr) (c : Nat), k ≤ s.size ∧ i = .int .i64 k ∧ t = .slice A acc.length c ∧ acc.length ≤ 5000 ∧ lexL s = lexI s k acc ∧
        Own wr w.heap.size 166 4 A acc.length c (cellsT acc) ∧ Below w.heap.size w wr) (fun _ i _ _ _ => s.size - (intOf i).toNat)
    case atStart => exact ⟨k0, [], none, 0, hk0, rfl, rfl, by simp, HL.out, Own.nil _ _ _ _, Below.refl _ _⟩
    case round =>
      clear hk0 HL
      obtain ⟨k, acc, A, c, hk, rfl, rfl, hacc, hL, hown, hbr⟩ := hrel
      have HL := hide hL
      have HOW := hide hown
      have HBR := hide hbr
      clear hL hown hbr
      by_cases hlt : k < s.size
      · have F1 := hide (fun he => lexI_err hlt he acc)
        have F2 := hide (fun he ha => lexI_full hlt he acc ha)
        have F3 := hide (fun he ha => lexI_next hlt he acc ha)
        have F4 := hide (nextT_end hlt)
        have F5 := hide (next_width hlt)
        have hv : rnextV s k = .tuple #[.agg #[.int .i64 (nextT s k).2.1.kind, .string (nextT s k).2.1.text, .int .i64 (nextT s k).2.1.n, .int .i64 (nextT s k).2.1.off], .int .i64 (nextT s k).1] := rfl
        go_wp2_with fail
        refine (rnext_any s k wr hlt (by omega)).mono ?_
        rintro e w2 ⟨rfl, hbn⟩
        rw [hv]
        clear hv
        generalize nextT s k = q at F1 F2 F3 F4 F5 ⊢
        obtain ⟨err, t, en⟩ := q
        obtain ⟨tk, tt, tn, tf⟩ := t
        dsimp only at F1 F2 F3 F4 F5 ⊢
        have HB2 := hide (HBR.out.trans (hbn.mono HBR.out.size))
        have HO2 := hide (HOW.out.below hbn)
        clear hbn HBR HOW
        have HB3 := hide (HB2.out.alloc HB2.out.size (Obj.cells #[.int .i64 tk, .string tt, .int .i64 tn, .int .i64 tf] 166))
        by_cases he : err = 0
        · subst he
          by_cases ha : acc.length = 5000
          · have HR := hide (F2.out rfl ha)
            clear F1 F2 F3 F4 F5
            have ha' : ((acc.length : Nat) : Int) = 5000 := by omega
            go_wp2_with fail
            go_ret3
            refine ⟨⟨_, rfl, ?_⟩, HB3.out⟩
            rw [HL.out, HR.out]
            exact ⟨none, 0, rfl, Own.nil _ _ _ _⟩
          · have HR := hide (F3.out rfl ha)
            have hen := F4.out rfl
            have hwd := F5.out rfl
            clear F1 F2 F3 F4 F5
            have ha' : (((acc.length : Nat) : Int) == 5000) = false := beq_eq_false_iff_ne.2 (by omega)
            have HT3 : Hid (Blk ((w2.alloc (Obj.cells #[.int .i64 tk, .string tt, .int .i64 tn, .int .i64 tf] 166)).alloc (Obj.cells #[.int .i64 tk, .string tt, .int .i64 tn, .int .i64 tf] 166)) w2.heap.size 166 #[.int .i64 tk, .string tt, .int .i64 tn, .int .i64 tf]) := hide ((Blk.new _ _ _).alloc _)
            have RR : Hid (Reads ((w2.alloc (Obj.cells #[.int .i64 tk, .string tt, .int .i64 tn, .int .i64 tf] 166)).alloc (Obj.cells #[.int .i64 tk, .string tt, .int .i64 tn, .int .i64 tf] 166)) (w2.heap.size + 1 + 1) 4 (some ⟨w2.heap.size + 1, 0, none⟩) 1 (Tok.cells ⟨tk, tt, tn, tf⟩).toList) := by
              have := reads_new (w2.alloc (Obj.cells #[.int .i64 tk, .string tt, .int .i64 tn, .int .i64 tf] 166)) #[.int .i64 tk, .string tt, .int .i64 tn, .int .i64 tf] 166 4 1 rfl
              refine hide ?_
              simpa [Tok.cells] using this
            have OWN := hide ((HO2.out.alloc (Obj.cells #[.int .i64 tk, .string tt, .int .i64 tn, .int .i64 tf] 166)).alloc (Obj.cells #[.int .i64 tk, .string tt, .int .i64 tn, .int .i64 tf] 166))
            have HB4 : Hid (Below w.heap.size w ((w2.alloc (Obj.cells #[.int .i64 tk, .string tt, .int .i64 tn, .int .i64 tf] 166)).alloc (Obj.cells #[.int .i64 tk, .string tt, .int .i64 tn, .int .i64 tf] 166))) := hide (HB3.out.alloc HB3.out.size _)
            have hz4 := HB4.out.size
            have hmx : acc.length + 1 ≤ maxLen := by unfold maxLen; omega
            have hmy : (acc.length + 1) * 40 ≤ 140737488355328 := by omega
            have HNE : Hid (∀ g, (Value.slice A acc.length c).ownBlock = some g → g < w2.heap.size) := hide (fun g hg => (World.ownsRow.lt HO2.out g hg).2)
            clear HO2 HB2 HB3
            go_upto_region 13 with (at_builtin; refine wpList_app (by rfl) (.tmp 35) (.tmp 37) 103 rfl w.heap.size 166 (.agg #[.int .i64 0, .string ByteArray.empty, .int .i64 0, .int .i64 0]) 4 40 Tryz.underlying103 tok_info rfl (by omega) A acc.length c (cellsT acc) rfl OWN.out _ _ 1 _ _ rfl RR.out (tok_one _) hmx hmy hz4 ?_; intro A5 c5 w5 hown5 hb5 hg5; have HO5 := hide hown5; have HB5 := hide (HB4.out.trans hb5); have HT5 := hide (HT3.out.grown hg5 (fun e => by have := HNE.out _ e.symm; omega)); clear hown5 hb5 hg5)
            clear RR OWN HB4 hz4 HT3 HNE
            obtain ⟨t0, t1, t2, t3, _, _, _, _⟩ := blk4 HT5.out
            have htt : tt.size ≤ 100000 := by have := hwd.2; omega
            have HWD := hide hwd.1
            have HWI : Hid ((tt.size : Int) + (if tk = 3 then 2 else 0) = ((widT ⟨tk, tt, tn, tf⟩ : Nat) : Int)) := hide (by
              unfold widT
              dsimp only
              by_cases h3 : tk = 3
              · rw [if_pos h3, if_pos h3]; rfl
              · rw [if_neg h3, if_neg h3]; rfl)
            go_wp2_with fail
            refine (rwidth_any ⟨tk, tt, tn, tf⟩ w5 htt).mono ?_
            rintro e w6 ⟨rfl, hb6⟩
            dsimp only
            rw [HWI.out]
            have HB6 := hide (HB5.out.trans (hb6.mono HB5.out.size))
            have HO6 := hide (HO5.out.below hb6)
            clear hb6 HB5 HO5 HT5 t0 t1 t2 t3 HWI
            have hkw : (k : Int) + ((widT ⟨tk, tt, tn, tf⟩ : Nat) : Int) = (en : Int) := by have := HWD.out; omega
            have HKW := hide hkw
            have hen2 : (en : Int) ≤ (s.size : Int) := Int.ofNat_le.2 hen.2
            have hs20 : (s.size : Int) ≤ 20000 := by omega
            have hen0 : (0 : Int) ≤ (en : Int) := Int.natCast_nonneg en
            have hw20 : ((widT ⟨tk, tt, tn, tf⟩ : Nat) : Int) ≤ 20000 := by have := Int.natCast_nonneg k; omega
            have HGE := hide (gapE_ge s en hen.2)
            have hen1 := hen.1
            have hen3 := hen.2
            clear hkw
            go_wp2_with fail
            rw [HKW.out]
            refine (rgap_any s en w6 hen3 (by unfold maxLen; omega)).mono ?_
            rintro e w7 ⟨rfl, rfl⟩
            have hge := HGE.out
            clear HGE HWD HKW
            generalize gapE s en = k2 at HR hge ⊢
            go_wp2_with fail
            go_roundw
            case rel => exact ⟨k2, acc ++ [⟨tk, tt, tn, tf⟩], A5, c5, hge.2, rfl, by simp, by simp; omega, by rw [HL.out, HR.out], by rw [cellsT_snoc]; simpa using HO6.out, HB6.out⟩
            case measure => simp [intOf]; omega
        · have HR := hide (F1.out he)
          clear F1 F2 F3 F4 F5
          have he' : (err == 0) = false := beq_eq_false_iff_ne.2 he
          go_wp2_with fail
          go_ret3
          refine ⟨⟨_, rfl, ?_⟩, HB3.out⟩
          rw [HL.out, HR.out]
          exact ⟨none, 0, rfl, Own.nil _ _ _ _⟩
      · have HR := hide (lexI_end hlt acc)
        obtain rfl : k = s.size := by omega
        go_wp2_with fail
        go_ret3
        refine ⟨⟨_, rfl, ?_⟩, HBR.out⟩
        rw [HL.out, HR.out]
        exact ⟨A, c, rfl, HOW.out⟩
end Go.Proofs.YtkomgidcgepknaaGreatDoor

set_option linter.unusedVariables false
set_option linter.unusedSimpArgs false
namespace Go.Proofs.YtkomgidcgepknaaGreatDoor

/-- The reference parser's state. -/
structure PSt where
  err : Int
  off : Int
  toks : List Tok
  out : List Nod
def seesS (s : PSt) (t : ByteArray) : Bool := decide (s.err = 0) && seesL s.toks 0 t
def failS (z : Int) (s : PSt) (e : Int) : PSt :=
  if s.err = 0 then (match s.toks with | [] => ⟨6, z, s.toks, s.out⟩ | k :: _ => ⟨e, k.off, s.toks, s.out⟩) else s
def tailS (s : PSt) : PSt := ⟨s.err, s.off, s.toks.tail, s.out⟩
def mustS (z : Int) (s : PSt) (t : ByteArray) : PSt := if seesS s t = true then tailS s else failS z s 5
def addS (s : PSt) (x : Nod) : PSt := ⟨s.err, s.off, s.toks, s.out ++ [x]⟩
def putS (s : PSt) (x : Nod) : Int × PSt := (s.out.length, addS s x)
/-- The operator of a level that the next token is. -/
def opS (l : Nat) (s : PSt) : Int :=
  if l = 1 then (if seesS s ⟨#[61, 61]⟩ = true then 11 else if seesS s ⟨#[60]⟩ = true then 10 else 0)
  else if l = 2 then (if seesS s ⟨#[45]⟩ = true then 4 else if seesS s ⟨#[43]⟩ = true then 3 else 0)
  else (if seesS s ⟨#[47]⟩ = true then 6 else if seesS s ⟨#[42]⟩ = true then 5 else 0)
/-- What follows on a part. -/
def thenS (r : Option (Int × PSt)) (k : Int → PSt → Option (Int × PSt)) : Option (Int × PSt) := match r with | none => none | some x => k x.1 x.2
/-- The reference parser: tag 0 a level, 1 its loop, 2 primary. -/
def refF (z : Int) : Nat → Nat → Nat → Int → PSt → Option (Int × PSt)
  | 0, tag, l, a, s => if s.err = 0 then none else some (if tag = 1 then a else 0, s)
  | f + 1, tag, l, a, s =>
    if s.err ≠ 0 then some (if tag = 1 then a else 0, s) else
    if tag = 0 then
      (if l = 4 then
        (if seesS s minus = false then refF z f 2 0 0 s
         else thenS (refF z f 0 4 0 (tailS s)) fun a t => some (putS t ⟨12, 0, ByteArray.empty, [a]⟩))
       else thenS (refF z f 0 (l + 1) 0 s) fun a t => refF z f 1 l a t)
    else if tag = 1 then
      (if opS l s = 0 then some (a, s)
       else thenS (refF z f 0 (l + 1) 0 (tailS s)) fun b t =>
         if l = 1 then some (putS t ⟨opS l s, 0, ByteArray.empty, [a, b]⟩) else refF z f 1 l t.out.length (addS t ⟨opS l s, 0, ByteArray.empty, [a, b]⟩))
    else
      (if seesS s lpar = true then thenS (refF z f 0 1 0 (tailS s)) fun a t => some (a, mustS z t rpar)
       else match s.toks with
        | [] => some (0, failS z s 5)
        | k :: rest =>
          if k.kind ≠ 2 ∧ k.kind ≠ 1 then some (0, failS z s 5)
          else if k.kind = 2 then (if 1000000 < k.n then some (0, failS z s 9) else some (putS (tailS s) ⟨1, k.n, ByteArray.empty, []⟩))
          else if funcOp k.text = 0 then (if seesL s.toks 1 lpar = true then some (0, failS z s 7) else some (putS (tailS s) ⟨2, 0, k.text, []⟩))
          else thenS (refF z f 0 1 0 (mustS z (tailS s) lpar)) fun x t1 => thenS (refF z f 0 1 0 (mustS z t1 comma)) fun y t2 =>
            if funcOp k.text = 9 then thenS (refF z f 0 1 0 (mustS z t2 comma)) fun v t3 => some (putS (mustS z t3 rpar) ⟨9, 0, ByteArray.empty, [x, y, v]⟩)
            else some (putS (mustS z t2 rpar) ⟨funcOp k.text, 0, ByteArray.empty, [x, y]⟩))

theorem thenS_some {r : Option (Int × PSt)} {k : Int → PSt → Option (Int × PSt)} {res : Int × PSt} (h : thenS r k = some res) : ∃ a t, r = some (a, t) ∧ k a t = some res := by
  unfold thenS at h
  cases r with
  | none => cases h
  | some x => exact ⟨x.1, x.2, rfl, h⟩
/-- An error once noted stays. -/
theorem refF_dead (z : Int) (f tag l : Nat) (a : Int) (s : PSt) (h : s.err ≠ 0) : refF z f tag l a s = some (if tag = 1 then a else 0, s) := by
  cases f with
  | zero => unfold refF; rw [if_neg h]
  | succ f => unfold refF; rw [if_pos h]
theorem sees_dead {s : PSt} (h : s.err ≠ 0) (t : ByteArray) : seesS s t = false := by
  unfold seesS; rw [decide_eq_false h]; rfl
theorem fail_dead {s : PSt} (h : s.err ≠ 0) (z e : Int) : failS z s e = s := by
  unfold failS; rw [if_neg h]
theorem must_dead {s : PSt} (h : s.err ≠ 0) (z : Int) (t : ByteArray) : mustS z s t = s := by
  unfold mustS; rw [sees_dead h, if_neg (by decide), fail_dead h]

/-- r is what the reference leaves where the parser leaves res. -/
def RelP (res : PR) (r : Int × PSt) : Prop :=
  match res with
  | Except.ok x => r = (x.1, ⟨0, 0, x.2.1, x.2.2⟩)
  | Except.error x => r.2.err = x.1 ∧ r.2.off = x.2 ∧ x.1 ≠ 0
def live (toks : List Tok) (out : List Nod) : PSt := ⟨0, 0, toks, out⟩
theorem sees_live (toks : List Tok) (out : List Nod) (t : ByteArray) : seesS (live toks out) t = seesL toks 0 t := rfl
theorem fail_rel (z : Int) (toks : List Tok) (out : List Nod) (e a : Int) (he : e ≠ 0) : RelP (failL z toks e) (a, failS z (live toks out) e) := by
  cases toks with
  | nil => exact ⟨rfl, rfl, by show (6 : Int) ≠ 0; decide⟩
  | cons k r => exact ⟨rfl, rfl, he⟩
theorem must_yesS (z : Int) (toks : List Tok) (out : List Nod) {t : ByteArray} (h : seesL toks 0 t = true) : mustS z (live toks out) t = live toks.tail out := by
  unfold mustS; rw [sees_live, h, if_pos rfl]; rfl
theorem must_noS (z : Int) (toks : List Tok) (out : List Nod) {t : ByteArray} (h : seesL toks 0 t = false) : mustS z (live toks out) t = failS z (live toks out) 5 := by
  unfold mustS; rw [sees_live, h, if_neg (by decide)]
theorem fail_err (z : Int) (toks : List Tok) (out : List Nod) (e : Int) (he : e ≠ 0) : (failS z (live toks out) e).err ≠ 0 := by
  cases toks with
  | nil => show (6 : Int) ≠ 0; decide
  | cons k r => exact he

theorem op_nil (l : Nat) (out : List Nod) : opS l (live [] out) = 0 := by
  unfold opS
  have hs : ∀ t, seesS (live [] out) t = false := fun _ => rfl
  simp only [hs]
  repeat' split
  all_goals first | rfl | (exfalso; simp_all; done)
theorem op_is (l : Nat) (hl : l = 1 ∨ l = 2 ∨ l = 3) (k : Tok) (rest : List Tok) (out : List Nod) :
    opS l (live (k :: rest) out) = if k.kind = 4 ∧ infixOp k.text ≠ 0 ∧ strength (infixOp k.text) = (l : Int) then infixOp k.text else 0 := by
  have hs : ∀ t, seesS (live (k :: rest) out) t = (k.kind == 4 && decide (k.text = t)) := fun t => rfl
  unfold opS
  simp only [hs]
  by_cases hk : k.kind = 4
  · have h4 : (k.kind == 4) = true := beq_iff_eq.2 hk
    simp only [h4, hk, Bool.true_and, decide_eq_true_eq, true_and]
    generalize k.text = t
    by_cases h1 : t = ⟨#[60]⟩
    · subst h1; rcases hl with rfl | rfl | rfl <;> decide
    by_cases h2 : t = ⟨#[61, 61]⟩
    · subst h2; rcases hl with rfl | rfl | rfl <;> decide
    by_cases h3 : t = ⟨#[43]⟩
    · subst h3; rcases hl with rfl | rfl | rfl <;> decide
    by_cases h5 : t = ⟨#[45]⟩
    · subst h5; rcases hl with rfl | rfl | rfl <;> decide
    by_cases h6 : t = ⟨#[42]⟩
    · subst h6; rcases hl with rfl | rfl | rfl <;> decide
    by_cases h7 : t = ⟨#[47]⟩
    · subst h7; rcases hl with rfl | rfl | rfl <;> decide
    have h0 : infixOp t = 0 := by
      unfold infixOp
      rw [if_neg h1, if_neg h2, if_neg h3, if_neg h5, if_neg h6, if_neg h7]
    simp [h0, h1, h2, h3, h5, h6, h7]
  · have h4 : (k.kind == 4) = false := beq_eq_false_iff_ne.2 hk
    simp [h4, hk]

theorem andR {r : Option PR} {k : Int → List Tok → List Nod → Option PR} {res : PR} (h : andL r k = some res) :
    (∃ x, r = some (Except.error x) ∧ res = Except.error x) ∨ ∃ a t o, r = some (Except.ok (a, t, o)) ∧ k a t o = some res := by
  unfold andL at h
  cases r with
  | none => cases h
  | some p =>
    cases p with
    | error x => injection h with h; exact .inl ⟨x, rfl, h.symm⟩
    | ok x => exact .inr ⟨x.1, x.2.1, x.2.2, rfl, h⟩
theorem parF_argsR (z : Int) (g : Nat) (op : Int) (i : Nat) (kids : List Int) (t : List Tok) (o : List Nod) : parF z (g + 1) (jArgs op i kids t o) =
    if (i : Int) < operands op then
        (if seesL t 0 (if i = 0 then lpar else comma) = true then andL (parF z g (jLevel 1 t.tail o)) fun a t o => parF z g (jArgs op (i + 1) (kids ++ [a]) t o)
         else some (failL z t 5))
       else if seesL t 0 rpar = true then some (putL t.tail o ⟨op, 0, ByteArray.empty, kids⟩) else some (failL z t 5) := rfl

/-- The contract of a level in plain words, as far as the fuel F. -/
def LevR (z : Int) (F : Nat) : Prop := ∀ (f : Nat), f ≤ F → ∀ (l : Nat) (toks : List Tok) (out : List Nod) (res : PR), 1 ≤ l → l ≤ 4 → parF z f (jLevel l toks out) = some res → ∃ r, refF z F 0 l 0 (live toks out) = some r ∧ RelP res r
/-- Behind a part: an error that stays, or go on. -/
def Stay (s : PSt) (res : PR) : Prop := s.err ≠ 0 ∧ res = Except.error (s.err, s.off)
theorem stay_of {res : PR} {a : Int} {s : PSt} {x : Int × Int} (h : RelP (Except.error x) (a, s)) (hr : res = Except.error x) : Stay s res := by
  obtain ⟨h1, h2, h3⟩ := h
  dsimp only at h1 h2
  exact ⟨by rw [h1]; exact h3, by rw [hr, h1, h2]⟩
theorem stay_rel {s : PSt} {res : PR} (h : Stay s res) (a : Int) : RelP res (a, s) := by
  rw [h.2]; exact ⟨rfl, rfl, h.1⟩
theorem stay_add {s : PSt} {res : PR} (h : Stay s res) (x : Nod) : Stay (addS s x) res := h
theorem live_of {res : PR} {a : Int} {t : List Tok} {o : List Nod} {r : Int × PSt} (h : RelP (Except.ok (a, t, o)) r) : r = (a, live t o) := h
theorem rlevel_step {z : Int} {F : Nat} (hL : LevR z F) {g : Nat} (hg : g ≤ F) {l : Nat} (h1 : 1 ≤ l) (h4 : l ≤ 4) {toks : List Tok} {out : List Nod} {k : Int → List Tok → List Nod → Option PR} {res : PR}
    (h : andL (parF z g (jLevel l toks out)) k = some res) : ∃ a s, refF z F 0 l 0 (live toks out) = some (a, s) ∧ (Stay s res ∨ ∃ t o, s = live t o ∧ k a t o = some res) := by
  rcases andR h with ⟨x, hx, rfl⟩ | ⟨a, t, o, hx, hk⟩
  · obtain ⟨⟨a, s⟩, hr, hrel⟩ := hL g hg l toks out _ h1 h4 hx
    exact ⟨a, s, hr, .inl (stay_of hrel rfl)⟩
  · obtain ⟨r, hr, hrel⟩ := hL g hg l toks out _ h1 h4 hx
    obtain rfl := live_of (res := res) hrel
    exact ⟨a, _, hr, .inr ⟨t, o, rfl, hk⟩⟩
theorem args_step {z : Int} {F : Nat} (hL : LevR z F) {g : Nat} (hg : g ≤ F) {op : Int} {i : Nat} (hi : (i : Int) < operands op) {kids : List Int} {toks : List Tok} {out : List Nod} {res : PR} (h : parF z g (jArgs op i kids toks out) = some res) :
    ∃ a s, refF z F 0 1 0 (mustS z (live toks out) (if i = 0 then lpar else comma)) = some (a, s) ∧ (Stay s res ∨ ∃ t o g', g' ≤ F ∧ s = live t o ∧ parF z g' (jArgs op (i + 1) (kids ++ [a]) t o) = some res) := by
  cases g with
  | zero => cases h
  | succ g =>
    rw [parF_argsR, if_pos hi] at h
    cases hs : seesL toks 0 (if i = 0 then lpar else comma) with
    | false =>
      rw [hs, if_neg (by decide)] at h
      injection h with h
      rw [must_noS z toks out hs]
      have hd := fail_err z toks out 5 (by decide)
      refine ⟨0, _, refF_dead z F 0 1 0 _ hd, .inl ⟨hd, ?_⟩⟩
      have := fail_rel z toks out 5 0 (by decide)
      rw [h] at this
      cases res with
      | ok x => cases toks <;> cases h
      | error x => obtain ⟨e1, e2, _⟩ := this; dsimp only at e1 e2; rw [e1, e2]
    | true =>
      rw [hs, if_pos rfl] at h
      rw [must_yesS z toks out hs]
      obtain ⟨a, s, hr, hh⟩ := rlevel_step hL (by omega : g ≤ F) (Nat.le_refl 1) (by omega) h
      refine ⟨a, s, hr, hh.imp id ?_⟩
      rintro ⟨t, o, h1, h2⟩
      exact ⟨t, o, g, by omega, h1, h2⟩
theorem rargs_end {z : Int} {g : Nat} {op : Int} {i : Nat} (hi : ¬ (i : Int) < operands op) {kids : List Int} {toks : List Tok} {out : List Nod} {res : PR} (h : parF z g (jArgs op i kids toks out) = some res) :
    RelP res (putS (mustS z (live toks out) rpar) ⟨op, 0, ByteArray.empty, kids⟩) := by
  cases g with
  | zero => cases h
  | succ g =>
    rw [parF_argsR, if_neg hi] at h
    cases hs : seesL toks 0 rpar with
    | false =>
      rw [hs, if_neg (by decide)] at h
      injection h with h
      rw [must_noS z toks out hs, ← h]
      cases toks with
      | nil => exact ⟨rfl, rfl, by show (6 : Int) ≠ 0; decide⟩
      | cons k r => exact ⟨rfl, rfl, by show (5 : Int) ≠ 0; decide⟩
    | true =>
      rw [hs, if_pos rfl] at h
      injection h with h
      rw [must_yesS z toks out hs, ← h]
      exact rfl
theorem args_dead {z : Int} {F : Nat} {s : PSt} {res : PR} (h : Stay s res) (t : ByteArray) : mustS z s t = s ∧ refF z F 0 1 0 s = some (0, s) := ⟨must_dead h.1 z t, refF_dead z F 0 1 0 s h.1⟩
theorem func_ops {t : ByteArray} (h : funcOp t ≠ 0) : (funcOp t = 9 ∧ operands (funcOp t) = 3) ∨ (funcOp t ≠ 9 ∧ operands (funcOp t) = 2) := by
  unfold funcOp at h ⊢
  repeat' split
  all_goals first | (left; decide) | (right; decide) | (exfalso; simp_all)
/-- A function's operands. -/
theorem fun_rel {z : Int} {F : Nat} (hL : LevR z F) {g : Nat} (hg : g ≤ F) {op : Int} (ho : (op = 9 ∧ operands op = 3) ∨ (op ≠ 9 ∧ operands op = 2)) {toks : List Tok} {out : List Nod} {res : PR} (h : parF z g (jArgs op 0 [] toks out) = some res) :
    ∃ r, (thenS (refF z F 0 1 0 (mustS z (live toks out) lpar)) fun x t1 => thenS (refF z F 0 1 0 (mustS z t1 comma)) fun y t2 =>
            if op = 9 then thenS (refF z F 0 1 0 (mustS z t2 comma)) fun v t3 => some (putS (mustS z t3 rpar) ⟨9, 0, ByteArray.empty, [x, y, v]⟩)
            else some (putS (mustS z t2 rpar) ⟨op, 0, ByteArray.empty, [x, y]⟩)) = some r ∧ RelP res r := by
  have hdead : ∀ (s : PSt) (x y : Int), Stay s res → ∃ r, (if op = 9 then thenS (refF z F 0 1 0 (mustS z s comma)) fun v t3 => some (putS (mustS z t3 rpar) ⟨9, 0, ByteArray.empty, [x, y, v]⟩)
            else some (putS (mustS z s rpar) ⟨op, 0, ByteArray.empty, [x, y]⟩)) = some r ∧ RelP res r := by
    intro s x y hs
    by_cases h9 : op = 9
    · rw [if_pos h9, (args_dead (F := F) hs comma).1, (args_dead (F := F) hs comma).2]
      refine ⟨_, rfl, ?_⟩
      rw [(args_dead (F := F) hs rpar).1]
      exact stay_rel (stay_add hs _) _
    · rw [if_neg h9]
      refine ⟨_, rfl, ?_⟩
      rw [(args_dead (F := F) hs rpar).1]
      exact stay_rel (stay_add hs _) _
  have h2 : (2 : Int) ≤ operands op := by rcases ho with ⟨_, h⟩ | ⟨_, h⟩ <;> omega
  obtain ⟨x, s1, e1, h1⟩ := args_step hL hg (i := 0) (by show (0 : Int) < operands op; omega) h
  have e1' : refF z F 0 1 0 (mustS z (live toks out) lpar) = some (x, s1) := e1
  rw [e1']
  show ∃ r, (thenS (refF z F 0 1 0 (mustS z s1 comma)) fun y t2 =>
            if op = 9 then thenS (refF z F 0 1 0 (mustS z t2 comma)) fun v t3 => some (putS (mustS z t3 rpar) ⟨9, 0, ByteArray.empty, [x, y, v]⟩)
            else some (putS (mustS z t2 rpar) ⟨op, 0, ByteArray.empty, [x, y]⟩)) = some r ∧ RelP res r
  rcases h1 with h1 | ⟨t, o, g1, hg1, rfl, h1⟩
  · rw [(args_dead (F := F) h1 comma).1, (args_dead (F := F) h1 comma).2]
    exact hdead s1 x 0 h1
  · obtain ⟨y, s2, e2, h3⟩ := args_step hL hg1 (i := 1) (by show (1 : Int) < operands op; omega) h1
    have e2' : refF z F 0 1 0 (mustS z (live t o) comma) = some (y, s2) := e2
    rw [e2']
    show ∃ r, (if op = 9 then thenS (refF z F 0 1 0 (mustS z s2 comma)) fun v t3 => some (putS (mustS z t3 rpar) ⟨9, 0, ByteArray.empty, [x, y, v]⟩)
            else some (putS (mustS z s2 rpar) ⟨op, 0, ByteArray.empty, [x, y]⟩)) = some r ∧ RelP res r
    rcases h3 with h3 | ⟨t2, o2, g2, hg2, rfl, h3⟩
    · exact hdead s2 x y h3
    · rcases ho with ⟨rfl, ho⟩ | ⟨h9, ho⟩
      · rw [if_pos rfl]
        obtain ⟨v, s3, e3, h4⟩ := args_step hL hg2 (i := 2) (by rw [ho]; decide) h3
        have e3' : refF z F 0 1 0 (mustS z (live t2 o2) comma) = some (v, s3) := e3
        rw [e3']
        refine ⟨_, rfl, ?_⟩
        rcases h4 with h4 | ⟨t3, o3, g3, hg3, rfl, h4⟩
        · rw [(args_dead (F := F) h4 rpar).1]
          exact stay_rel (stay_add h4 _) _
        · exact rargs_end (by rw [ho]; decide) h4
      · rw [if_neg h9]
        exact ⟨_, rfl, rargs_end (by rw [ho]; decide) h3⟩

theorem refF_level {z : Int} {F l : Nat} (toks : List Tok) (out : List Nod) (hl : l ≠ 4) : refF z (F + 1) 0 l 0 (live toks out) = thenS (refF z F 0 (l + 1) 0 (live toks out)) fun a t => refF z F 1 l a t := by
  show (if (0 : Int) ≠ 0 then _ else if (0 : Nat) = 0 then (if l = 4 then _ else _) else _) = _
  rw [if_neg (by decide), if_pos rfl, if_neg hl]
theorem refF_four {z : Int} {F : Nat} (toks : List Tok) (out : List Nod) : refF z (F + 1) 0 4 0 (live toks out) =
    if seesL toks 0 minus = false then refF z F 2 0 0 (live toks out) else thenS (refF z F 0 4 0 (live toks.tail out)) fun a t => some (putS t ⟨12, 0, ByteArray.empty, [a]⟩) := by
  show (if (0 : Int) ≠ 0 then _ else if (0 : Nat) = 0 then (if (4 : Nat) = 4 then _ else _) else _) = _
  rw [if_neg (by decide), if_pos rfl, if_pos rfl]
  rfl
theorem refF_loop {z : Int} {F l : Nat} (a : Int) (toks : List Tok) (out : List Nod) : refF z (F + 1) 1 l a (live toks out) =
    if opS l (live toks out) = 0 then some (a, live toks out)
       else thenS (refF z F 0 (l + 1) 0 (live toks.tail out)) fun b t =>
         if l = 1 then some (putS t ⟨opS l (live toks out), 0, ByteArray.empty, [a, b]⟩) else refF z F 1 l t.out.length (addS t ⟨opS l (live toks out), 0, ByteArray.empty, [a, b]⟩) := by
  show (if (0 : Int) ≠ 0 then _ else if (1 : Nat) = 0 then _ else if (1 : Nat) = 1 then _ else _) = _
  rw [if_neg (by decide), if_neg (by decide), if_pos rfl]
  rfl
theorem refF_prim {z : Int} {F : Nat} (toks : List Tok) (out : List Nod) : refF z (F + 1) 2 0 0 (live toks out) =
    if seesL toks 0 lpar = true then thenS (refF z F 0 1 0 (live toks.tail out)) fun a t => some (a, mustS z t rpar)
       else match toks with
        | [] => some (0, failS z (live toks out) 5)
        | k :: rest =>
          if k.kind ≠ 2 ∧ k.kind ≠ 1 then some (0, failS z (live toks out) 5)
          else if k.kind = 2 then (if 1000000 < k.n then some (0, failS z (live toks out) 9) else some (putS (live rest out) ⟨1, k.n, ByteArray.empty, []⟩))
          else if funcOp k.text = 0 then (if seesL toks 1 lpar = true then some (0, failS z (live toks out) 7) else some (putS (live rest out) ⟨2, 0, k.text, []⟩))
          else thenS (refF z F 0 1 0 (mustS z (live rest out) lpar)) fun x t1 => thenS (refF z F 0 1 0 (mustS z t1 comma)) fun y t2 =>
            if funcOp k.text = 9 then thenS (refF z F 0 1 0 (mustS z t2 comma)) fun v t3 => some (putS (mustS z t3 rpar) ⟨9, 0, ByteArray.empty, [x, y, v]⟩)
            else some (putS (mustS z t2 rpar) ⟨funcOp k.text, 0, ByteArray.empty, [x, y]⟩) := by
  show (if (0 : Int) ≠ 0 then _ else if (2 : Nat) = 0 then _ else if (2 : Nat) = 1 then _ else _) = _
  rw [if_neg (by decide), if_neg (by decide), if_neg (by decide)]
  all_goals (cases toks <;> rfl)
theorem parF_levelR {z : Int} {f l : Nat} (toks : List Tok) (out : List Nod) (hl : l ≠ 4) : parF z (f + 1) (jLevel l toks out) = andL (parF z f (jLevel (l + 1) toks out)) fun a t o => parF z f (jLoop l a t o) := by
  show (if (0 : Nat) = 0 then (if l = 4 then _ else _) else _) = _
  rw [if_pos rfl, if_neg hl]
  rfl
theorem parF_four {z : Int} {f : Nat} (toks : List Tok) (out : List Nod) : parF z (f + 1) (jLevel 4 toks out) =
    if seesL toks 0 minus = false then parF z f (jPrimary toks out) else andL (parF z f (jLevel 4 toks.tail out)) fun a t o => some (putL t o ⟨12, 0, ByteArray.empty, [a]⟩) := by
  show (if (0 : Nat) = 0 then (if (4 : Nat) = 4 then _ else _) else _) = _
  rw [if_pos rfl, if_pos rfl]
  rfl
theorem parF_loopR (z : Int) (g l : Nat) (x : Int) (k : Tok) (rest : List Tok) (o : List Nod) : parF z (g + 1) (jLoop l x (k :: rest) o) =
    if k.kind ≠ 4 then some (PR.ok x (k :: rest) o)
    else if infixOp k.text = 0 ∨ strength (infixOp k.text) ≠ l then some (PR.ok x (k :: rest) o)
    else andL (parF z g (jLevel (l + 1) rest o)) fun b t o =>
      if l = 1 then some (putL t o ⟨infixOp k.text, 0, ByteArray.empty, [x, b]⟩) else parF z g (jLoop l o.length t (o ++ [⟨infixOp k.text, 0, ByteArray.empty, [x, b]⟩])) := rfl
theorem parF_primR (z : Int) (g : Nat) (toks : List Tok) (out : List Nod) : parF z (g + 1) (jPrimary toks out) =
    if seesL toks 0 lpar = true then
        andL (parF z g (jLevel 1 toks.tail out)) fun a t o => if seesL t 0 rpar = true then some (PR.ok a t.tail o) else some (failL z t 5)
       else match toks with
        | [] => some (failL z [] 5)
        | k :: rest =>
          if k.kind ≠ 2 ∧ k.kind ≠ 1 then some (failL z (k :: rest) 5)
          else if k.kind = 2 ∧ 1000000 < k.n then some (failL z (k :: rest) 9)
          else if k.kind = 2 then some (putL rest out ⟨1, k.n, ByteArray.empty, []⟩)
          else if funcOp k.text = 0 ∧ seesL (k :: rest) 1 lpar = true then some (failL z (k :: rest) 7)
          else if funcOp k.text = 0 then some (putL rest out ⟨2, 0, k.text, []⟩)
          else parF z g (jArgs (funcOp k.text) 0 [] rest out) := by
  cases toks <;> rfl

/-- The loops and primary in plain words, as far as the fuel F. -/
def LoopR (z : Int) (F : Nat) : Prop := ∀ (f : Nat), f ≤ F → ∀ (l : Nat) (a : Int) (toks : List Tok) (out : List Nod) (res : PR), l = 1 ∨ l = 2 ∨ l = 3 → parF z f (jLoop l a toks out) = some res → ∃ r, refF z F 1 l a (live toks out) = some r ∧ RelP res r
def PrimR (z : Int) (F : Nat) : Prop := ∀ (f : Nat), f ≤ F → ∀ (toks : List Tok) (out : List Nod) (res : PR), parF z f (jPrimary toks out) = some res → ∃ r, refF z F 2 0 0 (live toks out) = some r ∧ RelP res r
theorem prim_rel {z : Int} {F : Nat} (hL : LevR z F) : PrimR z (F + 1) := by
  intro f hf toks out res h
  cases f with
  | zero => cases h
  | succ f =>
    rw [parF_primR] at h
    rw [refF_prim]
    cases hs : seesL toks 0 lpar with
    | true =>
      rw [hs, if_pos rfl] at h
      rw [if_pos rfl]
      obtain ⟨a, s, hr, hh⟩ := rlevel_step hL (by omega : f ≤ F) (Nat.le_refl 1) (by omega) h
      rw [hr]
      refine ⟨_, rfl, ?_⟩
      rcases hh with hh | ⟨t, o, rfl, hh⟩
      · rw [must_dead hh.1]; exact stay_rel hh a
      · cases hs2 : seesL t 0 rpar with
        | true =>
          rw [hs2, if_pos rfl] at hh
          injection hh with hh
          rw [must_yesS z t o hs2, ← hh]
          exact rfl
        | false =>
          rw [hs2, if_neg (by decide)] at hh
          injection hh with hh
          rw [must_noS z t o hs2, ← hh]
          exact fail_rel z t o 5 a (by decide)
    | false =>
      rw [hs, if_neg (by decide)] at h
      rw [if_neg (by decide)]
      cases toks with
      | nil =>
        injection h with h
        exact ⟨_, rfl, by rw [← h]; exact fail_rel z [] out 5 0 (by decide)⟩
      | cons k rest =>
        dsimp only at h ⊢
        by_cases hk : k.kind ≠ 2 ∧ k.kind ≠ 1
        · rw [if_pos hk] at h ⊢
          injection h with h
          exact ⟨_, rfl, by rw [← h]; exact fail_rel z _ out 5 0 (by decide)⟩
        · rw [if_neg hk] at h ⊢
          by_cases hk2 : k.kind = 2
          · rw [if_pos hk2]
            by_cases hn : 1000000 < k.n
            · rw [if_pos ⟨hk2, hn⟩] at h
              rw [if_pos hn]
              injection h with h
              exact ⟨_, rfl, by rw [← h]; exact fail_rel z _ out 9 0 (by decide)⟩
            · rw [if_neg (fun hh => hn hh.2), if_pos hk2] at h
              rw [if_neg hn]
              injection h with h
              exact ⟨_, rfl, by rw [← h]; exact rfl⟩
          · rw [if_neg (fun hh => hk2 hh.1), if_neg hk2] at h
            rw [if_neg hk2]
            by_cases hf0 : funcOp k.text = 0
            · rw [if_pos hf0]
              cases hp : seesL (k :: rest) 1 lpar with
              | true =>
                rw [if_pos ⟨hf0, hp⟩] at h
                rw [if_pos rfl]
                injection h with h
                exact ⟨_, rfl, by rw [← h]; exact fail_rel z _ out 7 0 (by decide)⟩
              | false =>
                rw [if_neg (fun hh => by rw [hp] at hh; cases hh.2), if_pos hf0] at h
                rw [if_neg (by decide)]
                injection h with h
                exact ⟨_, rfl, by rw [← h]; exact rfl⟩
            · rw [if_neg (fun hh => hf0 hh.1), if_neg hf0] at h
              rw [if_neg hf0]
              exact fun_rel hL (by omega : f ≤ F) (func_ops hf0) h
theorem loop_rel {z : Int} {F : Nat} (hL : LevR z F) (hO : LoopR z F) : LoopR z (F + 1) := by
  intro f hf l a toks out res hl h
  cases f with
  | zero => cases h
  | succ f =>
    rw [refF_loop]
    cases toks with
    | nil =>
      rw [op_nil, if_pos rfl]
      have h' : some (PR.ok a [] out) = some res := h
      injection h' with h'
      exact ⟨_, rfl, by rw [← h']; exact rfl⟩
    | cons k rest =>
      rw [parF_loopR] at h
      by_cases hk : k.kind = 4
      · rw [if_neg (fun hh => hh hk)] at h
        by_cases ho : infixOp k.text = 0 ∨ strength (infixOp k.text) ≠ l
        · rw [if_pos ho] at h
          injection h with h
          have h0 : opS l (live (k :: rest) out) = 0 := by
            rw [op_is l hl]
            rw [if_neg (fun hh => by rcases ho with ho | ho; exact hh.2.1 ho; exact ho hh.2.2)]
          rw [if_pos h0]
          exact ⟨_, rfl, by rw [← h]; exact rfl⟩
        · rw [if_neg ho] at h
          have h0 : opS l (live (k :: rest) out) = infixOp k.text := by
            rw [op_is l hl]
            rw [if_pos ⟨hk, fun e => ho (.inl e), Decidable.byContradiction (fun e => ho (.inr e))⟩]
          rw [h0, if_neg (fun e => ho (.inl e))]
          obtain ⟨b, s, hr, hh⟩ := rlevel_step hL (by omega : f ≤ F) (by omega) (by omega) h
          have hr' : refF z F 0 (l + 1) 0 (live (k :: rest).tail out) = some (b, s) := hr
          rw [hr']
          show ∃ r, (if l = 1 then some (putS s _) else refF z F 1 l s.out.length (addS s _)) = some r ∧ _
          rcases hh with hh | ⟨t, o, rfl, hh⟩
          · by_cases hl1 : l = 1
            · rw [if_pos hl1]
              exact ⟨_, rfl, stay_rel (stay_add hh _) _⟩
            · rw [if_neg hl1]
              exact ⟨_, refF_dead z F 1 l _ _ (stay_add hh _).1, stay_rel (stay_add hh _) _⟩
          · by_cases hl1 : l = 1
            · rw [if_pos hl1] at hh ⊢
              injection hh with hh
              exact ⟨_, rfl, by rw [← hh]; exact rfl⟩
            · rw [if_neg hl1] at hh ⊢
              exact hO f (by omega) l o.length t _ res hl hh
      · rw [if_pos hk] at h
        injection h with h
        have h0 : opS l (live (k :: rest) out) = 0 := by
          rw [op_is l hl]
          rw [if_neg (fun hh => hk hh.1)]
        rw [if_pos h0]
        exact ⟨_, rfl, by rw [← h]; exact rfl⟩
theorem level_rel {z : Int} {F : Nat} (hL : LevR z F) (hO : LoopR z F) (hP : PrimR z F) : LevR z (F + 1) := by
  intro f hf l toks out res h1 h4 h
  cases f with
  | zero => cases h
  | succ f =>
    by_cases hl : l = 4
    · subst hl
      rw [parF_four] at h
      rw [refF_four]
      cases hs : seesL toks 0 minus with
      | false =>
        rw [hs, if_pos rfl] at h
        rw [if_pos rfl]
        exact hP f (by omega) toks out res h
      | true =>
        rw [hs, if_neg (by decide)] at h
        rw [if_neg (by decide)]
        obtain ⟨a, s, hr, hh⟩ := rlevel_step hL (by omega : f ≤ F) (by omega) (Nat.le_refl 4) h
        rw [hr]
        refine ⟨_, rfl, ?_⟩
        rcases hh with hh | ⟨t, o, rfl, hh⟩
        · exact stay_rel (stay_add hh _) _
        · injection hh with hh
          rw [← hh]; exact rfl
    · rw [parF_levelR toks out hl] at h
      rw [refF_level toks out hl]
      obtain ⟨a, s, hr, hh⟩ := rlevel_step hL (by omega : f ≤ F) (by omega) (by omega) h
      rw [hr]
      show ∃ r, refF z F 1 l a s = some r ∧ _
      rcases hh with hh | ⟨t, o, rfl, hh⟩
      · exact ⟨_, refF_dead z F 1 l a s hh.1, stay_rel hh _⟩
      · exact hO f (by omega) l a t o res (by omega) hh
theorem all_rel (z : Int) : ∀ (F : Nat), LevR z F ∧ LoopR z F ∧ PrimR z F
  | 0 => by
    refine ⟨fun f hf l toks out res _ _ h => ?_, fun f hf l a toks out res _ h => ?_, fun f hf toks out res h => ?_⟩
    all_goals
      obtain rfl : f = 0 := Nat.le_zero.1 hf
      cases h
  | F + 1 => by
    obtain ⟨h1, h2, h3⟩ := all_rel z F
    exact ⟨level_rel h1 h2 h3, loop_rel h1 h2, prim_rel h1⟩
/-- The reference parser agrees with the parser. -/
theorem ref_par {z : Int} {f : Nat} {toks : List Tok} {res : PR} (h : parF z f (jLevel 1 toks []) = some res) : ∃ r, refF z f 0 1 0 (live toks []) = some r ∧ RelP res r :=
  (all_rel z f).1 f (Nat.le_refl f) 1 toks [] res (Nat.le_refl 1) (by omega) h
end Go.Proofs.YtkomgidcgepknaaGreatDoor

set_option linter.unusedVariables false
set_option linter.unusedSimpArgs false
namespace Go.Proofs.YtkomgidcgepknaaGreatDoor
open Go.RowKit Go.Deep Go.Maps

/-- The reference parser at q. -/
structure RAt (w : World) (q : Nat) (z : Int) (N : Nat) (s : PSt) (r : Fp) : Prop where
  ex : ∃ A c A2 c2, Blk w q 115 #[.slice A s.toks.length c, .int .i64 z, .int .i64 s.err, .int .i64 s.off, .slice A2 s.out.length c2] ∧ Reads w q 4 A s.toks.length (cellsT s.toks) ∧ s.toks.length ≤ c ∧ NodsOwn w (q + 1) A2 c2 s.out r.kid ∧ (Value.slice A2 s.out.length c2).ownBlock = r.row
  sum : s.out.length + s.toks.length ≤ N
  txt : ∀ t ∈ s.toks, t.text.size ≤ maxLen
  nam : ∀ x ∈ s.out, x.name.size ≤ maxLen
  kidlt : ∀ g, r.kid g → g < w.heap.size
section
variable {w w' w'' : World} {q : Nat} {z : Int} {N : Nat} {s : PSt} {r r' r'' : Fp}
theorem RAt.lt (h : RAt w q z N s r) : q < w.heap.size := by
  obtain ⟨A, c, A2, c2, hb, _⟩ := h.ex
  exact hb.lt
theorem RAt.rowlt (h : RAt w q z N s r) : ∀ g, r.row = some g → q < g ∧ g < w.heap.size := by
  obtain ⟨A, c, A2, c2, hb, h1, h2, ⟨ks, h3, h4, h5⟩, h6⟩ := h.ex
  intro g hg
  rw [hg] at h6
  exact World.ownsRow.lt h4 g h6
theorem ParGo.rbelow (h : ParGo q r r' w w') (hp : RAt w q z N s r) : Below q w w' := h.below (Nat.le_of_lt hp.lt) (fun g hg => Nat.le_of_lt (hp.rowlt g hg).1)
theorem RAt.below (h : RAt w q z N s r) (hb : Below w.heap.size w w') : RAt w' q z N s r := by
  have hlt := h.lt
  obtain ⟨A, c, A2, c2, h0, h1, h2, h3, h4⟩ := h.ex
  exact ⟨⟨A, c, A2, c2, h0.below hb h0.lt, h1.below (hb.mono (Nat.le_of_lt hlt)), h2, h3.below hb, h4⟩, h.sum, h.txt, h.nam, fun g hg => Nat.lt_of_lt_of_le (h.kidlt g hg) hb.size⟩
theorem RAt.drew (h : RAt w q z N s r) : RAt w.drew q z N s r := h.below (Below.drew (Below.refl _ _))
theorem RAt.le (h : RAt w q z N s r) {M : Nat} (hM : N ≤ M) : RAt w q z M s r := ⟨h.ex, Nat.le_trans h.sum hM, h.txt, h.nam, h.kidlt⟩
theorem RAt.less (h : RAt w q z N s r) {M : Nat} (hM : s.out.length + s.toks.length ≤ M) : RAt w q z M s r := ⟨h.ex, hM, h.txt, h.nam, h.kidlt⟩
theorem RAt.keepX (h : RAt w q z N s r) (hz : w.heap.size ≤ w'.heap.size)
    (hk : ∀ k, k < w.heap.size → (k ≤ q ∨ r.row = some k ∨ r.kid k) → w'.heap[k]? = w.heap[k]?) : RAt w' q z N s r := by
  have hlt := h.lt
  have hrow := h.rowlt
  obtain ⟨A, c, A2, c2, h0, h1, h2, h3, h4⟩ := h.ex
  refine ⟨⟨A, c, A2, c2, (hk q hlt (.inl (Nat.le_refl _))).trans h0, h1.keep (fun p hp => World.cell?_of_block (hk p.block (by omega) (.inl (Nat.le_of_lt hp)))), h2, h3.keepC (fun g hg hr => ?_), h4⟩, h.sum, h.txt, h.nam, fun g hg => Nat.lt_of_lt_of_le (h.kidlt g hg) hz⟩
  rcases hr with hr | hr
  · rw [h4] at hr
    exact hk g (hrow g hr).2 (.inr (.inl hr))
  · exact hk g (h.kidlt g hr) (.inr (.inr hr))
theorem RAt.ne_int (h : RAt w q z N s r) {base : Nat} {A : Option Addr} {n c : Nat} {xs : List Value} (ho : Own w base 3 1 A n c xs) {g : Nat}
    (hg : (Value.slice A n c).ownBlock = some g) (hr : r.row = some g) : False := by
  obtain ⟨A1, c1, A2, c2, h0, h1, h2, ⟨ks, h3, h4, h5⟩, h6⟩ := h.ex
  exact ho.ne_own h4 (by decide) hg (h6.trans hr)
/-- One field of the parser's block is set. -/
theorem rset_go (h : RAt w q z N s r) (i : Nat) (v : Value) : ParGo q r r w (w.setCell ⟨q, i, none⟩ v) :=
  ⟨rfl, rfl, rfl, by simp, fun k _ hk _ => Below.heap_setCell w ⟨q, i, none⟩ _ k hk, .inl rfl, fun _ h => .inl h⟩
theorem RAt.setErr (h : RAt w q z N s r) (e : Int) : RAt (w.setCell ⟨q, 2, none⟩ (.int .i64 e)) q z N ⟨e, s.off, s.toks, s.out⟩ r := by
  have hbel := (rset_go h 2 (.int .i64 e)).rbelow h
  obtain ⟨A, c, A2, c2, h0, h1, h2, h3, h4⟩ := h.ex
  exact ⟨⟨A, c, A2, c2, Blk.set_ h0 2 _, h1.below hbel, h2, h3.keepC (fun g hg _ => Below.heap_setCell w ⟨q, 2, none⟩ _ g (by show g ≠ q; omega)), h4⟩, h.sum, h.txt, h.nam, fun g hg => by have := h.kidlt g hg; simpa using this⟩
theorem RAt.setOff (h : RAt w q z N s r) (e : Int) : RAt (w.setCell ⟨q, 3, none⟩ (.int .i64 e)) q z N ⟨s.err, e, s.toks, s.out⟩ r := by
  have hbel := (rset_go h 3 (.int .i64 e)).rbelow h
  obtain ⟨A, c, A2, c2, h0, h1, h2, h3, h4⟩ := h.ex
  exact ⟨⟨A, c, A2, c2, Blk.set_ h0 3 _, h1.below hbel, h2, h3.keepC (fun g hg _ => Below.heap_setCell w ⟨q, 3, none⟩ _ g (by show g ≠ q; omega)), h4⟩, h.sum, h.txt, h.nam, fun g hg => by have := h.kidlt g hg; simpa using this⟩
theorem RAt.setTail (h : RAt w q z (N + 1) s r) {k : Tok} {rest : List Tok} (ht : s.toks = k :: rest) {A' : Option Addr} {c' : Nat} (hr : Reads w q 4 A' rest.length (cellsT rest)) (hc : rest.length ≤ c') :
    RAt (w.setCell ⟨q, 0, none⟩ (.slice A' rest.length c')) q z N (tailS s) r := by
  have hsum := h.sum
  have hbel := (rset_go h 0 (.slice A' rest.length c')).rbelow h
  obtain ⟨A, c, A2, c2, h0, h1, h2, h3, h4⟩ := h.ex
  have e : (tailS s).toks = rest := by show s.toks.tail = rest; rw [ht]; rfl
  refine ⟨⟨A', c', A2, c2, ?_, ?_, by rw [e]; exact hc, h3.keepC (fun g hg _ => Below.heap_setCell w ⟨q, 0, none⟩ _ g (by show g ≠ q; omega)), h4⟩, ?_, fun t hm => ?_, h.nam, fun g hg => by have := h.kidlt g hg; simpa using this⟩
  · rw [e]
    exact Blk.set_ h0 0 _
  · rw [e]
    exact hr.below hbel
  · rw [e]
    rw [ht] at hsum
    show s.out.length + rest.length ≤ N
    simp at hsum; omega
  · rw [e] at hm
    exact h.txt t (by rw [ht]; exact List.mem_cons_of_mem _ hm)
/-- 'p.l = p.l[1:]': the new slice is one of two. -/
theorem RAt.head0 (h : RAt w q z (N + 1) s r) {k : Tok} {rest : List Tok} (ht : s.toks = k :: rest) :
    ∃ b off c, w.cell? ⟨q, 0, none⟩ = some (.slice (some ⟨b, off, none⟩) (k :: rest).length c) ∧ w.frozen? ⟨q, 0, none⟩ = false ∧ rest.length + 1 ≤ c ∧
      ((c = 1 ∧ rest = [] ∧ RAt (w.setCell ⟨q, 0, none⟩ (.slice (some ⟨b, off, none⟩) 0 0)) q z N (tailS s) r) ∨
       (c ≠ 1 ∧ RAt (w.setCell ⟨q, 0, none⟩ (.slice (some ⟨b, off + 4, none⟩) rest.length (c - 1))) q z N (tailS s) r)) := by
  have H := h
  obtain ⟨A, c, A2, c2, h0, h1, h2, h3, h4⟩ := h.ex
  have c0 := h0.cell 0
  have f0 := h0.frozen 0
  rw [ht] at h1 h2 c0
  change w.cell? ⟨q, 0, none⟩ = some (.slice A (k :: rest).length c) at c0
  obtain ⟨b, off, rfl, hb, g0, g1, g2, g3⟩ := h1.tok (i := 0) (t := k) rfl
  have hx1 : (rest.length + 1 : Nat) ≤ c := by simpa using h2
  refine ⟨b, off, c, c0, f0, hx1, ?_⟩
  by_cases hc1 : c = 1
  · have h0' : rest.length = 0 := by omega
    obtain rfl : rest = [] := List.eq_nil_of_length_eq_zero h0'
    exact .inl ⟨hc1, rfl, H.setTail ht (A' := some ⟨b, off, none⟩) (c' := 0) ⟨rfl, fun h => absurd h (Nat.lt_irrefl _)⟩ (Nat.le_refl _)⟩
  · have hr : Reads w q 4 (some ⟨b, off + 4, none⟩) rest.length (cellsT rest) := by
      have := h1.cut (k := 1) (cap := c) (by simp) h2
      rw [if_neg hc1] at this
      exact this
    exact .inr ⟨hc1, H.setTail ht hr (by omega)⟩
end
theorem tail_cons {s : PSt} {t : ByteArray} (h : seesS s t = true) : s.err = 0 ∧ seesL s.toks 0 t = true ∧ ∃ k rest, s.toks = k :: rest := by
  unfold seesS at h
  rw [Bool.and_eq_true] at h
  obtain ⟨k, hk⟩ := seesL_cons h.2
  exact ⟨of_decide_eq_true h.1, h.2, k, _, hk⟩

set_option maxHeartbeats 1000000 in
set_option maxRecDepth 20000 in
theorem rsees_any {w : World} {q : Nat} {z : Int} {N : Nat} {s : PSt} {r : Fp} (h : RAt w q z N s r) (hN : N ≤ 100000) (t : ByteArray) :
    Calls Tryz.prog 126 #[.pointer (some ⟨q, 0, none⟩), .string t] w fun e w' => e = .returned (.bool (seesS s t)) ∧ w = w' := by
  have hsum := h.sum
  obtain ⟨err, off, toks, out⟩ := s
  obtain ⟨A, c, A2, c2, h0, h1, h2, h3, h4⟩ := h.ex
  dsimp only at h0 h1 h2 h3 h4 hsum
  have c0 := h0.cell 0
  have c2 := h0.cell 2
  change w.cell? ⟨q, 0, none⟩ = some (.slice A toks.length c) at c0
  change w.cell? ⟨q, 2, none⟩ = some (.int .i64 err) at c2
  clear h0 h3 h4 h
  by_cases he : err = 0
  · subst he
    cases toks with
    | nil =>
      have HS : Hid (seesS ⟨0, off, [], out⟩ t = false) := hide rfl
      clear h1 h2
      go_enter Tryz.func126, Tryz.ntmps126
      go_wp2
      go_ret
      exact ⟨by rw [HS.out]; rfl, rfl⟩
    | cons k rest =>
      obtain ⟨b, of2, rfl, hb, g0, g1, g2, g3⟩ := h1.tok (i := 0) (t := k) rfl
      rw [Nat.zero_mul, Nat.add_zero] at g0 g1 g2 g3
      have hl : (((k :: rest).length : Nat) : Int) = (rest.length : Int) + 1 := by simp
      have h01 : (0 : Int) < (rest.length : Int) + 1 := by omega
      have HS : Hid (seesS ⟨0, off, k :: rest, out⟩ t = (k.kind == 4 && decide (k.text = t))) := hide rfl
      clear h1 h2
      by_cases hk : k.kind = 4
      · rw [hk] at g0 HS
        by_cases ht : k.text = t
        · rw [decide_eq_true ht] at HS
          rw [ht] at g1
          clear ht hk
          go_enter Tryz.func126, Tryz.ntmps126
          go_wp2
          go_ret
          exact ⟨by rw [HS.out]; rfl, rfl⟩
        · rw [decide_eq_false ht] at HS
          have ht' := bytes_ne ht
          clear ht hk
          go_enter Tryz.func126, Tryz.ntmps126
          go_wp2
          go_ret
          exact ⟨by rw [HS.out]; rfl, rfl⟩
      · have hk' : (k.kind == 4) = false := beq_eq_false_iff_ne.2 hk
        rw [hk', Bool.false_and] at HS
        clear hk
        go_enter Tryz.func126, Tryz.ntmps126
        go_wp2
        go_ret
        exact ⟨by rw [HS.out]; rfl, rfl⟩
  · have HS : Hid (seesS ⟨err, off, toks, out⟩ t = false) := hide (sees_dead he t)
    have he' : (err == 0) = false := beq_eq_false_iff_ne.2 he
    clear he h1 h2
    go_enter Tryz.func126, Tryz.ntmps126
    go_wp2
    go_ret
    exact ⟨by rw [HS.out]; rfl, rfl⟩

set_option maxHeartbeats 1000000 in
theorem rfail_any {w : World} {q : Nat} {z : Int} {N : Nat} {s : PSt} {r : Fp} (h : RAt w q z N s r) (hN : N ≤ 100000) (er : Int) :
    Calls Tryz.prog 70 #[.pointer (some ⟨q, 0, none⟩), .int .i64 er] w fun e w' => e = .returned (.tuple #[]) ∧ RAt w' q z N (failS z s er) r ∧ ParGo q r r w w' := by
  have hsum := h.sum
  have H := hide h
  obtain ⟨err, off, toks, out⟩ := s
  obtain ⟨A, c, A2, c2, h0, h1, h2, h3, h4⟩ := h.ex
  dsimp only at h0 h1 h2 h3 h4 hsum
  have c2 := h0.cell 2
  have f2 := h0.frozen 2
  have c3 := h0.cell 3
  have f3 := h0.frozen 3
  have c1 := h0.cell 1
  change w.cell? ⟨q, 2, none⟩ = some (.int .i64 err) at c2
  change w.cell? ⟨q, 3, none⟩ = some (.int .i64 off) at c3
  change w.cell? ⟨q, 1, none⟩ = some (.int .i64 z) at c1
  have b1 := Blk.set_ h0 2 (.int .i64 er)
  have c20 := b1.cell 0
  change (w.setCell ⟨q, 2, none⟩ (.int .i64 er)).cell? ⟨q, 0, none⟩ = some (.slice A toks.length c) at c20
  have f23 := b1.frozen 3
  by_cases he : err = 0
  · subst he
    have hz : ((0 : Int) != 0) = false := rfl
    cases toks with
    | nil =>
      have f22 := b1.frozen 2
      have b2 := Blk.set_ b1 2 (.int .i64 6)
      have c21 := b2.cell 1
      have f24 := b2.frozen 3
      change ((w.setCell ⟨q, 2, none⟩ (.int .i64 er)).setCell ⟨q, 2, none⟩ (.int .i64 6)).cell? ⟨q, 1, none⟩ = some (.int .i64 z) at c21
      clear h0 h1 h2 h3 h4 h b1 b2
      go_enter Tryz.func70, Tryz.ntmps70
      go_wp2
      first | go_end0 | skip
      refine ⟨rfl, ((H.out.setErr er).setErr 6).setOff z, ((rset_go H.out 2 _).trans (rset_go (H.out.setErr er) 2 _)).trans (rset_go ((H.out.setErr er).setErr 6) 3 _)⟩
    | cons k rest =>
      obtain ⟨b, of2, rfl, hb, g0, g1, g2, g3⟩ := h1.tok (i := 0) (t := k) rfl
      rw [Nat.zero_mul, Nat.add_zero] at g0 g1 g2 g3
      have g3' : (w.setCell ⟨q, 2, none⟩ (.int .i64 er)).cell? ⟨b, of2 + 3, none⟩ = some (.int .i64 k.off) := by
        rw [World.cell?_setCell_other _ _ _ _ (by intro e; injection e; omega)]; exact g3
      have hl : (((k :: rest).length : Nat) : Int) = (rest.length : Int) + 1 := by simp
      have h01 : (0 : Int) < (rest.length : Int) + 1 := by omega
      clear h0 h1 h2 h3 h4 h b1 g0 g1 g2 g3
      go_enter Tryz.func70, Tryz.ntmps70
      go_wp2
      refine bodyPost_ret (v := .tuple #[]) (by simp [results, Tryz.results70]) rfl ?_
      refine ⟨rfl, (H.out.setErr er).setOff k.off, (rset_go H.out 2 _).trans (rset_go (H.out.setErr er) 3 _)⟩
  · have he' : (err != 0) = true := bne_iff_ne.2 he
    have HF : Hid (failS z ⟨err, off, toks, out⟩ er = ⟨err, off, toks, out⟩) := hide (fail_dead he z er)
    clear h0 h1 h2 h3 h4 h b1 c20 f23 he
    go_enter Tryz.func70, Tryz.ntmps70
    go_wp2
    refine bodyPost_ret (v := .tuple #[]) (by simp [results, Tryz.results70]) rfl ?_
    exact ⟨rfl, by rw [HF.out]; exact H.out, ParGo.refl⟩
end Go.Proofs.YtkomgidcgepknaaGreatDoor

set_option linter.unusedVariables false
set_option linter.unusedSimpArgs false
namespace Go.Proofs.YtkomgidcgepknaaGreatDoor
open Go.RowKit Go.Deep Go.Maps

set_option maxHeartbeats 1000000 in
theorem rmust_any {w : World} {q : Nat} {z : Int} {N : Nat} {s : PSt} {r : Fp} (h : RAt w q z N s r) (hN : N < 100000) (t : ByteArray) :
    Calls Tryz.prog 228 #[.pointer (some ⟨q, 0, none⟩), .string t] w fun e w' => e = .returned (.tuple #[]) ∧ RAt w' q z N (mustS z s t) r ∧ ParGo q r r w w' := by
  have H := hide h
  cases hs : seesS s t
  · have HM : Hid (mustS z s t = failS z s 5) := by
      show mustS z s t = _
      unfold mustS; rw [hs, if_neg (by decide)]
    have HS := hide hs
    clear hs
    go_enter Tryz.func228, Tryz.ntmps228
    go_wp2_with fail
    refine (rsees_any H.out (by omega) t).mono ?_
    rintro e w1 ⟨rfl, rfl⟩
    rw [HS.out]
    go_wp2_with fail
    refine (rfail_any H.out (by omega) 5).mono ?_
    rintro e w1 ⟨rfl, h1, h2⟩
    go_wp2
    refine bodyPost_ret (v := .tuple #[]) (by simp [results, Tryz.results228]) rfl ?_
    exact ⟨rfl, by rw [HM.out]; exact h1, h2⟩
  · have HM : Hid (mustS z s t = tailS s) := by
      show mustS z s t = _
      unfold mustS; rw [hs, if_pos rfl]
    obtain ⟨-, -, k, rest, ht⟩ := tail_cons hs
    obtain ⟨b, off, c, c0, f0, hc, hx⟩ := (h.le (Nat.le_succ N)).head0 ht
    have HS := hide hs
    have hl : (((k :: rest).length : Nat) : Int) = (rest.length : Int) + 1 := by simp
    have h01 : (0 : Int) < (rest.length : Int) + 1 := by omega
    clear hs ht
    rcases hx with ⟨rfl, rfl, hx⟩ | ⟨hc1, hx⟩
    all_goals
      have HX := hide hx
      clear hx
      go_enter Tryz.func228, Tryz.ntmps228
      go_wp2_with fail
      refine (rsees_any H.out (by omega) t).mono ?_
      rintro e w1 ⟨rfl, rfl⟩
      rw [HS.out]
      go_wp2
      first | go_end0 | skip
      exact ⟨rfl, by rw [HM.out]; exact HX.out, rset_go H.out 0 _⟩

/-- What put leaves: the new node's operands lie in a block that the caller gave. -/
def RPut (w : World) (q : Nat) (z : Int) (N : Nat) (r : Fp) (s : PSt) (x : Nod) (K : Option Addr) (kc : Nat) (e : Ending) (w' : World) : Prop :=
  e = .returned (.int .i64 (s.out.length : Int)) ∧ ∃ row', RAt w' q z N (addS s x) ⟨row', fun g => r.kid g ∨ (Value.slice K x.kids.length kc).ownBlock = some g⟩ ∧ ParGo q r ⟨row', r.kid⟩ w w'
/-- What a part leaves. -/
def RPost (w : World) (q : Nat) (z : Int) (N : Nat) (r : Fp) (res : Int × PSt) (e : Ending) (w' : World) : Prop :=
  e = .returned (.int .i64 res.1) ∧ ∃ r', RAt w' q z N res.2 r' ∧ ParGo q r r' w w'
theorem RPut.after {w w1 w' : World} {q : Nat} {z : Int} {N M : Nat} {r r1 : Fp} {s : PSt} {x : Nod} {K : Option Addr} {kc : Nat} {e : Ending} (h : RPut w1 q z M r1 s x K kc e w') (hgo : ParGo q r r1 w w1) (hM : M ≤ N)
    (hf : ∀ g, (Value.slice K x.kids.length kc).ownBlock = some g → w.heap.size ≤ g) : RPost w q z N r (putS s x) e w' := by
  obtain ⟨h1, row', h2, h3⟩ := h
  have h4 := hgo.trans h3
  refine ⟨h1, _, h2.le hM, ⟨h4.os, h4.tape, h4.output, h4.size, h4.keep, h4.row, fun g hg => ?_⟩⟩
  rcases hg with hg | hg
  · exact h4.kid g hg
  · exact .inr (hf g hg)
theorem RPost.after {w w1 w' : World} {q : Nat} {z : Int} {N M : Nat} {r r1 : Fp} {res : Int × PSt} {e : Ending} (hgo : ParGo q r r1 w w1) (hM : M ≤ N) (h : RPost w1 q z M r1 res e w') : RPost w q z N r res e w' := by
  obtain ⟨h1, r', h2, h3⟩ := h
  exact ⟨h1, r', h2.le hM, hgo.trans h3⟩

/-- What put leaves, whatever world the append began in. -/
theorem rput_end {w w1 w5 : World} {q : Nat} {z : Int} {N : Nat} {s : PSt} {r : Fp} (h : RAt w q z N s r) (hs : s.out.length + 1 + s.toks.length ≤ N)
    {x : Nod} {K : Option Addr} {kc : Nat} (hx : Own w (q + 1) 3 1 K x.kids.length kc (ints x.kids)) (hxn : x.name.size ≤ maxLen)
    {A : Option Addr} {c : Nat} {A2 : Option Addr} {c2 : Nat} {ks : List (Option Addr × Nat)}
    (h0 : Blk w q 115 #[.slice A s.toks.length c, .int .i64 z, .int .i64 s.err, .int .i64 s.off, .slice A2 s.out.length c2]) (h1 : Reads w q 4 A s.toks.length (cellsT s.toks)) (h2 : s.toks.length ≤ c) (h3 : ks.length = s.out.length)
    (h4 : Own w (q + 1) 56 4 A2 s.out.length c2 (cellsN s.out ks))
    (h5 : ∀ (i : Nat) (x : Nod) (k : Option Addr × Nat), s.out[i]? = some x → ks[i]? = some k → Own w (q + 1) 3 1 k.1 x.kids.length k.2 (ints x.kids) ∧ ∀ g, (Value.slice k.1 x.kids.length k.2).ownBlock = some g → r.kid g)
    (h6 : (Value.slice A2 s.out.length c2).ownBlock = r.row) (hb : Below w.heap.size w w1)
    {A5 : Option Addr} {c5 : Nat} (hown : Own w5 (q + 1) 56 4 A5 (s.out.length + 1) c5 (cellsN s.out ks ++ [.int .i64 x.op, .int .i64 x.n, .string x.name, .slice K x.kids.length kc]))
    (hg : w1.grownBy w5 (Value.slice A2 s.out.length c2).ownBlock) (hat : (Value.slice A5 (s.out.length + 1) c5).ownBlock = (Value.slice A2 s.out.length c2).ownBlock ∨ (Value.slice A5 (s.out.length + 1) c5).ownBlock = some w1.heap.size) :
    Blk w5 q 115 #[.slice A s.toks.length c, .int .i64 z, .int .i64 s.err, .int .i64 s.off, .slice A2 s.out.length c2] ∧
    RPut w q z N r s x K kc (.returned (.int .i64 (s.out.length : Int))) (w5.setCell ⟨q, 4, none⟩ (.slice A5 (s.out.length + 1) c5)) := by
  have hql := h.lt
  have hrow := h.rowlt
  have hq1 : some q ≠ (Value.slice A2 s.out.length c2).ownBlock := fun e => by have := (hrow q (by rw [← h6, ← e])).1; omega
  have b5 : Blk w5 q 115 #[.slice A s.toks.length c, .int .i64 z, .int .i64 s.err, .int .i64 s.off, .slice A2 s.out.length c2] := (h0.below hb hql).grown hg hq1
  have hKlt : ∀ g, (Value.slice K x.kids.length kc).ownBlock = some g → g < w.heap.size := fun g hg => (World.ownsRow.lt hx g hg).2
  have go0 : ∀ k, k < w.heap.size → k ≠ q → some k ≠ r.row → w5.heap[k]? = w.heap[k]? := fun k hk hkq hkr =>
    (hg.block k (Nat.lt_of_lt_of_le hk hb.size) (by rw [h6]; exact hkr)).trans (hb.block k hk)
  have gob : Below q w w5 := ⟨hg.os.trans hb.os, hg.tape.trans hb.tape, hg.output.trans hb.output, Nat.le_trans hb.size hg.size, fun k hk => go0 k (by omega) (by omega) (fun e => by have := (hrow k e.symm).1; omega)⟩
  have hn5 : NodsOwn w5 (q + 1) A5 c5 (s.out ++ [x]) (fun g => r.kid g ∨ (Value.slice K x.kids.length kc).ownBlock = some g) := NodsOwn.snoc h3 (h4.below hb) (fun i y k hy hk => ⟨(h5 i y k hy hk).1.below hb, (h5 i y k hy hk).2⟩) (hx.below hb) hg hown
  have hz5 : w.heap.size ≤ w5.heap.size := gob.size
  have e1 : (addS s x).out = s.out ++ [x] := rfl
  have e2 : (addS s x).toks = s.toks := rfl
  refine ⟨b5, rfl, (Value.slice A5 (s.out.length + 1) c5).ownBlock, ⟨⟨A, c, A5, c5, ?_, ?_, h2, ?_, ?_⟩, ?_, h.txt, ?_, ?_⟩, ⟨?_, ?_, ?_, ?_, ?_, ?_, fun g hg => .inl hg⟩⟩
  · have := b5.set_ 4 (.slice A5 (s.out.length + 1) c5)
    rw [e1, List.length_append]
    exact this
  · exact (h1.below gob).keep (fun p hp => by rw [World.cell?_setCell_other _ _ _ _ (by rintro rfl; exact absurd hp (Nat.lt_irrefl _))])
  · exact hn5.keepC (fun g hg _ => Below.heap_setCell w5 ⟨q, 4, none⟩ _ g (by show g ≠ q; omega))
  · rw [e1, List.length_append]; rfl
  · rw [e1, e2, List.length_append]; simp; omega
  · intro y hy
    rw [e1] at hy
    rcases List.mem_append.1 hy with hy | hy
    · exact h.nam y hy
    · rw [List.mem_singleton.1 hy]; exact hxn
  · intro g hg
    have : g < w.heap.size := by
      rcases hg with hg | hg
      · exact h.kidlt g hg
      · exact hKlt g hg
    have h2 : (w5.setCell ⟨q, 4, none⟩ (.slice A5 (s.out.length + 1) c5)).heap.size = w5.heap.size := by simp
    rw [h2]
    omega
  · exact gob.os
  · exact gob.tape
  · exact gob.output
  · simpa using gob.size
  · intro k hk hkq hkr
    exact (Below.heap_setCell w5 ⟨q, 4, none⟩ _ k hkq).trans (go0 k hk hkq hkr)
  · rcases hat with e | e
    · exact .inl (e.trans h6)
    · exact .inr ⟨_, e, hb.size⟩

set_option maxHeartbeats 2000000 in
theorem rput_any {w : World} {q : Nat} {z : Int} {N : Nat} {s : PSt} {r : Fp} (h : RAt w q z N s r) (hN : N ≤ 100000) (hs : s.out.length + 1 + s.toks.length ≤ N)
    (x : Nod) (K : Option Addr) (kc : Nat) (hx : Own w (q + 1) 3 1 K x.kids.length kc (ints x.kids)) (hxn : x.name.size ≤ maxLen) :
    Calls Tryz.prog 127 #[.pointer (some ⟨q, 0, none⟩), x.val K kc] w (RPut w q z N r s x K kc) := by
  unfold Nod.val
  have hql := h.lt
  obtain ⟨A, c, A2, c2, h0, h1, h2, ⟨ks, h3, h4, h5⟩, h6⟩ := h.ex
  have hb0 : Below w.heap.size w (w.alloc (Obj.cells #[.int .i64 x.op, .int .i64 x.n, .string x.name, .slice K x.kids.length kc] 56)) := (Below.refl _ _).alloc (Nat.le_refl _) _
  have hB0 : Blk (w.alloc (Obj.cells #[.int .i64 x.op, .int .i64 x.n, .string x.name, .slice K x.kids.length kc] 56)) w.heap.size 56 #[.int .i64 x.op, .int .i64 x.n, .string x.name, .slice K x.kids.length kc] := Blk.new _ _ _
  have hz0 : (w.alloc (Obj.cells #[.int .i64 x.op, .int .i64 x.n, .string x.name, .slice K x.kids.length kc] 56)).heap.size = w.heap.size + 1 := by simp
  have FIN := hide (fun (w1 w5 : World) (hb : Below w.heap.size w w1) (A5 : Option Addr) (c5 : Nat) hown hg hat => rput_end (w1 := w1) (w5 := w5) h hs hx hxn h0 h1 h2 h3 h4 h5 h6 hb (A5 := A5) (c5 := c5) hown hg hat)
  have H4 := hide h4
  have hc2' : w.cell? ⟨q, 4, none⟩ = some (.slice A2 s.out.length c2) := h0.cell 4
  generalize s.out = out at FIN H4 hc2' hs
  clear h hx h0 h1 h2 h3 h4 h5 h6
  go_enter Tryz.func127, Tryz.ntmps127
  go_wp2_with fail
  generalize w.alloc (Obj.cells #[.int .i64 x.op, .int .i64 x.n, .string x.name, .slice K x.kids.length kc] 56) = w0 at hb0 hB0 hz0 ⊢
  have q2 : w0.cell? ⟨q, 4, none⟩ = some (.slice A2 out.length c2) := (hb0.cell (p := ⟨q, 4, none⟩) hql).trans hc2'
  obtain ⟨c0, c1, c2', c3, _, _, _, _⟩ := blk4 hB0
  have q2' : (w0.alloc (Obj.cells #[.int .i64 x.op, .int .i64 x.n, .string x.name, .slice K x.kids.length kc] 56)).cell? ⟨q, 4, none⟩ = some (.slice A2 out.length c2) := (World.cell?_alloc_lt w0 _ ⟨q, 4, none⟩ (by show q < _; omega)).trans q2
  have RR : Hid (Reads (w0.alloc (Obj.cells #[.int .i64 x.op, .int .i64 x.n, .string x.name, .slice K x.kids.length kc] 56)).drew (w0.heap.size + 1) 4 (some ⟨w0.heap.size, 0, none⟩) 1 [.int .i64 x.op, .int .i64 x.n, .string x.name, .slice K x.kids.length kc]) := hide (reads_new w0 _ 56 4 1 rfl)
  have HOW : Hid (Own (w0.alloc (Obj.cells #[.int .i64 x.op, .int .i64 x.n, .string x.name, .slice K x.kids.length kc] 56)).drew (q + 1) 56 4 A2 out.length c2 (cellsN out ks)) := hide (((H4.out.below hb0).alloc _).below (Below.drew (Below.refl _ _)))
  have HB1 : Hid (Below w.heap.size w (w0.alloc (Obj.cells #[.int .i64 x.op, .int .i64 x.n, .string x.name, .slice K x.kids.length kc] 56)).drew) := hide ((hb0.alloc (by omega) _).drew)
  have HZ0 := hide hz0
  have HB0 := hide hb0
  have h63 : out.length + 1 ≤ maxLen := by unfold maxLen; omega
  clear hz0 hb0 hB0 H4 hc2'
  go_region_law ((refine step_appG (by rfl) _ _ _ (by rfl) (q + 1) 56 (.agg #[.int .i64 0, .int .i64 0, .string ByteArray.empty, .slice none 0 0]) 4 56 Tryz.underlying24 nod_info rfl (by omega) A2 out.length c2 (cellsN out ks) (by rfl) (by exact HOW.out) _ _ 1 _ _ (by rfl) (by exact RR.out) (by simp [Value.oneCell']) h63 (by omega) (by simp; have := HZ0.out; omega) ?_; intro A5 c5 w5 hown5 hg5 hat5; have FF := hide (FIN.out _ w5 HB1.out A5 c5 hown5 hg5 hat5); clear hown5 hg5 hat5; have q5 := FF.out.1.cell 4; have f5 := FF.out.1.frozen 4))
  all_goals (have q6 : (w5.setCell ⟨q, 4, none⟩ (.slice A5 (out.length + 1) c5)).cell? ⟨q, 4, none⟩ = some (.slice A5 (out.length + 1) c5) := (FF.out.1.set_ 4 (.slice A5 (out.length + 1) c5)).cell 4)
  all_goals (have RES := hide FF.out.2; clear FF q5 f5; generalize w5.setCell ⟨q, 4, none⟩ (.slice A5 (out.length + 1) c5) = w6 at RES q6 ⊢; go_wp2; go_ret; exact RES.out)
end Go.Proofs.YtkomgidcgepknaaGreatDoor

set_option linter.unusedVariables false
set_option linter.unusedSimpArgs false
namespace Go.Proofs.YtkomgidcgepknaaGreatDoor
open Go.RowKit Go.Deep Go.Maps

/-- The contract of a part, as far as the fuel F. -/
def RCall (z : Int) (q F : Nat) (fn : FuncId) (tag l : Nat) : Prop := ∀ (f : Nat), f < F → ∀ (s : PSt) (res : Int × PSt) (w : World) (N : Nat) (r : Fp), refF z f tag l 0 s = some res → RAt w q z N s r → N < 100000 →
  Calls Tryz.prog fn #[.pointer (some ⟨q, 0, none⟩)] w (RPost w q z N r res)
theorem toks_pos {w : World} {q : Nat} {z : Int} {N : Nat} {s : PSt} {r : Fp} (h : RAt w q z N s r) {k : Tok} {rest : List Tok} (ht : s.toks = k :: rest) : ∃ M, N = M + 1 :=
  ⟨N - 1, by have := h.sum; rw [ht] at this; simp at this; omega⟩

set_option maxHeartbeats 1000000 in
theorem unary_prim {z : Int} {q : Nat} {s : PSt} {res : Int × PSt} {w : World} {N : Nat} {r : Fp} (hs : seesS s minus = false)
    (hP : ∀ w, RAt w q z N s r → Calls Tryz.prog 219 #[.pointer (some ⟨q, 0, none⟩)] w (RPost w q z N r res)) (h : RAt w q z N s r) (hN : N < 100000) :
    Calls Tryz.prog 199 #[.pointer (some ⟨q, 0, none⟩)] w (RPost w q z N r res) := by
  have HS := hide hs
  clear hs
  go_enter Tryz.func199, Tryz.ntmps199
  go_wp2_with fail
  refine (rsees_any h (by omega) minus).mono ?_
  rintro e w1 ⟨rfl, rfl⟩
  rw [HS.out]
  go_wp2_with fail
  refine (hP w h).mono ?_
  rintro e w1 ⟨rfl, r', h1, h2⟩
  have HP := hide h1
  have HG := hide h2
  clear h1 h2
  go_wp2
  go_ret
  exact ⟨rfl, r', HP.out, HG.out⟩

set_option maxHeartbeats 1000000 in
theorem unary_neg {z : Int} {q F : Nat} (hL : RCall z q F 199 0 4) {f : Nat} (hf : f < F) {s : PSt} {res : Int × PSt} {w : World} {N : Nat} {r : Fp} (hs : seesS s minus = true)
    (hres : thenS (refF z f 0 4 0 (tailS s)) (fun a t => some (putS t ⟨12, 0, ByteArray.empty, [a]⟩)) = some res) (h : RAt w q z N s r) (hN : N < 100000) :
    Calls Tryz.prog 199 #[.pointer (some ⟨q, 0, none⟩)] w (RPost w q z N r res) := by
  obtain ⟨-, -, k, rest, ht⟩ := tail_cons hs
  obtain ⟨M, rfl⟩ := toks_pos h ht
  obtain ⟨a, t, hx, hk⟩ := thenS_some hres
  injection hk with hk
  subst hk
  have HS := hide hs
  have H := hide h
  have HT := hide ht
  have HX := hide hx
  have hq := h.lt
  clear hs hres hx ht h
  go_enter Tryz.func199, Tryz.ntmps199
  go_wp2_with fail
  refine (rsees_any H.out (by omega) minus).mono ?_
  rintro e w1 ⟨rfl, rfl⟩
  rw [HS.out]
  go_upto_region 3 with (fail)
  go_cut [] (fun wx => RAt wx q z M (tailS s) r ∧ ParGo q r r w wx)
  case first =>
    obtain ⟨b, off, c, c0, f0, hc, hx⟩ := H.out.head0 HT.out
    have hl : (((k :: rest).length : Nat) : Int) = (rest.length : Int) + 1 := by simp
    have h01 : (0 : Int) < (rest.length : Int) + 1 := by omega
    rcases hx with ⟨rfl, rfl, hx⟩ | ⟨hc1, hx⟩
    all_goals
      have HX2 := hide hx
      clear hx
      go_wp2_with fail
      go_meet
      exact ⟨HX2.out, rset_go H.out 0 _⟩
  case rest =>
  obtain ⟨h1, g1⟩ := hcut
  have gb1 := g1.rbelow H.out
  clear H HT
  go_wp2_with fail
  refine (hL f hf (tailS s) (a, t) wc M r HX.out h1 (by omega)).mono ?_
  rintro e w2 ⟨rfl, r2, h2, g2⟩
  dsimp only at h2
  have hsum2 := h2.sum
  have hlt2 := h2.lt
  have hb3 : Below w2.heap.size w2 (w2.alloc (Obj.cells #[.int .i64 a] 3)) := (Below.refl _ _).alloc (Nat.le_refl _) _
  have H3 := hide ((h2.below hb3).le (Nat.le_succ M))
  have G3 := hide ((g1.trans g2).trans (ParGo.of_below hb3))
  have HX3 : Hid (Own (w2.alloc (Obj.cells #[.int .i64 a] 3)) (q + 1) 3 1 (some ⟨w2.heap.size, 0, none⟩) 1 1 (ints [a])) := hide (Own.of_lit w2 #[.int .i64 a] 1 hlt2 (by unfold maxLen; omega) rfl)
  have HSZ : Hid (w.heap.size ≤ w2.heap.size) := (g1.trans g2).size
  clear HX h1 g1 g2 h2 hb3 gb1
  go_wp2_with fail
  refine (rput_any H3.out (by omega) (by omega) ⟨12, 0, ByteArray.empty, [a]⟩ (some ⟨w2.heap.size, 0, none⟩) 1 HX3.out (Nat.zero_le _)).mono ?_
  intro e w4 hp
  have hp' := hp.after G3.out (Nat.le_refl _) (fun g hg => by injection hg with hg; rw [← hg]; exact HSZ.out)
  clear hp
  have RES := hide hp'
  obtain ⟨rfl, _⟩ := hp'
  go_wp2
  go_ret
  exact RES.out

theorem refF_loop3 {z : Int} {g : Nat} {x : Int} {s : PSt} {res : Int × PSt} (h : refF z g 1 3 x s = some res) :
    (seesS s ⟨#[42]⟩ = false ∧ seesS s ⟨#[47]⟩ = false ∧ res = (x, s)) ∨
    (∃ g', g = g' + 1 ∧ ∃ op, ((seesS s ⟨#[47]⟩ = true ∧ op = 6) ∨ (seesS s ⟨#[47]⟩ = false ∧ seesS s ⟨#[42]⟩ = true ∧ op = 5)) ∧ ∃ b t, refF z g' 0 4 0 (tailS s) = some (b, t) ∧ refF z g' 1 3 t.out.length (addS t ⟨op, 0, ByteArray.empty, [x, b]⟩) = some res) := by
  by_cases he : s.err = 0
  · cases g with
    | zero =>
      unfold refF at h
      rw [if_pos he] at h
      cases h
    | succ g =>
      obtain ⟨err, off, toks, out⟩ := s
      dsimp only at he
      subst he
      unfold refF at h
      rw [if_neg (fun hh => hh rfl), if_neg (by decide), if_pos rfl] at h
      have ho : opS 3 ⟨0, off, toks, out⟩ = if seesS ⟨0, off, toks, out⟩ ⟨#[47]⟩ = true then 6 else if seesS ⟨0, off, toks, out⟩ ⟨#[42]⟩ = true then 5 else 0 := rfl
      cases h2 : seesS ⟨0, off, toks, out⟩ ⟨#[47]⟩
      · rw [h2, if_neg (by decide)] at ho
        cases h1 : seesS ⟨0, off, toks, out⟩ ⟨#[42]⟩
        · rw [h1, if_neg (by decide)] at ho
          rw [ho, if_pos rfl] at h
          injection h with h
          exact .inl ⟨rfl, rfl, h.symm⟩
        · rw [h1, if_pos rfl] at ho
          rw [ho, if_neg (by decide)] at h
          obtain ⟨b, t, hx, hk⟩ := thenS_some h
          rw [if_neg (by decide)] at hk
          exact .inr ⟨g, rfl, _, .inr ⟨rfl, rfl, rfl⟩, b, t, hx, hk⟩
      · rw [h2, if_pos rfl] at ho
        rw [ho, if_neg (by decide)] at h
        obtain ⟨b, t, hx, hk⟩ := thenS_some h
        rw [if_neg (by decide)] at hk
        exact .inr ⟨g, rfl, _, .inl ⟨rfl, rfl⟩, b, t, hx, hk⟩
  · rw [refF_dead z g 1 3 x s he, if_pos rfl] at h
    injection h with h
    exact .inl ⟨sees_dead he _, sees_dead he _, h.symm⟩

set_option maxHeartbeats 4000000 in
set_option maxRecDepth 20000 in
theorem product_go {z : Int} {q F : Nat} (hL : RCall z q F 199 0 4) {g0 : Nat} (hg0 : g0 ≤ F) {s0 s1 : PSt} {x0 : Int} {res : Int × PSt} {w : World} {N : Nat} {r : Fp}
    (hfirst : Calls Tryz.prog 199 #[.pointer (some ⟨q, 0, none⟩)] w (RPost w q z N r (x0, s1))) (hloop : refF z g0 1 3 x0 s1 = some res) (hN : N < 100000) :
    Calls Tryz.prog 172 #[.pointer (some ⟨q, 0, none⟩)] w (RPost w q z N r res) := by
  have HL := hide hloop
  clear hloop
  go_enter Tryz.func172, Tryz.ntmps172
  go_wp2_with fail
  refine hfirst.mono ?_
  rintro e w1 ⟨rfl, r1, h1, g1⟩
  dsimp only at h1
  clear hfirst
  go_wp2
  go_loopg [3, 4, 5] g0 (fun g t3 t4 t5 wr => ∃ (x : Int) (s : PSt) (r1 : Fp), t3 = .int .i64 x ∧ g ≤ g0 ∧ refF z g 1 3 x s = some res ∧ RAt wr q z N s r1 ∧ ParGo q r r1 w wr)
  case atStart => exact ⟨x0, s1, r1, rfl, Nat.le_refl _, HL.out, h1, g1⟩
  case round =>
    clear h1 g1 HL
    obtain ⟨x, s, r1, rfl, hgf, hpar, h1, g1⟩ := hrel
    have H1 := hide h1
    have G1 := hide g1
    rcases refF_loop3 hpar with ⟨hs1, hs2, rfl⟩ | ⟨gk', rfl, op, hop, b, t, hx, hk⟩
    · have HS1 := hide hs1
      have HS2 := hide hs2
      clear hs1 hs2 hpar h1 g1
      go_wp2_with fail
      refine (rsees_any H1.out (by omega) ⟨#[42]⟩).mono ?_
      rintro e w2 ⟨rfl, rfl⟩
      rw [HS1.out]
      go_wp2_with fail
      refine (rsees_any H1.out (by omega) ⟨#[47]⟩).mono ?_
      rintro e w2 ⟨rfl, rfl⟩
      rw [HS2.out]
      go_wp2
      go_ret
      exact ⟨rfl, r1, H1.out, G1.out⟩
    · have hcons : ∃ k rest, s.toks = k :: rest := by
        rcases hop with ⟨hh, -⟩ | ⟨-, hh, -⟩
        · exact (tail_cons hh).2.2
        · exact (tail_cons hh).2.2
      obtain ⟨k, rest, ht⟩ := hcons
      obtain ⟨M, rfl⟩ := toks_pos h1 ht
      have HT := hide ht
      have HX := hide hx
      have HK := hide hk
      clear ht hx hk hpar h1 g1
      rcases hop with ⟨hs2, rfl⟩ | ⟨hs2, hs1, rfl⟩
      · have HS2 := hide hs2
        clear hs2
        cases hs1 : seesS s ⟨#[42]⟩
        · have HS1 := hide hs1
          clear hs1
          go_wp2_with fail
          refine (rsees_any H1.out (by omega) ⟨#[42]⟩).mono ?_
          rintro e w2 ⟨rfl, rfl⟩
          rw [HS1.out]
          go_wp2_with fail
          refine (rsees_any H1.out (by omega) ⟨#[47]⟩).mono ?_
          rintro e w2 ⟨rfl, rfl⟩
          rw [HS2.out]
          go_wp2_with fail
          refine (rsees_any H1.out (by omega) ⟨#[47]⟩).mono ?_
          rintro e w2 ⟨rfl, rfl⟩
          rw [HS2.out]
          go_upto_region 6 with (fail)
          go_cut [] (fun wx => RAt wx q z M (tailS s) r1 ∧ ParGo q r1 r1 wr wx)
          case first =>
            obtain ⟨b, off, c, c0, f0, hc, hx⟩ := H1.out.head0 HT.out
            have hl : (((k :: rest).length : Nat) : Int) = (rest.length : Int) + 1 := by simp
            have h01 : (0 : Int) < (rest.length : Int) + 1 := by omega
            rcases hx with ⟨rfl, rfl, hx⟩ | ⟨hc1, hx⟩
            all_goals
              have HX2 := hide hx
              clear hx
              go_wp2_with fail
              go_meet
              exact ⟨HX2.out, rset_go H1.out 0 _⟩
          case rest =>
          obtain ⟨h1, g1⟩ := hcut
          have G2 := hide (G1.out.trans g1)
          have gb1 := g1.rbelow H1.out
          clear H1 HT G1
          go_wp2_with fail
          refine (hL gk' (by omega) (tailS s) (b, t) wc M r1 HX.out h1 (by omega)).mono ?_
          rintro e w2 ⟨rfl, r2, h2, g2⟩
          dsimp only at h2
          have hsum2 := h2.sum
          have hlt2 := h2.lt
          have hb3 : Below w2.heap.size w2 (w2.alloc (Obj.cells #[.int .i64 x, .int .i64 b] 3)) := (Below.refl _ _).alloc (Nat.le_refl _) _
          have H3 := hide ((h2.below hb3).le (Nat.le_succ M))
          have G3 := hide ((G2.out.trans g2).trans (ParGo.of_below hb3))
          have HX3 : Hid (Own (w2.alloc (Obj.cells #[.int .i64 x, .int .i64 b] 3)) (q + 1) 3 1 (some ⟨w2.heap.size, 0, none⟩) 2 2 (ints [x, b])) := hide (Own.of_lit w2 #[.int .i64 x, .int .i64 b] 2 hlt2 (by unfold maxLen; omega) rfl)
          have HSZ : Hid (w.heap.size ≤ w2.heap.size) := (G2.out.trans g2).size
          clear HX h1 g1 g2 h2 hb3 gb1 G2
          go_wp2_with fail
          refine (rput_any H3.out (by omega) (by omega) ⟨6, 0, ByteArray.empty, [x, b]⟩ (some ⟨w2.heap.size, 0, none⟩) 2 HX3.out (Nat.zero_le _)).mono ?_
          intro e w4 hp
          have hp' := hp.after G3.out (Nat.le_refl _) (fun g hg => by injection hg with hg; rw [← hg]; exact HSZ.out)
          clear hp
          obtain ⟨rfl, r4, h4, g4⟩ := hp'
          have H4 := hide h4
          have G4 := hide g4
          clear h4 g4 H3 G3 HX3 HSZ
          go_wp2
          go_roundg gk'
          case measure => omega
          case rel => exact ⟨_, _, r4, rfl, by omega, HK.out, H4.out, G4.out⟩
        · have HS1 := hide hs1
          clear hs1
          go_wp2_with fail
          refine (rsees_any H1.out (by omega) ⟨#[42]⟩).mono ?_
          rintro e w2 ⟨rfl, rfl⟩
          rw [HS1.out]
          go_wp2_with fail
          refine (rsees_any H1.out (by omega) ⟨#[47]⟩).mono ?_
          rintro e w2 ⟨rfl, rfl⟩
          rw [HS2.out]
          go_upto_region 6 with (fail)
          go_cut [] (fun wx => RAt wx q z M (tailS s) r1 ∧ ParGo q r1 r1 wr wx)
          case first =>
            obtain ⟨b, off, c, c0, f0, hc, hx⟩ := H1.out.head0 HT.out
            have hl : (((k :: rest).length : Nat) : Int) = (rest.length : Int) + 1 := by simp
            have h01 : (0 : Int) < (rest.length : Int) + 1 := by omega
            rcases hx with ⟨rfl, rfl, hx⟩ | ⟨hc1, hx⟩
            all_goals
              have HX2 := hide hx
              clear hx
              go_wp2_with fail
              go_meet
              exact ⟨HX2.out, rset_go H1.out 0 _⟩
          case rest =>
          obtain ⟨h1, g1⟩ := hcut
          have G2 := hide (G1.out.trans g1)
          have gb1 := g1.rbelow H1.out
          clear H1 HT G1
          go_wp2_with fail
          refine (hL gk' (by omega) (tailS s) (b, t) wc M r1 HX.out h1 (by omega)).mono ?_
          rintro e w2 ⟨rfl, r2, h2, g2⟩
          dsimp only at h2
          have hsum2 := h2.sum
          have hlt2 := h2.lt
          have hb3 : Below w2.heap.size w2 (w2.alloc (Obj.cells #[.int .i64 x, .int .i64 b] 3)) := (Below.refl _ _).alloc (Nat.le_refl _) _
          have H3 := hide ((h2.below hb3).le (Nat.le_succ M))
          have G3 := hide ((G2.out.trans g2).trans (ParGo.of_below hb3))
          have HX3 : Hid (Own (w2.alloc (Obj.cells #[.int .i64 x, .int .i64 b] 3)) (q + 1) 3 1 (some ⟨w2.heap.size, 0, none⟩) 2 2 (ints [x, b])) := hide (Own.of_lit w2 #[.int .i64 x, .int .i64 b] 2 hlt2 (by unfold maxLen; omega) rfl)
          have HSZ : Hid (w.heap.size ≤ w2.heap.size) := (G2.out.trans g2).size
          clear HX h1 g1 g2 h2 hb3 gb1 G2
          go_wp2_with fail
          refine (rput_any H3.out (by omega) (by omega) ⟨6, 0, ByteArray.empty, [x, b]⟩ (some ⟨w2.heap.size, 0, none⟩) 2 HX3.out (Nat.zero_le _)).mono ?_
          intro e w4 hp
          have hp' := hp.after G3.out (Nat.le_refl _) (fun g hg => by injection hg with hg; rw [← hg]; exact HSZ.out)
          clear hp
          obtain ⟨rfl, r4, h4, g4⟩ := hp'
          have H4 := hide h4
          have G4 := hide g4
          clear h4 g4 H3 G3 HX3 HSZ
          go_wp2
          go_roundg gk'
          case measure => omega
          case rel => exact ⟨_, _, r4, rfl, by omega, HK.out, H4.out, G4.out⟩
      · have HS1 := hide hs1
        have HS2 := hide hs2
        clear hs1 hs2
        go_wp2_with fail
        refine (rsees_any H1.out (by omega) ⟨#[42]⟩).mono ?_
        rintro e w2 ⟨rfl, rfl⟩
        rw [HS1.out]
        go_wp2_with fail
        refine (rsees_any H1.out (by omega) ⟨#[47]⟩).mono ?_
        rintro e w2 ⟨rfl, rfl⟩
        rw [HS2.out]
        go_upto_region 6 with (fail)
        go_cut [] (fun wx => RAt wx q z M (tailS s) r1 ∧ ParGo q r1 r1 wr wx)
        case first =>
          obtain ⟨b, off, c, c0, f0, hc, hx⟩ := H1.out.head0 HT.out
          have hl : (((k :: rest).length : Nat) : Int) = (rest.length : Int) + 1 := by simp
          have h01 : (0 : Int) < (rest.length : Int) + 1 := by omega
          rcases hx with ⟨rfl, rfl, hx⟩ | ⟨hc1, hx⟩
          all_goals
            have HX2 := hide hx
            clear hx
            go_wp2_with fail
            go_meet
            exact ⟨HX2.out, rset_go H1.out 0 _⟩
        case rest =>
        obtain ⟨h1, g1⟩ := hcut
        have G2 := hide (G1.out.trans g1)
        have gb1 := g1.rbelow H1.out
        clear H1 HT G1
        go_wp2_with fail
        refine (hL gk' (by omega) (tailS s) (b, t) wc M r1 HX.out h1 (by omega)).mono ?_
        rintro e w2 ⟨rfl, r2, h2, g2⟩
        dsimp only at h2
        have hsum2 := h2.sum
        have hlt2 := h2.lt
        have hb3 : Below w2.heap.size w2 (w2.alloc (Obj.cells #[.int .i64 x, .int .i64 b] 3)) := (Below.refl _ _).alloc (Nat.le_refl _) _
        have H3 := hide ((h2.below hb3).le (Nat.le_succ M))
        have G3 := hide ((G2.out.trans g2).trans (ParGo.of_below hb3))
        have HX3 : Hid (Own (w2.alloc (Obj.cells #[.int .i64 x, .int .i64 b] 3)) (q + 1) 3 1 (some ⟨w2.heap.size, 0, none⟩) 2 2 (ints [x, b])) := hide (Own.of_lit w2 #[.int .i64 x, .int .i64 b] 2 hlt2 (by unfold maxLen; omega) rfl)
        have HSZ : Hid (w.heap.size ≤ w2.heap.size) := (G2.out.trans g2).size
        clear HX h1 g1 g2 h2 hb3 gb1 G2
        go_wp2_with fail
        refine (rput_any H3.out (by omega) (by omega) ⟨5, 0, ByteArray.empty, [x, b]⟩ (some ⟨w2.heap.size, 0, none⟩) 2 HX3.out (Nat.zero_le _)).mono ?_
        intro e w4 hp
        have hp' := hp.after G3.out (Nat.le_refl _) (fun g hg => by injection hg with hg; rw [← hg]; exact HSZ.out)
        clear hp
        obtain ⟨rfl, r4, h4, g4⟩ := hp'
        have H4 := hide h4
        have G4 := hide g4
        clear h4 g4 H3 G3 HX3 HSZ
        go_wp2
        go_roundg gk'
        case measure => omega
        case rel => exact ⟨_, _, r4, rfl, by omega, HK.out, H4.out, G4.out⟩

theorem refF_loop2 {z : Int} {g : Nat} {x : Int} {s : PSt} {res : Int × PSt} (h : refF z g 1 2 x s = some res) :
    (seesS s ⟨#[43]⟩ = false ∧ seesS s ⟨#[45]⟩ = false ∧ res = (x, s)) ∨
    (∃ g', g = g' + 1 ∧ ∃ op, ((seesS s ⟨#[45]⟩ = true ∧ op = 4) ∨ (seesS s ⟨#[45]⟩ = false ∧ seesS s ⟨#[43]⟩ = true ∧ op = 3)) ∧ ∃ b t, refF z g' 0 3 0 (tailS s) = some (b, t) ∧ refF z g' 1 2 t.out.length (addS t ⟨op, 0, ByteArray.empty, [x, b]⟩) = some res) := by
  by_cases he : s.err = 0
  · cases g with
    | zero =>
      unfold refF at h
      rw [if_pos he] at h
      cases h
    | succ g =>
      obtain ⟨err, off, toks, out⟩ := s
      dsimp only at he
      subst he
      unfold refF at h
      rw [if_neg (fun hh => hh rfl), if_neg (by decide), if_pos rfl] at h
      have ho : opS 2 ⟨0, off, toks, out⟩ = if seesS ⟨0, off, toks, out⟩ ⟨#[45]⟩ = true then 4 else if seesS ⟨0, off, toks, out⟩ ⟨#[43]⟩ = true then 3 else 0 := rfl
      cases h2 : seesS ⟨0, off, toks, out⟩ ⟨#[45]⟩
      · rw [h2, if_neg (by decide)] at ho
        cases h1 : seesS ⟨0, off, toks, out⟩ ⟨#[43]⟩
        · rw [h1, if_neg (by decide)] at ho
          rw [ho, if_pos rfl] at h
          injection h with h
          exact .inl ⟨rfl, rfl, h.symm⟩
        · rw [h1, if_pos rfl] at ho
          rw [ho, if_neg (by decide)] at h
          obtain ⟨b, t, hx, hk⟩ := thenS_some h
          rw [if_neg (by decide)] at hk
          exact .inr ⟨g, rfl, _, .inr ⟨rfl, rfl, rfl⟩, b, t, hx, hk⟩
      · rw [h2, if_pos rfl] at ho
        rw [ho, if_neg (by decide)] at h
        obtain ⟨b, t, hx, hk⟩ := thenS_some h
        rw [if_neg (by decide)] at hk
        exact .inr ⟨g, rfl, _, .inl ⟨rfl, rfl⟩, b, t, hx, hk⟩
  · rw [refF_dead z g 1 2 x s he, if_pos rfl] at h
    injection h with h
    exact .inl ⟨sees_dead he _, sees_dead he _, h.symm⟩

set_option maxHeartbeats 4000000 in
set_option maxRecDepth 20000 in
theorem sum_go {z : Int} {q F : Nat} (hL : RCall z q F 172 0 3) {g0 : Nat} (hg0 : g0 ≤ F) {s0 s1 : PSt} {x0 : Int} {res : Int × PSt} {w : World} {N : Nat} {r : Fp}
    (hfirst : Calls Tryz.prog 172 #[.pointer (some ⟨q, 0, none⟩)] w (RPost w q z N r (x0, s1))) (hloop : refF z g0 1 2 x0 s1 = some res) (hN : N < 100000) :
    Calls Tryz.prog 125 #[.pointer (some ⟨q, 0, none⟩)] w (RPost w q z N r res) := by
  have HL := hide hloop
  clear hloop
  go_enter Tryz.func125, Tryz.ntmps125
  go_wp2_with fail
  refine hfirst.mono ?_
  rintro e w1 ⟨rfl, r1, h1, g1⟩
  dsimp only at h1
  clear hfirst
  go_wp2
  go_loopg [3, 4, 5] g0 (fun g t3 t4 t5 wr => ∃ (x : Int) (s : PSt) (r1 : Fp), t3 = .int .i64 x ∧ g ≤ g0 ∧ refF z g 1 2 x s = some res ∧ RAt wr q z N s r1 ∧ ParGo q r r1 w wr)
  case atStart => exact ⟨x0, s1, r1, rfl, Nat.le_refl _, HL.out, h1, g1⟩
  case round =>
    clear h1 g1 HL
    obtain ⟨x, s, r1, rfl, hgf, hpar, h1, g1⟩ := hrel
    have H1 := hide h1
    have G1 := hide g1
    rcases refF_loop2 hpar with ⟨hs1, hs2, rfl⟩ | ⟨gk', rfl, op, hop, b, t, hx, hk⟩
    · have HS1 := hide hs1
      have HS2 := hide hs2
      clear hs1 hs2 hpar h1 g1
      go_wp2_with fail
      refine (rsees_any H1.out (by omega) ⟨#[43]⟩).mono ?_
      rintro e w2 ⟨rfl, rfl⟩
      rw [HS1.out]
      go_wp2_with fail
      refine (rsees_any H1.out (by omega) ⟨#[45]⟩).mono ?_
      rintro e w2 ⟨rfl, rfl⟩
      rw [HS2.out]
      go_wp2
      go_ret
      exact ⟨rfl, r1, H1.out, G1.out⟩
    · have hcons : ∃ k rest, s.toks = k :: rest := by
        rcases hop with ⟨hh, -⟩ | ⟨-, hh, -⟩
        · exact (tail_cons hh).2.2
        · exact (tail_cons hh).2.2
      obtain ⟨k, rest, ht⟩ := hcons
      obtain ⟨M, rfl⟩ := toks_pos h1 ht
      have HT := hide ht
      have HX := hide hx
      have HK := hide hk
      clear ht hx hk hpar h1 g1
      rcases hop with ⟨hs2, rfl⟩ | ⟨hs2, hs1, rfl⟩
      · have HS2 := hide hs2
        clear hs2
        cases hs1 : seesS s ⟨#[43]⟩
        · have HS1 := hide hs1
          clear hs1
          go_wp2_with fail
          refine (rsees_any H1.out (by omega) ⟨#[43]⟩).mono ?_
          rintro e w2 ⟨rfl, rfl⟩
          rw [HS1.out]
          go_wp2_with fail
          refine (rsees_any H1.out (by omega) ⟨#[45]⟩).mono ?_
          rintro e w2 ⟨rfl, rfl⟩
          rw [HS2.out]
          go_wp2_with fail
          refine (rsees_any H1.out (by omega) ⟨#[45]⟩).mono ?_
          rintro e w2 ⟨rfl, rfl⟩
          rw [HS2.out]
          go_upto_region 6 with (fail)
          go_cut [] (fun wx => RAt wx q z M (tailS s) r1 ∧ ParGo q r1 r1 wr wx)
          case first =>
            obtain ⟨b, off, c, c0, f0, hc, hx⟩ := H1.out.head0 HT.out
            have hl : (((k :: rest).length : Nat) : Int) = (rest.length : Int) + 1 := by simp
            have h01 : (0 : Int) < (rest.length : Int) + 1 := by omega
            rcases hx with ⟨rfl, rfl, hx⟩ | ⟨hc1, hx⟩
            all_goals
              have HX2 := hide hx
              clear hx
              go_wp2_with fail
              go_meet
              exact ⟨HX2.out, rset_go H1.out 0 _⟩
          case rest =>
          obtain ⟨h1, g1⟩ := hcut
          have G2 := hide (G1.out.trans g1)
          have gb1 := g1.rbelow H1.out
          clear H1 HT G1
          go_wp2_with fail
          refine (hL gk' (by omega) (tailS s) (b, t) wc M r1 HX.out h1 (by omega)).mono ?_
          rintro e w2 ⟨rfl, r2, h2, g2⟩
          dsimp only at h2
          have hsum2 := h2.sum
          have hlt2 := h2.lt
          have hb3 : Below w2.heap.size w2 (w2.alloc (Obj.cells #[.int .i64 x, .int .i64 b] 3)) := (Below.refl _ _).alloc (Nat.le_refl _) _
          have H3 := hide ((h2.below hb3).le (Nat.le_succ M))
          have G3 := hide ((G2.out.trans g2).trans (ParGo.of_below hb3))
          have HX3 : Hid (Own (w2.alloc (Obj.cells #[.int .i64 x, .int .i64 b] 3)) (q + 1) 3 1 (some ⟨w2.heap.size, 0, none⟩) 2 2 (ints [x, b])) := hide (Own.of_lit w2 #[.int .i64 x, .int .i64 b] 2 hlt2 (by unfold maxLen; omega) rfl)
          have HSZ : Hid (w.heap.size ≤ w2.heap.size) := (G2.out.trans g2).size
          clear HX h1 g1 g2 h2 hb3 gb1 G2
          go_wp2_with fail
          refine (rput_any H3.out (by omega) (by omega) ⟨4, 0, ByteArray.empty, [x, b]⟩ (some ⟨w2.heap.size, 0, none⟩) 2 HX3.out (Nat.zero_le _)).mono ?_
          intro e w4 hp
          have hp' := hp.after G3.out (Nat.le_refl _) (fun g hg => by injection hg with hg; rw [← hg]; exact HSZ.out)
          clear hp
          obtain ⟨rfl, r4, h4, g4⟩ := hp'
          have H4 := hide h4
          have G4 := hide g4
          clear h4 g4 H3 G3 HX3 HSZ
          go_wp2
          go_roundg gk'
          case measure => omega
          case rel => exact ⟨_, _, r4, rfl, by omega, HK.out, H4.out, G4.out⟩
        · have HS1 := hide hs1
          clear hs1
          go_wp2_with fail
          refine (rsees_any H1.out (by omega) ⟨#[43]⟩).mono ?_
          rintro e w2 ⟨rfl, rfl⟩
          rw [HS1.out]
          go_wp2_with fail
          refine (rsees_any H1.out (by omega) ⟨#[45]⟩).mono ?_
          rintro e w2 ⟨rfl, rfl⟩
          rw [HS2.out]
          go_upto_region 6 with (fail)
          go_cut [] (fun wx => RAt wx q z M (tailS s) r1 ∧ ParGo q r1 r1 wr wx)
          case first =>
            obtain ⟨b, off, c, c0, f0, hc, hx⟩ := H1.out.head0 HT.out
            have hl : (((k :: rest).length : Nat) : Int) = (rest.length : Int) + 1 := by simp
            have h01 : (0 : Int) < (rest.length : Int) + 1 := by omega
            rcases hx with ⟨rfl, rfl, hx⟩ | ⟨hc1, hx⟩
            all_goals
              have HX2 := hide hx
              clear hx
              go_wp2_with fail
              go_meet
              exact ⟨HX2.out, rset_go H1.out 0 _⟩
          case rest =>
          obtain ⟨h1, g1⟩ := hcut
          have G2 := hide (G1.out.trans g1)
          have gb1 := g1.rbelow H1.out
          clear H1 HT G1
          go_wp2_with fail
          refine (hL gk' (by omega) (tailS s) (b, t) wc M r1 HX.out h1 (by omega)).mono ?_
          rintro e w2 ⟨rfl, r2, h2, g2⟩
          dsimp only at h2
          have hsum2 := h2.sum
          have hlt2 := h2.lt
          have hb3 : Below w2.heap.size w2 (w2.alloc (Obj.cells #[.int .i64 x, .int .i64 b] 3)) := (Below.refl _ _).alloc (Nat.le_refl _) _
          have H3 := hide ((h2.below hb3).le (Nat.le_succ M))
          have G3 := hide ((G2.out.trans g2).trans (ParGo.of_below hb3))
          have HX3 : Hid (Own (w2.alloc (Obj.cells #[.int .i64 x, .int .i64 b] 3)) (q + 1) 3 1 (some ⟨w2.heap.size, 0, none⟩) 2 2 (ints [x, b])) := hide (Own.of_lit w2 #[.int .i64 x, .int .i64 b] 2 hlt2 (by unfold maxLen; omega) rfl)
          have HSZ : Hid (w.heap.size ≤ w2.heap.size) := (G2.out.trans g2).size
          clear HX h1 g1 g2 h2 hb3 gb1 G2
          go_wp2_with fail
          refine (rput_any H3.out (by omega) (by omega) ⟨4, 0, ByteArray.empty, [x, b]⟩ (some ⟨w2.heap.size, 0, none⟩) 2 HX3.out (Nat.zero_le _)).mono ?_
          intro e w4 hp
          have hp' := hp.after G3.out (Nat.le_refl _) (fun g hg => by injection hg with hg; rw [← hg]; exact HSZ.out)
          clear hp
          obtain ⟨rfl, r4, h4, g4⟩ := hp'
          have H4 := hide h4
          have G4 := hide g4
          clear h4 g4 H3 G3 HX3 HSZ
          go_wp2
          go_roundg gk'
          case measure => omega
          case rel => exact ⟨_, _, r4, rfl, by omega, HK.out, H4.out, G4.out⟩
      · have HS1 := hide hs1
        have HS2 := hide hs2
        clear hs1 hs2
        go_wp2_with fail
        refine (rsees_any H1.out (by omega) ⟨#[43]⟩).mono ?_
        rintro e w2 ⟨rfl, rfl⟩
        rw [HS1.out]
        go_wp2_with fail
        refine (rsees_any H1.out (by omega) ⟨#[45]⟩).mono ?_
        rintro e w2 ⟨rfl, rfl⟩
        rw [HS2.out]
        go_upto_region 6 with (fail)
        go_cut [] (fun wx => RAt wx q z M (tailS s) r1 ∧ ParGo q r1 r1 wr wx)
        case first =>
          obtain ⟨b, off, c, c0, f0, hc, hx⟩ := H1.out.head0 HT.out
          have hl : (((k :: rest).length : Nat) : Int) = (rest.length : Int) + 1 := by simp
          have h01 : (0 : Int) < (rest.length : Int) + 1 := by omega
          rcases hx with ⟨rfl, rfl, hx⟩ | ⟨hc1, hx⟩
          all_goals
            have HX2 := hide hx
            clear hx
            go_wp2_with fail
            go_meet
            exact ⟨HX2.out, rset_go H1.out 0 _⟩
        case rest =>
        obtain ⟨h1, g1⟩ := hcut
        have G2 := hide (G1.out.trans g1)
        have gb1 := g1.rbelow H1.out
        clear H1 HT G1
        go_wp2_with fail
        refine (hL gk' (by omega) (tailS s) (b, t) wc M r1 HX.out h1 (by omega)).mono ?_
        rintro e w2 ⟨rfl, r2, h2, g2⟩
        dsimp only at h2
        have hsum2 := h2.sum
        have hlt2 := h2.lt
        have hb3 : Below w2.heap.size w2 (w2.alloc (Obj.cells #[.int .i64 x, .int .i64 b] 3)) := (Below.refl _ _).alloc (Nat.le_refl _) _
        have H3 := hide ((h2.below hb3).le (Nat.le_succ M))
        have G3 := hide ((G2.out.trans g2).trans (ParGo.of_below hb3))
        have HX3 : Hid (Own (w2.alloc (Obj.cells #[.int .i64 x, .int .i64 b] 3)) (q + 1) 3 1 (some ⟨w2.heap.size, 0, none⟩) 2 2 (ints [x, b])) := hide (Own.of_lit w2 #[.int .i64 x, .int .i64 b] 2 hlt2 (by unfold maxLen; omega) rfl)
        have HSZ : Hid (w.heap.size ≤ w2.heap.size) := (G2.out.trans g2).size
        clear HX h1 g1 g2 h2 hb3 gb1 G2
        go_wp2_with fail
        refine (rput_any H3.out (by omega) (by omega) ⟨3, 0, ByteArray.empty, [x, b]⟩ (some ⟨w2.heap.size, 0, none⟩) 2 HX3.out (Nat.zero_le _)).mono ?_
        intro e w4 hp
        have hp' := hp.after G3.out (Nat.le_refl _) (fun g hg => by injection hg with hg; rw [← hg]; exact HSZ.out)
        clear hp
        obtain ⟨rfl, r4, h4, g4⟩ := hp'
        have H4 := hide h4
        have G4 := hide g4
        clear h4 g4 H3 G3 HX3 HSZ
        go_wp2
        go_roundg gk'
        case measure => omega
        case rel => exact ⟨_, _, r4, rfl, by omega, HK.out, H4.out, G4.out⟩
end Go.Proofs.YtkomgidcgepknaaGreatDoor

set_option linter.unusedVariables false
set_option linter.unusedSimpArgs false
namespace Go.Proofs.YtkomgidcgepknaaGreatDoor
open Go.RowKit Go.Deep Go.Maps

theorem refF_loop1 {z : Int} {g : Nat} {x : Int} {s : PSt} {res : Int × PSt} (h : refF z g 1 1 x s = some res) :
    (seesS s ⟨#[60]⟩ = false ∧ seesS s ⟨#[61, 61]⟩ = false ∧ res = (x, s)) ∨
    (∃ g', g = g' + 1 ∧ ∃ op, ((seesS s ⟨#[61, 61]⟩ = true ∧ op = 11) ∨ (seesS s ⟨#[61, 61]⟩ = false ∧ seesS s ⟨#[60]⟩ = true ∧ op = 10)) ∧ ∃ b t, refF z g' 0 2 0 (tailS s) = some (b, t) ∧ res = putS t ⟨op, 0, ByteArray.empty, [x, b]⟩) := by
  by_cases he : s.err = 0
  · cases g with
    | zero =>
      unfold refF at h
      rw [if_pos he] at h
      cases h
    | succ g =>
      obtain ⟨err, off, toks, out⟩ := s
      dsimp only at he
      subst he
      unfold refF at h
      rw [if_neg (fun hh => hh rfl), if_neg (by decide), if_pos rfl] at h
      have ho : opS 1 ⟨0, off, toks, out⟩ = if seesS ⟨0, off, toks, out⟩ ⟨#[61, 61]⟩ = true then 11 else if seesS ⟨0, off, toks, out⟩ ⟨#[60]⟩ = true then 10 else 0 := rfl
      cases h2 : seesS ⟨0, off, toks, out⟩ ⟨#[61, 61]⟩
      · rw [h2, if_neg (by decide)] at ho
        cases h1 : seesS ⟨0, off, toks, out⟩ ⟨#[60]⟩
        · rw [h1, if_neg (by decide)] at ho
          rw [ho, if_pos rfl] at h
          injection h with h
          exact .inl ⟨rfl, rfl, h.symm⟩
        · rw [h1, if_pos rfl] at ho
          rw [ho, if_neg (by decide)] at h
          obtain ⟨b, t, hx, hk⟩ := thenS_some h
          rw [if_pos rfl] at hk
          injection hk with hk
          exact .inr ⟨g, rfl, _, .inr ⟨rfl, rfl, rfl⟩, b, t, hx, hk.symm⟩
      · rw [h2, if_pos rfl] at ho
        rw [ho, if_neg (by decide)] at h
        obtain ⟨b, t, hx, hk⟩ := thenS_some h
        rw [if_pos rfl] at hk
        injection hk with hk
        exact .inr ⟨g, rfl, _, .inl ⟨rfl, rfl⟩, b, t, hx, hk.symm⟩
  · rw [refF_dead z g 1 1 x s he, if_pos rfl] at h
    injection h with h
    exact .inl ⟨sees_dead he _, sees_dead he _, h.symm⟩

set_option maxHeartbeats 4000000 in
set_option maxRecDepth 20000 in
theorem expr_go {z : Int} {q F : Nat} (hL : RCall z q F 125 0 2) {g0 : Nat} (hg0 : g0 ≤ F) {s1 : PSt} {x0 : Int} {res : Int × PSt} {w : World} {N : Nat} {r : Fp}
    (hfirst : Calls Tryz.prog 125 #[.pointer (some ⟨q, 0, none⟩)] w (RPost w q z N r (x0, s1))) (hloop : refF z g0 1 1 x0 s1 = some res) (hN : N < 100000) :
    Calls Tryz.prog 69 #[.pointer (some ⟨q, 0, none⟩)] w (RPost w q z N r res) := by
  have HL := hide (refF_loop1 hloop)
  clear hloop
  go_enter Tryz.func69, Tryz.ntmps69
  go_wp2_with fail
  refine hfirst.mono ?_
  rintro e w1 ⟨rfl, r1, h1, g1⟩
  dsimp only at h1
  clear hfirst
  have H1 := hide h1
  have G1 := hide g1
  rcases HL.out with ⟨hs1, hs2, rfl⟩ | ⟨gk', rfl, op, hop, b, t, hx, rfl⟩
  · have HS1 := hide hs1
    have HS2 := hide hs2
    clear hs1 hs2 HL h1 g1
    go_wp2_with fail
    refine (rsees_any H1.out (by omega) ⟨#[60]⟩).mono ?_
    rintro e w2 ⟨rfl, rfl⟩
    rw [HS1.out]
    go_wp2_with fail
    refine (rsees_any H1.out (by omega) ⟨#[61, 61]⟩).mono ?_
    rintro e w2 ⟨rfl, rfl⟩
    rw [HS2.out]
    go_wp2
    go_ret
    exact ⟨rfl, r1, H1.out, G1.out⟩
  · have hcons : ∃ k rest, s1.toks = k :: rest := by
      rcases hop with ⟨hh, -⟩ | ⟨-, hh, -⟩
      · exact (tail_cons hh).2.2
      · exact (tail_cons hh).2.2
    obtain ⟨k, rest, ht⟩ := hcons
    obtain ⟨M, rfl⟩ := toks_pos h1 ht
    have HT := hide ht
    have HX := hide hx
    clear ht hx HL h1 g1
    rcases hop with ⟨hs2, rfl⟩ | ⟨hs2, hs1, rfl⟩
    · have HS2 := hide hs2
      clear hs2
      cases hs1 : seesS s1 ⟨#[60]⟩
      all_goals
        have HS1 := hide hs1
        clear hs1
        go_wp2_with fail
        refine (rsees_any H1.out (by omega) ⟨#[60]⟩).mono ?_
        rintro e w2 ⟨rfl, rfl⟩
        rw [HS1.out]
        go_wp2_with fail
        refine (rsees_any H1.out (by omega) ⟨#[61, 61]⟩).mono ?_
        rintro e w2 ⟨rfl, rfl⟩
        rw [HS2.out]
        go_upto_region 9 with (fail)
        go_cut [] (fun wx => RAt wx q z M (tailS s1) r1 ∧ ParGo q r1 r1 w1 wx)
        case first =>
          obtain ⟨b, off, c, c0, f0, hc, hx⟩ := H1.out.head0 HT.out
          have hl : (((k :: rest).length : Nat) : Int) = (rest.length : Int) + 1 := by simp
          have h01 : (0 : Int) < (rest.length : Int) + 1 := by omega
          rcases hx with ⟨rfl, rfl, hx⟩ | ⟨hc1, hx⟩
          all_goals
            have HX2 := hide hx
            clear hx
            go_wp2_with fail
            go_meet
            exact ⟨HX2.out, rset_go H1.out 0 _⟩
        case rest =>
        obtain ⟨h1, g1⟩ := hcut
        have G2 := hide (G1.out.trans g1)
        have gb1 := g1.rbelow H1.out
        clear H1 HT G1
        go_wp2_with fail
        refine (hL gk' (by omega) (tailS s1) (b, t) wc M r1 HX.out h1 (by omega)).mono ?_
        rintro e w2 ⟨rfl, r2, h2, g2⟩
        dsimp only at h2
        have hsum2 := h2.sum
        have hlt2 := h2.lt
        have hb3 : Below w2.heap.size w2 (w2.alloc (Obj.cells #[.int .i64 x0, .int .i64 b] 3)) := (Below.refl _ _).alloc (Nat.le_refl _) _
        have H3 := hide ((h2.below hb3).le (Nat.le_succ M))
        have G3 := hide ((G2.out.trans g2).trans (ParGo.of_below hb3))
        have HX3 : Hid (Own (w2.alloc (Obj.cells #[.int .i64 x0, .int .i64 b] 3)) (q + 1) 3 1 (some ⟨w2.heap.size, 0, none⟩) 2 2 (ints [x0, b])) := hide (Own.of_lit w2 #[.int .i64 x0, .int .i64 b] 2 hlt2 (by unfold maxLen; omega) rfl)
        have HSZ : Hid (w.heap.size ≤ w2.heap.size) := (G2.out.trans g2).size
        clear HX h1 g1 g2 h2 hb3 gb1 G2
        go_wp2_with fail
        refine (rput_any H3.out (by omega) (by omega) ⟨11, 0, ByteArray.empty, [x0, b]⟩ (some ⟨w2.heap.size, 0, none⟩) 2 HX3.out (Nat.zero_le _)).mono ?_
        intro e w4 hp
        have hp' := hp.after G3.out (Nat.le_refl _) (fun g hg => by injection hg with hg; rw [← hg]; exact HSZ.out)
        clear hp
        have RES := hide hp'
        obtain ⟨rfl, _⟩ := hp'
        go_wp2
        go_ret
        exact RES.out
    · have HS1 := hide hs1
      have HS2 := hide hs2
      clear hs1 hs2
      go_wp2_with fail
      refine (rsees_any H1.out (by omega) ⟨#[60]⟩).mono ?_
      rintro e w2 ⟨rfl, rfl⟩
      rw [HS1.out]
      go_wp2_with fail
      refine (rsees_any H1.out (by omega) ⟨#[61, 61]⟩).mono ?_
      rintro e w2 ⟨rfl, rfl⟩
      rw [HS2.out]
      go_upto_region 9 with (fail)
      go_cut [] (fun wx => RAt wx q z M (tailS s1) r1 ∧ ParGo q r1 r1 w1 wx)
      case first =>
        obtain ⟨b, off, c, c0, f0, hc, hx⟩ := H1.out.head0 HT.out
        have hl : (((k :: rest).length : Nat) : Int) = (rest.length : Int) + 1 := by simp
        have h01 : (0 : Int) < (rest.length : Int) + 1 := by omega
        rcases hx with ⟨rfl, rfl, hx⟩ | ⟨hc1, hx⟩
        all_goals
          have HX2 := hide hx
          clear hx
          go_wp2_with fail
          go_meet
          exact ⟨HX2.out, rset_go H1.out 0 _⟩
      case rest =>
      obtain ⟨h1, g1⟩ := hcut
      have G2 := hide (G1.out.trans g1)
      have gb1 := g1.rbelow H1.out
      clear H1 HT G1
      go_wp2_with fail
      refine (hL gk' (by omega) (tailS s1) (b, t) wc M r1 HX.out h1 (by omega)).mono ?_
      rintro e w2 ⟨rfl, r2, h2, g2⟩
      dsimp only at h2
      have hsum2 := h2.sum
      have hlt2 := h2.lt
      have hb3 : Below w2.heap.size w2 (w2.alloc (Obj.cells #[.int .i64 x0, .int .i64 b] 3)) := (Below.refl _ _).alloc (Nat.le_refl _) _
      have H3 := hide ((h2.below hb3).le (Nat.le_succ M))
      have G3 := hide ((G2.out.trans g2).trans (ParGo.of_below hb3))
      have HX3 : Hid (Own (w2.alloc (Obj.cells #[.int .i64 x0, .int .i64 b] 3)) (q + 1) 3 1 (some ⟨w2.heap.size, 0, none⟩) 2 2 (ints [x0, b])) := hide (Own.of_lit w2 #[.int .i64 x0, .int .i64 b] 2 hlt2 (by unfold maxLen; omega) rfl)
      have HSZ : Hid (w.heap.size ≤ w2.heap.size) := (G2.out.trans g2).size
      clear HX h1 g1 g2 h2 hb3 gb1 G2
      go_wp2_with fail
      refine (rput_any H3.out (by omega) (by omega) ⟨10, 0, ByteArray.empty, [x0, b]⟩ (some ⟨w2.heap.size, 0, none⟩) 2 HX3.out (Nat.zero_le _)).mono ?_
      intro e w4 hp
      have hp' := hp.after G3.out (Nat.le_refl _) (fun g hg => by injection hg with hg; rw [← hg]; exact HSZ.out)
      clear hp
      have RES := hide hp'
      obtain ⟨rfl, _⟩ := hp'
      go_wp2
      go_ret
      exact RES.out

set_option maxHeartbeats 1000000 in
set_option maxRecDepth 20000 in
theorem rgprim_par {z : Int} {q F : Nat} (hL : RCall z q F 69 0 1) {f : Nat} (hf : f < F) {s : PSt} {a : Int} {t : PSt} {w : World} {N : Nat} {r : Fp} (hs : seesS s lpar = true)
    (hx : refF z f 0 1 0 (tailS s) = some (a, t)) (h : RAt w q z N s r) (hN : N < 100000) :
    Calls Tryz.prog 219 #[.pointer (some ⟨q, 0, none⟩)] w (RPost w q z N r (a, mustS z t rpar)) := by
  obtain ⟨-, -, k, rest, ht⟩ := tail_cons hs
  obtain ⟨M, rfl⟩ := toks_pos h ht
  have HS := hide hs
  have H := hide h
  have HT := hide ht
  have HX := hide hx
  clear hs hx ht h
  go_enter Tryz.func219, Tryz.ntmps219
  go_wp2_with fail
  refine (rsees_any H.out (by omega) lpar).mono ?_
  rintro e w1 ⟨rfl, rfl⟩
  rw [HS.out]
  go_upto_region 2 with (fail)
  go_cut [] (fun wx => RAt wx q z M (tailS s) r ∧ ParGo q r r w wx)
  case first =>
    obtain ⟨b, off, c, c0, f0, hc, hx⟩ := H.out.head0 HT.out
    have hl : (((k :: rest).length : Nat) : Int) = (rest.length : Int) + 1 := by simp
    have h01 : (0 : Int) < (rest.length : Int) + 1 := by omega
    rcases hx with ⟨rfl, rfl, hx⟩ | ⟨hc1, hx⟩
    all_goals
      have HX2 := hide hx
      clear hx
      go_wp2_with fail
      go_meet
      exact ⟨HX2.out, rset_go H.out 0 _⟩
  case rest =>
  obtain ⟨h1, g1⟩ := hcut
  have gb1 := g1.rbelow H.out
  clear H HT
  go_wp2_with fail
  refine (hL f hf (tailS s) (a, t) wc M r HX.out h1 (by omega)).mono ?_
  rintro e w2 ⟨rfl, r2, h2, g2⟩
  dsimp only at h2
  have G2 := hide (g1.trans g2)
  clear h1 g1 g2 HX gb1
  go_wp2_with fail
  refine (rmust_any h2 (by omega) rpar).mono ?_
  rintro e w3 ⟨rfl, h3, g3⟩
  have H3 := hide (h3.le (Nat.le_succ M))
  have G3 := hide (G2.out.trans g3)
  clear h2 h3 g3
  go_wp2
  go_ret
  exact ⟨rfl, r2, H3.out, G3.out⟩

set_option maxHeartbeats 1000000 in
set_option maxRecDepth 20000 in
theorem rprim_bad {z : Int} {q : Nat} {s : PSt} {w : World} {N : Nat} {r : Fp} (hs : seesS s lpar = false) (hb : s.err ≠ 0 ∨ (s.err = 0 ∧ ∀ k, s.toks[0]? = some k → k.kind ≠ 2 ∧ k.kind ≠ 1)) (h : RAt w q z N s r) (hN : N < 100000) :
    Calls Tryz.prog 219 #[.pointer (some ⟨q, 0, none⟩)] w (RPost w q z N r (0, failS z s 5)) := by
  have HS := hide hs
  have H := hide h
  have hsum := h.sum
  have HF := hide (rfail_any h (by omega) 5)
  clear hs
  obtain ⟨A, c, A2, c2, h0, hrd, hcap, _, _⟩ := h.ex
  have c0 := h0.cell 0
  have c2 := h0.cell 2
  change w.cell? ⟨q, 0, none⟩ = some (.slice A s.toks.length c) at c0
  change w.cell? ⟨q, 2, none⟩ = some (.int .i64 s.err) at c2
  clear h0 hcap h
  rcases hb with he | ⟨he, hk⟩
  · have he' : (s.err != 0) = true := bne_iff_ne.2 he
    clear he hrd
    go_enter Tryz.func219, Tryz.ntmps219
    go_wp2_with fail
    refine (rsees_any H.out (by omega) lpar).mono ?_
    rintro e w1 ⟨rfl, rfl⟩
    rw [HS.out]
    go_wp2_with fail
    refine HF.out.mono ?_
    rintro e w3 ⟨rfl, h3, g3⟩
    have H3 := hide h3
    have G3 := hide g3
    clear h3 g3
    go_wp2
    go_ret
    exact ⟨rfl, r, H3.out, G3.out⟩
  · rw [he] at c2
    obtain ⟨toks, htk⟩ : ∃ toks, s.toks = toks := ⟨_, rfl⟩
    rw [htk] at c0 hrd hk
    have hz : ((0 : Int) != 0) = false := rfl
    cases toks with
    | nil =>
      clear hrd hk htk
      go_enter Tryz.func219, Tryz.ntmps219
      go_wp2_with fail
      refine (rsees_any H.out (by omega) lpar).mono ?_
      rintro e w1 ⟨rfl, rfl⟩
      rw [HS.out]
      go_wp2_with fail
      refine HF.out.mono ?_
      rintro e w3 ⟨rfl, h3, g3⟩
      have H3 := hide h3
      have G3 := hide g3
      clear h3 g3
      go_wp2
      go_ret
      exact ⟨rfl, r, H3.out, G3.out⟩
    | cons k rest =>
      obtain ⟨hk2, hk1⟩ := hk k rfl
      obtain ⟨b, off, rfl, hb, k0, _, _, _⟩ := hrd.tok (i := 0) (t := k) rfl
      rw [Nat.zero_mul, Nat.add_zero] at k0
      have hll : (((k :: rest).length : Nat) : Int) = (rest.length : Int) + 1 := by simp
      have hl0 : ((rest.length : Int) + 1 == 0) = false := beq_eq_false_iff_ne.2 (by omega)
      have hl01 : (0 : Int) < (rest.length : Int) + 1 := by omega
      have hk2' : (k.kind != 2) = true := bne_iff_ne.2 hk2
      have hk1' : (k.kind != 1) = true := bne_iff_ne.2 hk1
      clear hrd hk2 hk1 htk hk
      go_enter Tryz.func219, Tryz.ntmps219
      go_wp2_with fail
      refine (rsees_any H.out (by omega) lpar).mono ?_
      rintro e w1 ⟨rfl, rfl⟩
      rw [HS.out]
      go_wp2_with fail
      refine HF.out.mono ?_
      rintro e w3 ⟨rfl, h3, g3⟩
      have H3 := hide h3
      have G3 := hide g3
      clear h3 g3
      go_wp2
      go_ret
      exact ⟨rfl, r, H3.out, G3.out⟩

/-- The token that is kept in a block of its own. -/
theorem tok_blk {w : World} {k : Tok} : Hid (Below w.heap.size w (w.alloc (Obj.cells #[.int .i64 k.kind, .string k.text, .int .i64 k.n, .int .i64 k.off] 166))) ∧
    Hid (Blk (w.alloc (Obj.cells #[.int .i64 k.kind, .string k.text, .int .i64 k.n, .int .i64 k.off] 166)) w.heap.size 166 #[.int .i64 k.kind, .string k.text, .int .i64 k.n, .int .i64 k.off]) :=
  ⟨hide ((Below.refl _ _).alloc (Nat.le_refl _) _), hide (Blk.new _ _ _)⟩

set_option maxHeartbeats 2000000 in
set_option maxRecDepth 20000 in
theorem rgprim_num {z : Int} {q : Nat} {s : PSt} {k : Tok} {rest : List Tok} {w : World} {N : Nat} {r : Fp} (hs : seesS s lpar = false) (he : s.err = 0) (ht : s.toks = k :: rest) (hk : k.kind = 2)
    (h : RAt w q z N s r) (hN : N < 100000) {res : Int × PSt} (hres : (if 1000000 < k.n then (0, failS z s 9) else putS (tailS s) ⟨1, k.n, ByteArray.empty, []⟩) = res) :
    Calls Tryz.prog 219 #[.pointer (some ⟨q, 0, none⟩)] w (RPost w q z N r res) := by
  obtain ⟨M, rfl⟩ := toks_pos h ht
  have HS := hide hs
  have H := hide h
  have HT := hide ht
  have HR := hide hres
  have hsum := h.sum
  have hlt := h.lt
  clear hs hres
  obtain ⟨A, c, A2, c2, h0, hrd, hcap, _, _⟩ := h.ex
  have c0 := h0.cell 0
  have c2 := h0.cell 2
  rw [ht] at hrd c0
  change w.cell? ⟨q, 0, none⟩ = some (.slice A (k :: rest).length c) at c0
  change w.cell? ⟨q, 2, none⟩ = some (.int .i64 s.err) at c2
  rw [he] at c2
  have hz : ((0 : Int) != 0) = false := rfl
  obtain ⟨b, off, rfl, hb, k0, k1, k2, k3⟩ := hrd.tok (i := 0) (t := k) rfl
  rw [Nat.zero_mul, Nat.add_zero] at k0 k1 k2 k3
  obtain ⟨HB1, HK1⟩ := tok_blk (w := w) (k := k)
  rw [hk] at k0 HB1 HK1
  have hll : (((k :: rest).length : Nat) : Int) = (rest.length : Int) + 1 := by simp
  have hl0 : ((rest.length : Int) + 1 == 0) = false := beq_eq_false_iff_ne.2 (by omega)
  have hl01 : (0 : Int) < (rest.length : Int) + 1 := by omega
  have e2 : ((2 : Int) != 2) = false := rfl
  clear h0 hrd hcap h ht he hk
  go_enter Tryz.func219, Tryz.ntmps219
  go_wp2_with fail
  refine (rsees_any H.out (by omega) lpar).mono ?_
  rintro e w1 ⟨rfl, rfl⟩
  rw [HS.out]
  go_upto_region 10 with (fail)
  generalize w.alloc (Obj.cells #[.int .i64 2, .string k.text, .int .i64 k.n, .int .i64 k.off] 166) = w2 at HB1 HK1 ⊢
  obtain ⟨t0, t1, t2, t3, _, _, _, _⟩ := blk4 HK1.out
  have H2 := hide (H.out.below HB1.out)
  have G1 := hide (ParGo.of_below (q := q) (r := r) HB1.out)
  clear c0 c2 k0 k1 k2 k3
  by_cases hn : 1000000 < k.n
  · have hn' : decide (1000000 < k.n) = true := decide_eq_true hn
    go_wp2_with fail
    refine (rfail_any H2.out (by omega) 9).mono ?_
    rintro e w3 ⟨rfl, h3, g3⟩
    have H3 := hide h3
    have G3 := hide (G1.out.trans g3)
    obtain rfl : (0, failS z s 9) = res := by rw [← HR.out, if_pos hn]
    clear h3 g3
    go_wp2
    go_ret
    exact ⟨rfl, r, H3.out, G3.out⟩
  · have hn' : decide (1000000 < k.n) = false := decide_eq_false hn
    go_upto_region 14 with (fail)
    go_cut [] (fun wx => RAt wx q z M (tailS s) r ∧ ParGo q r r w2 wx)
    case first =>
      obtain ⟨b, off, c, c0, f0, hc, hx⟩ := H2.out.head0 HT.out
      have hl : (((k :: rest).length : Nat) : Int) = (rest.length : Int) + 1 := by simp
      have h01 : (0 : Int) < (rest.length : Int) + 1 := by omega
      rcases hx with ⟨rfl, rfl, hx⟩ | ⟨hc1, hx⟩
      all_goals
        have HX2 := hide hx
        clear hx
        go_wp2_with fail
        go_meet
        exact ⟨HX2.out, rset_go H2.out 0 _⟩
    case rest =>
    obtain ⟨h1, g1⟩ := hcut
    have t2' : wc.cell? ⟨w.heap.size, 2, none⟩ = some (.int .i64 k.n) := by
      have hq : w.heap.size ≠ q := by omega
      have hlt2 := HK1.out.lt
      have hkeep : wc.heap[w.heap.size]? = w2.heap[w.heap.size]? := g1.keep w.heap.size hlt2 hq (fun e => by have := (H.out.rowlt _ e.symm).2; omega)
      exact (show wc.cell? ⟨w.heap.size, 2, none⟩ = w2.cell? ⟨w.heap.size, 2, none⟩ from World.cell?_of_block hkeep).trans t2
    have hsum1 := h1.sum
    have H3 := hide (h1.le (Nat.le_succ M))
    have G3 := hide (G1.out.trans g1)
    have HT2 : Hid ((tailS s).out = s.out) := hide rfl
    obtain rfl : putS (tailS s) ⟨1, k.n, ByteArray.empty, []⟩ = res := by rw [← HR.out, if_neg hn]
    clear h1 g1 t0 t1 t2 t3 H2 HK1 HB1
    go_wp2_with fail
    refine (rput_any H3.out (by omega) (by omega) ⟨1, k.n, ByteArray.empty, []⟩ none 0 (Own.nil _ _ _ _) (Nat.zero_le _)).mono ?_
    intro e w7 hp
    have hp' := hp.after G3.out (Nat.le_refl _) (fun g hg => by cases hg)
    clear hp
    have RES := hide hp'
    obtain ⟨rfl, _⟩ := hp'
    go_wp2
    go_ret
    exact RES.out
end Go.Proofs.YtkomgidcgepknaaGreatDoor

set_option linter.unusedVariables false
set_option linter.unusedSimpArgs false
namespace Go.Proofs.YtkomgidcgepknaaGreatDoor
open Go.RowKit Go.Deep Go.Maps

theorem rname_put {z : Int} {q : Nat} {s : PSt} {k : Tok} {w w2 wc : World} {M : Nat} {r : Fp} (hk : Blk w2 w.heap.size 166 #[.int .i64 1, .string k.text, .int .i64 k.n, .int .i64 k.off])
    (hlt : q < w.heap.size) (hrow : ∀ g, r.row = some g → q < g ∧ g < w.heap.size) (g1 : ParGo q r r w2 wc) : wc.cell? ⟨w.heap.size, 1, none⟩ = some (.string k.text) := by
  have t1 := hk.cell 1
  have hlt2 := hk.lt
  have hq : w.heap.size ≠ q := by omega
  have hkeep : wc.heap[w.heap.size]? = w2.heap[w.heap.size]? := g1.keep w.heap.size hlt2 hq (fun e => by have := (hrow _ e.symm).2; omega)
  exact (show wc.cell? ⟨w.heap.size, 1, none⟩ = w2.cell? ⟨w.heap.size, 1, none⟩ from World.cell?_of_block hkeep).trans t1

set_option maxHeartbeats 4000000 in
set_option maxRecDepth 20000 in
theorem rgprim_name {z : Int} {q : Nat} {s : PSt} {k : Tok} {rest : List Tok} {w : World} {N : Nat} {r : Fp} (hs : seesS s lpar = false) (he : s.err = 0) (ht : s.toks = k :: rest) (hk : k.kind = 1) (hfo : funcOp k.text = 0)
    (h : RAt w q z N s r) (hN : N < 100000) {res : Int × PSt} (hres : (if seesL s.toks 1 lpar = true then (0, failS z s 7) else putS (tailS s) ⟨2, 0, k.text, []⟩) = res) :
    Calls Tryz.prog 219 #[.pointer (some ⟨q, 0, none⟩)] w (RPost w q z N r res) := by
  rw [ht] at hres
  have HR := hide hres
  clear hres
  obtain ⟨M, rfl⟩ := toks_pos h ht
  have HS := hide hs
  have H := hide h
  have HT := hide ht
  have hsum := h.sum
  have hlt := h.lt
  clear hs
  obtain ⟨A, c, A2, c2, h0, hrd, hcap, _, _⟩ := h.ex
  have c0 := h0.cell 0
  have c2 := h0.cell 2
  rw [ht] at hrd c0
  change w.cell? ⟨q, 0, none⟩ = some (.slice A (k :: rest).length c) at c0
  change w.cell? ⟨q, 2, none⟩ = some (.int .i64 s.err) at c2
  rw [he] at c2
  have hz : ((0 : Int) != 0) = false := rfl
  have HRD := hide hrd
  obtain ⟨b, off, rfl, hb, k0, k1, k2, k3⟩ := hrd.tok (i := 0) (t := k) rfl
  rw [Nat.zero_mul, Nat.add_zero] at k0 k1 k2 k3
  obtain ⟨HB1, HK1⟩ := tok_blk (w := w) (k := k)
  rw [hk] at k0 HB1 HK1
  have hll : (((k :: rest).length : Nat) : Int) = (rest.length : Int) + 1 := by simp
  have hl0 : ((rest.length : Int) + 1 == 0) = false := beq_eq_false_iff_ne.2 (by omega)
  have hl01 : (0 : Int) < (rest.length : Int) + 1 := by omega
  have e1 : ((1 : Int) != 2) = true := rfl
  have e2 : ((1 : Int) != 1) = false := rfl
  have HTX := hide (h.txt k (by rw [ht]; exact List.mem_cons_self))
  have HRL := hide h.rowlt
  have HF : Hid (∀ w, Calls Tryz.prog 138 #[.string k.text] w fun e w' => e = .returned (.bool false) ∧ w = w') := hide (fun w => by
    have := refFunction_any k.text w
    rw [hfo] at this
    exact this)
  clear h0 hrd hcap h ht he hk hfo
  go_enter Tryz.func219, Tryz.ntmps219
  go_wp2_with fail
  refine (rsees_any H.out (by omega) lpar).mono ?_
  rintro e w1 ⟨rfl, rfl⟩
  rw [HS.out]
  go_upto_region 10 with (fail)
  generalize w.alloc (Obj.cells #[.int .i64 1, .string k.text, .int .i64 k.n, .int .i64 k.off] 166) = w2 at HB1 HK1 ⊢
  obtain ⟨t0, t1, t2, t3, _, _, _, _⟩ := blk4 HK1.out
  have H2 := hide (H.out.below HB1.out)
  have G1 := hide (ParGo.of_below (q := q) (r := r) HB1.out)
  have e3 : ((1 : Int) == 2) = false := rfl
  clear c2 k0 k1 k2 k3
  have hb2 : w.heap.size ≤ w2.heap.size := HB1.out.size
  have hbl : b < w.heap.size := Nat.lt_trans hb hlt
  have c0' : w2.cell? ⟨q, 0, none⟩ = some (.slice (some ⟨b, off, none⟩) (k :: rest).length c) := (HB1.out.cell (p := ⟨q, 0, none⟩) hlt).trans c0
  have FAIL : ∀ (wx : World), wx = w2 → True := fun _ _ => trivial
  have hcase : (rest = [] ∧ seesL (k :: rest) 1 lpar = false) ∨ (∃ k2 l2, rest = k2 :: l2 ∧ seesL (k :: rest) 1 lpar = (k2.kind == 4 && decide (k2.text = lpar))) := by
    cases rest with
    | nil => exact .inl ⟨rfl, rfl⟩
    | cons k2 l2 => exact .inr ⟨k2, l2, rfl, rfl⟩
  go_wp2_with fail
  refine (HF.out w2).mono ?_
  rintro e w3 ⟨rfl, rfl⟩
  rcases hcase with ⟨rfl, hp⟩ | ⟨k2, l2, rfl, hp⟩
  · have hres := HR.out
    rw [hp, if_neg (by decide)] at hres
    subst hres
    clear HR hp c0 HRD
    go_upto_region 20 with (fail)
    go_cut [] (fun wx => RAt wx q z M (tailS s) r ∧ ParGo q r r w2 wx)
    case first =>
      clear c0'
      obtain ⟨b2, off2, cc, c0, f0, hc, hx⟩ := H2.out.head0 HT.out
      have hl : ((([k] : List Tok).length : Nat) : Int) = 1 := by simp
      have h01 : (0 : Int) < 1 := by decide
      rcases hx with ⟨rfl, -, hx⟩ | ⟨hc1, hx⟩
      all_goals
        have HX2 := hide hx
        clear hx
        go_wp2_with fail
        go_meet
        exact ⟨HX2.out, rset_go H2.out 0 _⟩
    case rest =>
    obtain ⟨h1, g1⟩ := hcut
    have t1' := rname_put (M := M) (s := s) (z := z) HK1.out hlt HRL.out g1
    have hsum1 := h1.sum
    have H3 := hide (h1.le (Nat.le_succ M))
    have G3 := hide (G1.out.trans g1)
    clear h1 g1 t0 t1 t2 t3 H2 HK1 HB1 c0'
    go_wp2_with fail
    refine (rput_any H3.out (by omega) (by omega) ⟨2, 0, k.text, []⟩ none 0 (Own.nil _ _ _ _) HTX.out).mono ?_
    intro e w7 hp
    have hp' := hp.after G3.out (Nat.le_refl _) (fun g hg => by cases hg)
    clear hp
    have RES := hide hp'
    obtain ⟨rfl, _⟩ := hp'
    go_wp2
    go_ret
    exact RES.out
  · obtain ⟨b', off', hbo, _, j0, j1, _, _⟩ := HRD.out.tok (i := 1) (t := k2) rfl
    injection hbo with hbo
    injection hbo with hb' ho'
    subst hb' ho'
    rw [Nat.one_mul] at j0 j1
    have hll2 : (((k :: k2 :: l2).length : Nat) : Int) = (l2.length : Int) + 2 := by simp; omega
    have hl02 : (1 : Int) < (l2.length : Int) + 2 := by omega
    have j0' : w2.cell? ⟨b, off + 4, none⟩ = some (.int .i64 k2.kind) := (HB1.out.cell (p := ⟨b, off + 4, none⟩) hbl).trans j0
    have j1' : w2.cell? ⟨b, off + 4 + 1, none⟩ = some (.string k2.text) := (HB1.out.cell (p := ⟨b, off + 4 + 1, none⟩) hbl).trans j1
    clear hll hl0 hl01 c0 HRD j0 j1
    by_cases hk4 : k2.kind = 4
    · by_cases hkt : k2.text = lpar
      · rw [hk4, hkt] at hp
        rw [hk4] at j0'
        rw [hkt] at j1'
        have hres := HR.out
        rw [hp, if_pos (by rw [decide_eq_true rfl]; rfl)] at hres
        subst hres
        clear HR hp hk4 hkt
        unfold lpar at j1'
        go_wp2_with fail
        refine (rfail_any H2.out (by omega) 7).mono ?_
        rintro e w3 ⟨rfl, h3, g3⟩
        have H3 := hide h3
        have G3 := hide (G1.out.trans g3)
        clear h3 g3
        go_wp2
        go_ret
        exact ⟨rfl, r, H3.out, G3.out⟩
      · rw [hk4, decide_eq_false hkt] at hp
        rw [hk4] at j0'
        have hres := HR.out
        rw [hp, if_neg (by decide)] at hres
        subst hres
        have hkt' : (k2.text.toList == [40]) = false := beq_eq_false_iff_ne.2 (fun hh => hkt ((toList_is _ _).1 hh))
        clear HR hp hk4 hkt
        go_upto_region 20 with (fail)
        go_cut [] (fun wx => RAt wx q z M (tailS s) r ∧ ParGo q r r w2 wx)
        case first =>
          clear c0' j0' j1'
          obtain ⟨b2, off2, cc, c0, f0, hc, hx⟩ := H2.out.head0 HT.out
          have hl : (((k :: k2 :: l2).length : Nat) : Int) = (l2.length : Int) + 2 := by simp; omega
          have h01 : (0 : Int) < (l2.length : Int) + 2 := by omega
          have h02 : (1 : Int) ≤ (l2.length : Int) + 2 := by omega
          rcases hx with ⟨rfl, hnil, hx⟩ | ⟨hc1, hx⟩
          · cases hnil
          all_goals
            have HX2 := hide hx
            clear hx
            go_wp2_with fail
            go_meet
            exact ⟨HX2.out, rset_go H2.out 0 _⟩
        case rest =>
        obtain ⟨h1, g1⟩ := hcut
        have t1' := rname_put (M := M) (s := s) (z := z) HK1.out hlt HRL.out g1
        have hsum1 := h1.sum
        have H3 := hide (h1.le (Nat.le_succ M))
        have G3 := hide (G1.out.trans g1)
        clear h1 g1 t0 t1 t2 t3 H2 HK1 HB1 c0' j0' j1'
        go_wp2_with fail
        refine (rput_any H3.out (by omega) (by omega) ⟨2, 0, k.text, []⟩ none 0 (Own.nil _ _ _ _) HTX.out).mono ?_
        intro e w7 hp
        have hp' := hp.after G3.out (Nat.le_refl _) (fun g hg => by cases hg)
        clear hp
        have RES := hide hp'
        obtain ⟨rfl, _⟩ := hp'
        go_wp2
        go_ret
        exact RES.out
    · have hk4' : (k2.kind == 4) = false := beq_eq_false_iff_ne.2 hk4
      rw [hk4', Bool.false_and] at hp
      have hres := HR.out
      rw [hp, if_neg (by decide)] at hres
      subst hres
      clear HR hp hk4
      go_upto_region 20 with (fail)
      go_cut [] (fun wx => RAt wx q z M (tailS s) r ∧ ParGo q r r w2 wx)
      case first =>
        clear c0' j0' j1'
        obtain ⟨b2, off2, cc, c0, f0, hc, hx⟩ := H2.out.head0 HT.out
        have hl : (((k :: k2 :: l2).length : Nat) : Int) = (l2.length : Int) + 2 := by simp; omega
        have h01 : (0 : Int) < (l2.length : Int) + 2 := by omega
        have h02 : (1 : Int) ≤ (l2.length : Int) + 2 := by omega
        rcases hx with ⟨rfl, hnil, hx⟩ | ⟨hc1, hx⟩
        · cases hnil
        all_goals
          have HX2 := hide hx
          clear hx
          go_wp2_with fail
          go_meet
          exact ⟨HX2.out, rset_go H2.out 0 _⟩
      case rest =>
      obtain ⟨h1, g1⟩ := hcut
      have t1' := rname_put (M := M) (s := s) (z := z) HK1.out hlt HRL.out g1
      have hsum1 := h1.sum
      have H3 := hide (h1.le (Nat.le_succ M))
      have G3 := hide (G1.out.trans g1)
      clear h1 g1 t0 t1 t2 t3 H2 HK1 HB1 c0' j0' j1'
      go_wp2_with fail
      refine (rput_any H3.out (by omega) (by omega) ⟨2, 0, k.text, []⟩ none 0 (Own.nil _ _ _ _) HTX.out).mono ?_
      intro e w7 hp
      have hp' := hp.after G3.out (Nat.le_refl _) (fun g hg => by cases hg)
      clear hp
      have RES := hide hp'
      obtain ⟨rfl, _⟩ := hp'
      go_wp2
      go_ret
      exact RES.out
end Go.Proofs.YtkomgidcgepknaaGreatDoor

set_option linter.unusedVariables false
set_option linter.unusedSimpArgs false
namespace Go.Proofs.YtkomgidcgepknaaGreatDoor
open Go.RowKit Go.Deep Go.Maps

/-- 's = append(s, x..)': with what has become of the row. -/
theorem wpList_appR {P : Program} {w : World} {ops : Array Oper} {rest : List Oper} {o : Oper} {a : Act} {Q : Exit → Act → World → Prop} (hgd : o.guard = none) (s x : Operand) (t : TypeId)
    (ho : o.op = .call { callee := .builtin .append, args := #[s, x], argTypes := #[t, t] })
    (base : Nat) (e : TypeId) (z : Value) (size bytes : Nat) (ht : P.underlying t = some (.slice e)) (hi : (P.info? e).map (fun i => (i.zero, i.size, i.bytes)) = some (some z, size, bytes))
    (hzs : z.cells.size = size) (hsz : 0 < size)
    (A : Option Addr) (n c : Nat) (xs : List Value) (hs : a.eval s = .slice A n c) (hown : Own w base e size A n c xs)
    (B : Nat) (A' : Option Addr) (m c' : Nat) (news : List Value) (hx : a.eval x = .slice A' m c') (hr : Reads w B size A' m news) (h1 : ∀ u ∈ news, u.oneCell' = true)
    (h63 : n + m ≤ maxLen) (hbytes : (n + m) * bytes ≤ 140737488355328) (hbase : base ≤ w.heap.size)
    (h : ∀ A2 c2 w', Own w' base e size A2 (n + m) c2 (xs ++ news) → w.grownBy w' (Value.slice A n c).ownBlock → ((Value.slice A2 (n + m) c2).ownBlock = (Value.slice A n c).ownBlock ∨ (Value.slice A2 (n + m) c2).ownBlock = some w.heap.size) → wpList P ops Q rest (a.put o.dst (.slice A2 (n + m) c2)) w') : wpList P ops Q (o :: rest) a w := by
  obtain ⟨i0, hi0, hz, hz1, hz2⟩ := info_parts hi
  refine wpList_append_any w hgd s x t ho base e i0 z size bytes ht hi0 hz hz1 hz2 hzs hsz _ n xs hs hown B A' m c' news hx hr h1 h63 hbytes hbase (fun v' w' hown' hg hat => ?_)
  have hv : ∃ A2 c2, v' = .slice A2 (n + m) c2 := by
    rcases hown'.2 with ⟨rfl, h0⟩ | ⟨g, cap, cur, rfl, _⟩
    · exact ⟨none, 0, by rw [h0]⟩
    · exact ⟨_, cap, rfl⟩
  obtain ⟨A2, c2, rfl⟩ := hv
  exact h A2 c2 w' hown' hg hat

/-- A function's operands so far, and the parser. -/
structure KidA (W w : World) (q : Nat) (z : Int) (M : Nat) (kids : List Int) (s : PSt) (r r1 : Fp) (A : Option Addr) (c : Nat) : Prop where
  par : RAt w q z M s r1
  go : ParGo q r r1 W w
  own : Own w W.heap.size 3 1 A kids.length c (ints kids)
  n3 : ∀ g, (Value.slice A kids.length c).ownBlock = some g → ¬ r1.kid g
  qW : q < W.heap.size
section
variable {W w w' : World} {q : Nat} {z : Int} {M M' : Nat} {kids : List Int} {s s' : PSt} {r r1 r2 : Fp} {A : Option Addr} {c : Nat}
theorem KidA.par_ (h : KidA W w q z M kids s r r1 A c) (hp : RAt w' q z M' s' r2) (hg : ParGo q r1 r2 w w') : KidA W w' q z M' kids s' r r2 A c := by
  have hq := h.qW
  refine ⟨hp, h.go.trans hg, ?_, ?_, hq⟩
  · exact h.own.keepC (fun g hgb hr => hg.keep g (World.ownsRow.lt h.own g hr).2 (by omega) (fun e => h.par.ne_int h.own hr e.symm))
  · intro g hr hk
    have := (World.ownsRow.lt h.own g hr).2
    rcases hg.kid g hk with e | e
    · exact h.n3 g hr e
    · omega
theorem KidA.below (h : KidA W w q z M kids s r r1 A c) (hb : Below w.heap.size w w') : KidA W w' q z M kids s r r1 A c := h.par_ (h.par.below hb) (ParGo.of_below hb)
/-- Behind an operand's append. -/
theorem KidA.snoc (h : KidA W w q z M kids s r r1 A c) {a : Int} {A5 : Option Addr} {c5 : Nat} {w5 : World} (hown : Own w5 W.heap.size 3 1 A5 (kids.length + 1) c5 (ints kids ++ [.int .i64 a])) (hg : w.grownBy w5 (Value.slice A kids.length c).ownBlock)
    (hat : (Value.slice A5 (kids.length + 1) c5).ownBlock = (Value.slice A kids.length c).ownBlock ∨ (Value.slice A5 (kids.length + 1) c5).ownBlock = some w.heap.size) :
    KidA W w5 q z M (kids ++ [a]) s r r1 A5 c5 := by
  have hq := h.qW
  have hWw := h.go.size
  refine ⟨?_, ?_, ?_, ?_, hq⟩
  · refine h.par.keepX hg.size (fun k hk hx => hg.block k hk (fun e => ?_))
    rcases hx with hx | hx | hx
    · have := (World.ownsRow.lt h.own k e.symm).1
      omega
    · exact h.par.ne_int h.own e.symm hx
    · exact h.n3 k e.symm hx
  · refine h.go.then_ ⟨hg.os, hg.tape, hg.output, hg.size, fun k hk => hg.block k (by omega) (fun e => ?_)⟩
    have := (World.ownsRow.lt h.own k e.symm).1
    omega
  · rw [List.length_append, ints_append, ints_one]
    exact hown
  · intro g hr hk
    rw [List.length_append] at hr
    rcases hat with e | e
    · exact h.n3 g (e.symm.trans hr) hk
    · have hr' : some w.heap.size = some g := e.symm.trans hr
      injection hr' with hr'
      have := h.par.kidlt g hk
      omega
/-- The token that was kept stays. -/
theorem KidA.tok (h : KidA W w q z M kids s r r1 A c) {g : Nat} {t : TypeId} {cs : Array Value} (hb : Blk W g t cs) (hq : g ≠ q) (hr : ∀ k, r.row = some k → k < g) : Blk w g t cs :=
  (h.go.keep g hb.lt hq (fun e => by have := hr g e.symm; omega)).trans hb
end
theorem fun_text {t : ByteArray} (h : funcOp t ≠ 0) : (t = ⟨#[109, 105, 110]⟩ ∧ funcOp t = 7) ∨ (t = ⟨#[109, 97, 120]⟩ ∧ funcOp t = 8) ∨ (t = ⟨#[105, 102]⟩ ∧ funcOp t = 9) := by
  by_cases h1 : t = ⟨#[109, 105, 110]⟩
  · subst h1; exact .inl ⟨rfl, by decide⟩
  · by_cases h2 : t = ⟨#[109, 97, 120]⟩
    · subst h2; exact .inr (.inl ⟨rfl, by decide⟩)
    · by_cases h3 : t = ⟨#[105, 102]⟩
      · subst h3; exact .inr (.inr ⟨rfl, by decide⟩)
      · exact absurd (by unfold funcOp; rw [if_neg h1, if_neg h2, if_neg h3]) h

set_option maxHeartbeats 4000000 in
set_option maxRecDepth 20000 in
theorem rprim_fun {z : Int} {q F : Nat} (hL : RCall z q F 69 0 1) {f : Nat} (hf : f < F) {s : PSt} {k : Tok} {rest : List Tok} {w : World} {N : Nat} {r : Fp} (hs : seesS s lpar = false) (he : s.err = 0) (ht : s.toks = k :: rest) (hk : k.kind = 1) (hfo : funcOp k.text ≠ 0)
    (h : RAt w q z N s r) (hN : N < 100000) {res : Int × PSt}
    (hres : (thenS (refF z f 0 1 0 (mustS z (tailS s) lpar)) fun x t1 => thenS (refF z f 0 1 0 (mustS z t1 comma)) fun y t2 =>
            if funcOp k.text = 9 then thenS (refF z f 0 1 0 (mustS z t2 comma)) fun v t3 => some (putS (mustS z t3 rpar) ⟨9, 0, ByteArray.empty, [x, y, v]⟩)
            else some (putS (mustS z t2 rpar) ⟨funcOp k.text, 0, ByteArray.empty, [x, y]⟩)) = some res) :
    Calls Tryz.prog 219 #[.pointer (some ⟨q, 0, none⟩)] w (RPost w q z N r res) := by
  obtain ⟨x, t1, hx1, hres⟩ := thenS_some hres
  obtain ⟨y, t2, hx2, hres⟩ := thenS_some hres
  have HX1 := hide hx1
  have HX2 := hide hx2
  have HR := hide hres
  have HFT := hide (fun_text hfo)
  clear hx1 hx2 hres
  obtain ⟨M, rfl⟩ := toks_pos h ht
  have HS := hide hs
  have H := hide h
  have HT := hide ht
  have hsum := h.sum
  have hlt := h.lt
  clear hs
  obtain ⟨A, c, A2, c2, h0, hrd, hcap, _, _⟩ := h.ex
  have c0 := h0.cell 0
  have c2 := h0.cell 2
  rw [ht] at hrd c0
  change w.cell? ⟨q, 0, none⟩ = some (.slice A (k :: rest).length c) at c0
  change w.cell? ⟨q, 2, none⟩ = some (.int .i64 s.err) at c2
  rw [he] at c2
  have hz : ((0 : Int) != 0) = false := rfl
  have HRD := hide hrd
  obtain ⟨b, off, rfl, hb, k0, k1, k2, k3⟩ := hrd.tok (i := 0) (t := k) rfl
  rw [Nat.zero_mul, Nat.add_zero] at k0 k1 k2 k3
  obtain ⟨HB1, HK1⟩ := tok_blk (w := w) (k := k)
  rw [hk] at k0 HB1 HK1
  have hll : (((k :: rest).length : Nat) : Int) = (rest.length : Int) + 1 := by simp
  have hl0 : ((rest.length : Int) + 1 == 0) = false := beq_eq_false_iff_ne.2 (by omega)
  have hl01 : (0 : Int) < (rest.length : Int) + 1 := by omega
  have e1 : ((1 : Int) != 2) = true := rfl
  have e2 : ((1 : Int) != 1) = false := rfl
  have HTX := hide (h.txt k (by rw [ht]; exact List.mem_cons_self))
  have HRL := hide h.rowlt
  have HF : Hid (∀ w, Calls Tryz.prog 138 #[.string k.text] w fun e w' => e = .returned (.bool true) ∧ w = w') := hide (fun w => by
    have := refFunction_any k.text w
    rw [decide_eq_true hfo] at this
    exact this)
  clear h0 hrd hcap h ht he hk hfo HRD
  go_enter Tryz.func219, Tryz.ntmps219
  go_wp2_with fail
  refine (rsees_any H.out (by omega) lpar).mono ?_
  rintro e w1 ⟨rfl, rfl⟩
  rw [HS.out]
  go_upto_region 10 with (fail)
  generalize w.alloc (Obj.cells #[.int .i64 1, .string k.text, .int .i64 k.n, .int .i64 k.off] 166) = w2 at HB1 HK1 ⊢
  obtain ⟨t0, t1, t2, t3, _, _, _, _⟩ := blk4 HK1.out
  have H2 := hide (H.out.below HB1.out)
  have G1 := hide (ParGo.of_below (q := q) (r := r) HB1.out)
  have e3 : ((1 : Int) == 2) = false := rfl
  clear c0 c2 k0 k1 k2 k3
  have hb2 : w.heap.size < w2.heap.size := HK1.out.lt
  go_wp2_with fail
  refine (HF.out w2).mono ?_
  rintro e w3 ⟨rfl, rfl⟩
  go_upto_region 22 with (fail)
  go_cut [] (fun wx => RAt wx q z M (tailS s) r ∧ ParGo q r r w2 wx)
  case first =>
    obtain ⟨b, off, c, c0, f0, hc, hx⟩ := H2.out.head0 HT.out
    have hl : (((k :: rest).length : Nat) : Int) = (rest.length : Int) + 1 := by simp
    have h01 : (0 : Int) < (rest.length : Int) + 1 := by omega
    rcases hx with ⟨rfl, rfl, hx⟩ | ⟨hc1, hx⟩
    all_goals
      have HX2 := hide hx
      clear hx
      go_wp2_with fail
      go_meet
      exact ⟨HX2.out, rset_go H2.out 0 _⟩
  case rest =>
  obtain ⟨h1, g1⟩ := hcut
  have H3 := hide h1
  have G3 := hide g1
  clear h1 g1 t0 t1 t2 t3 H2
  go_wp2_with fail
  refine (rmust_any H3.out (by omega) lpar).mono ?_
  rintro e w3 ⟨rfl, h4, g4⟩
  have H4 := hide h4
  have G4 := hide (G3.out.trans g4)
  clear h4 g4 H3 G3
  go_wp2_with fail
  refine (hL f hf _ (x, t1) w3 M r HX1.out H4.out (by omega)).mono ?_
  rintro e w4 ⟨rfl, r4, h5, g5⟩
  dsimp only at h5
  have hlt5 := h5.lt
  have hg5 := G4.out.trans g5
  have hb5 : Below w4.heap.size w4 (w4.alloc (Obj.cells #[.int .i64 x] 3)) := (Below.refl _ _).alloc (Nat.le_refl _) _
  have K5 : Hid (KidA w2 (w4.alloc (Obj.cells #[.int .i64 x] 3)) q z M [x] t1 r r4 (some ⟨w4.heap.size, 0, none⟩) 1) := by
    refine hide ⟨h5.below hb5, hg5.trans (ParGo.of_below hb5), Own.of_lit w4 #[.int .i64 x] 1 hg5.size (by unfold maxLen; omega) rfl, ?_, by omega⟩
    intro g hg hk
    have hg' : some w4.heap.size = some g := hg
    injection hg' with hg'
    have := h5.kidlt g hk
    omega
  clear h5 g5 hg5 hb5 H4 G4 HX1
  go_wp2_with fail
  generalize w4.alloc (Obj.cells #[.int .i64 x] 3) = wa at K5 ⊢
  generalize (some (⟨w4.heap.size, 0, none⟩ : Addr)) = A1 at K5 ⊢
  refine (rmust_any K5.out.par (by omega) comma).mono ?_
  rintro e w5 ⟨rfl, h6, g6⟩
  have K6 := hide (K5.out.par_ h6 g6)
  clear h6 g6 K5
  go_wp2_with fail
  refine (hL f hf _ (y, t2) w5 M r4 HX2.out K6.out.par (by omega)).mono ?_
  rintro e w6 ⟨rfl, r7, h7, g7⟩
  dsimp only at h7
  have K7 := hide ((K6.out.par_ h7 g7).below (w' := w6.alloc (Obj.cells #[.int .i64 y] 3)) ((Below.refl _ _).alloc (Nat.le_refl _) _))
  have RR : Hid (Reads (w6.alloc (Obj.cells #[.int .i64 y] 3)) (w6.heap.size + 1) 1 (some ⟨w6.heap.size, 0, none⟩) 1 [.int .i64 y]) := hide (by
    have := reads_new w6 #[.int .i64 y] 3 1 1 rfl
    exact this.keep (fun p _ => rfl))
  have HZ7 := hide K7.out.go.size
  clear h7 g7 K6 HX2
  go_upto_region 27 with (at_builtin; refine wpList_appR (by rfl) (.tmp 144) (.tmp 147) 31 rfl w2.heap.size 3 (.int .i64 0) 1 8 Tryz.underlying31 int_info rfl (by omega) A1 1 1 (ints [x]) rfl K7.out.own _ _ 1 _ _ rfl RR.out (by simp [Value.oneCell']) (by unfold maxLen; omega) (by omega) HZ7.out ?_; intro A8 c8 w8 hown8 hg8 hat8; have K8 := hide (K7.out.snoc hown8 hg8 hat8); clear hown8 hg8 hat8)
  clear K7 RR HZ7
  obtain ⟨t0, t1', t2', t3, _, _, _, _⟩ := blk4 (K8.out.tok HK1.out (by omega) (fun k hk => (HRL.out k hk).2))
  have hKB := hide (fun g hg => (World.ownsRow.lt K8.out.own g hg).1)
  rcases HFT.out with ⟨htx, hop⟩ | ⟨htx, hop⟩ | ⟨htx, hop⟩
  · rw [htx] at t1'
    have hres := HR.out
    rw [hop, if_neg (by decide)] at hres
    injection hres with hres
    subst hres
    clear HFT HR htx hop hKB
    go_wp2_with fail
    refine (rmust_any K8.out.par (by omega) rpar).mono ?_
    rintro e w9 ⟨rfl, h9, g9⟩
    have hsum9 := h9.sum
    have K9 := hide (K8.out.par_ h9 g9)
    clear h9 g9 K8 t0 t1' t2' t3
    go_wp2_with fail
    refine (rput_any (K9.out.par.le (Nat.le_succ M)) (by omega) (by omega) ⟨7, 0, ByteArray.empty, [x, y]⟩ A8 c8 (K9.out.own.rebase (by omega)) (Nat.zero_le _)).mono ?_
    intro e w10 hp
    have hp' := hp.after (G1.out.trans K9.out.go) (Nat.le_refl _) (fun g hg => by have := (World.ownsRow.lt K9.out.own g hg).1; omega)
    clear hp
    have RES := hide hp'
    obtain ⟨rfl, _⟩ := hp'
    clear K9
    go_wp2
    go_ret
    exact RES.out
  · rw [htx] at t1'
    have hres := HR.out
    rw [hop, if_neg (by decide)] at hres
    injection hres with hres
    subst hres
    clear HFT HR htx hop hKB
    go_wp2_with fail
    refine (rmust_any K8.out.par (by omega) rpar).mono ?_
    rintro e w9 ⟨rfl, h9, g9⟩
    have hsum9 := h9.sum
    have K9 := hide (K8.out.par_ h9 g9)
    clear h9 g9 K8 t0 t1' t2' t3
    go_wp2_with fail
    refine (rput_any (K9.out.par.le (Nat.le_succ M)) (by omega) (by omega) ⟨8, 0, ByteArray.empty, [x, y]⟩ A8 c8 (K9.out.own.rebase (by omega)) (Nat.zero_le _)).mono ?_
    intro e w10 hp
    have hp' := hp.after (G1.out.trans K9.out.go) (Nat.le_refl _) (fun g hg => by have := (World.ownsRow.lt K9.out.own g hg).1; omega)
    clear hp
    have RES := hide hp'
    obtain ⟨rfl, _⟩ := hp'
    clear K9
    go_wp2
    go_ret
    exact RES.out
  · rw [htx] at t1'
    have hres := HR.out
    rw [hop, if_pos rfl] at hres
    obtain ⟨v, t4, hx3, hres⟩ := thenS_some hres
    injection hres with hres
    subst hres
    have HX3 := hide hx3
    clear HFT HR htx hop hKB hx3
    go_wp2_with fail
    refine (rmust_any K8.out.par (by omega) comma).mono ?_
    rintro e w9 ⟨rfl, h9, g9⟩
    have K9 := hide (K8.out.par_ h9 g9)
    clear h9 g9 K8 t0 t1' t2' t3
    go_wp2_with fail
    refine (hL f hf _ (v, t4) w9 M r7 HX3.out K9.out.par (by omega)).mono ?_
    rintro e w10 ⟨rfl, r10, h10, g10⟩
    dsimp only at h10
    have K10 := hide ((K9.out.par_ h10 g10).below (w' := w10.alloc (Obj.cells #[.int .i64 v] 3)) ((Below.refl _ _).alloc (Nat.le_refl _) _))
    have RR2 : Hid (Reads (w10.alloc (Obj.cells #[.int .i64 v] 3)) (w10.heap.size + 1) 1 (some ⟨w10.heap.size, 0, none⟩) 1 [.int .i64 v]) := hide (by
      have := reads_new w10 #[.int .i64 v] 3 1 1 rfl
      exact this.keep (fun p _ => rfl))
    have HZ10 := hide K10.out.go.size
    clear h10 g10 K9 HX3
    go_upto_region 34 with (at_builtin; refine wpList_appR (by rfl) (.tmp 157) (.tmp 160) 31 rfl w2.heap.size 3 (.int .i64 0) 1 8 Tryz.underlying31 int_info rfl (by omega) A8 2 c8 (ints [x, y]) rfl K10.out.own _ _ 1 _ _ rfl RR2.out (by simp [Value.oneCell']) (by unfold maxLen; omega) (by omega) HZ10.out ?_; intro A11 c11 w11 hown11 hg11 hat11; have K11 := hide (K10.out.snoc hown11 hg11 hat11); clear hown11 hg11 hat11)
    clear K10 RR2 HZ10
    go_wp2_with fail
    refine (rmust_any K11.out.par (by omega) rpar).mono ?_
    rintro e w12 ⟨rfl, h12, g12⟩
    have hsum12 := h12.sum
    have K12 := hide (K11.out.par_ h12 g12)
    clear h12 g12 K11
    go_wp2_with fail
    refine (rput_any (K12.out.par.le (Nat.le_succ M)) (by omega) (by omega) ⟨9, 0, ByteArray.empty, [x, y, v]⟩ A11 c11 (K12.out.own.rebase (by omega)) (Nat.zero_le _)).mono ?_
    intro e w13 hp
    have hp' := hp.after (G1.out.trans K12.out.go) (Nat.le_refl _) (fun g hg => by have := (World.ownsRow.lt K12.out.own g hg).1; omega)
    clear hp
    have RES := hide hp'
    obtain ⟨rfl, _⟩ := hp'
    clear K12
    go_wp2
    go_ret
    exact RES.out
end Go.Proofs.YtkomgidcgepknaaGreatDoor

set_option linter.unusedVariables false
set_option linter.unusedSimpArgs false
namespace Go.Proofs.YtkomgidcgepknaaGreatDoor
open Go.RowKit Go.Deep Go.Maps

/-- A part that meets an error does nothing. -/
def RDead (z : Int) (q : Nat) (fn : FuncId) : Prop := ∀ (s : PSt) (w : World) (N : Nat) (r : Fp), s.err ≠ 0 → RAt w q z N s r → N < 100000 → Calls Tryz.prog fn #[.pointer (some ⟨q, 0, none⟩)] w (RPost w q z N r (0, s))
theorem dead_prim (z : Int) (q : Nat) : RDead z q 219 := by
  intro s w N r he h hN
  have := rprim_bad (z := z) (sees_dead he lpar) (.inl he) h hN
  rw [fail_dead he] at this
  exact this
theorem dead_unary (z : Int) (q : Nat) : RDead z q 199 := fun s w N r he h hN =>
  unary_prim (sees_dead he minus) (fun w h => dead_prim z q s w N r he h hN) h hN
theorem rcall_zero (z : Int) (q : Nat) (fn : FuncId) (tag l : Nat) : RCall z q 0 fn tag l := fun f hf => absurd hf (by omega)
theorem dead_product (z : Int) (q : Nat) : RDead z q 172 := fun s w N r he h hN =>
  product_go (rcall_zero z q _ 0 4) (g0 := 0) (Nat.le_refl 0) (s0 := s) (dead_unary z q s w N r he h hN) (refF_dead z 0 1 3 0 s he) hN
theorem dead_sum (z : Int) (q : Nat) : RDead z q 125 := fun s w N r he h hN =>
  sum_go (rcall_zero z q _ 0 3) (g0 := 0) (Nat.le_refl 0) (s0 := s) (dead_product z q s w N r he h hN) (refF_dead z 0 1 2 0 s he) hN
theorem dead_expr (z : Int) (q : Nat) : RDead z q 69 := fun s w N r he h hN =>
  expr_go (rcall_zero z q _ 0 2) (g0 := 0) (Nat.le_refl 0) (dead_sum z q s w N r he h hN) (refF_dead z 0 1 1 0 s he) hN

theorem refF_lev {z : Int} {F l : Nat} {s : PSt} (he : s.err = 0) (hl : l ≠ 4) : refF z (F + 1) 0 l 0 s = thenS (refF z F 0 (l + 1) 0 s) fun a t => refF z F 1 l a t := by
  obtain ⟨err, off, toks, out⟩ := s
  dsimp only at he
  subst he
  show (if (0 : Int) ≠ 0 then _ else if (0 : Nat) = 0 then (if l = 4 then _ else _) else _) = _
  rw [if_neg (by decide), if_pos rfl, if_neg hl]
theorem refF_un {z : Int} {F : Nat} {s : PSt} (he : s.err = 0) : refF z (F + 1) 0 4 0 s =
    if seesS s minus = false then refF z F 2 0 0 s else thenS (refF z F 0 4 0 (tailS s)) fun a t => some (putS t ⟨12, 0, ByteArray.empty, [a]⟩) := by
  obtain ⟨err, off, toks, out⟩ := s
  dsimp only at he
  subst he
  show (if (0 : Int) ≠ 0 then _ else if (0 : Nat) = 0 then (if (4 : Nat) = 4 then _ else _) else _) = _
  rw [if_neg (by decide), if_pos rfl, if_pos rfl]
theorem refF_pr {z : Int} {F : Nat} {s : PSt} (he : s.err = 0) : refF z (F + 1) 2 0 0 s =
    if seesS s lpar = true then thenS (refF z F 0 1 0 (tailS s)) fun a t => some (a, mustS z t rpar)
       else match s.toks with
        | [] => some (0, failS z s 5)
        | k :: rest =>
          if k.kind ≠ 2 ∧ k.kind ≠ 1 then some (0, failS z s 5)
          else if k.kind = 2 then (if 1000000 < k.n then some (0, failS z s 9) else some (putS (tailS s) ⟨1, k.n, ByteArray.empty, []⟩))
          else if funcOp k.text = 0 then (if seesL s.toks 1 lpar = true then some (0, failS z s 7) else some (putS (tailS s) ⟨2, 0, k.text, []⟩))
          else thenS (refF z F 0 1 0 (mustS z (tailS s) lpar)) fun x t1 => thenS (refF z F 0 1 0 (mustS z t1 comma)) fun y t2 =>
            if funcOp k.text = 9 then thenS (refF z F 0 1 0 (mustS z t2 comma)) fun v t3 => some (putS (mustS z t3 rpar) ⟨9, 0, ByteArray.empty, [x, y, v]⟩)
            else some (putS (mustS z t2 rpar) ⟨funcOp k.text, 0, ByteArray.empty, [x, y]⟩) := by
  obtain ⟨err, off, toks, out⟩ := s
  dsimp only at he
  subst he
  show (if (0 : Int) ≠ 0 then _ else if (2 : Nat) = 0 then _ else if (2 : Nat) = 1 then _ else _) = _
  rw [if_neg (by decide), if_neg (by decide), if_neg (by decide)]
  all_goals (cases toks <;> rfl)
theorem refF_zero {z : Int} {tag l : Nat} {a : Int} {s : PSt} {res : Int × PSt} (he : s.err = 0) (h : refF z 0 tag l a s = some res) : False := by
  unfold refF at h
  rw [if_pos he] at h
  cases h

theorem rprim_step {z : Int} {q F : Nat} (hE : RCall z q F 69 0 1) : RCall z q (F + 1) 219 2 0 := by
  intro f hf s res w N r hres h hN
  by_cases he : s.err = 0
  · cases f with
    | zero => exact (refF_zero he hres).elim
    | succ f =>
      rw [refF_pr he] at hres
      cases hs : seesS s lpar with
      | true =>
        rw [hs, if_pos rfl] at hres
        obtain ⟨a, t, hx, hk⟩ := thenS_some hres
        injection hk with hk
        subst hk
        exact rgprim_par hE (by omega : f < F) hs hx h hN
      | false =>
        rw [hs, if_neg (by decide)] at hres
        cases ht : s.toks with
        | nil =>
          rw [ht] at hres
          injection hres with hres
          subst hres
          exact rprim_bad hs (.inr ⟨he, fun k hk => by rw [ht] at hk; cases hk⟩) h hN
        | cons k rest =>
          rw [ht] at hres
          dsimp only at hres
          by_cases hk : k.kind ≠ 2 ∧ k.kind ≠ 1
          · rw [if_pos hk] at hres
            injection hres with hres
            subst hres
            exact rprim_bad hs (.inr ⟨he, fun k' hk' => by rw [ht] at hk'; injection hk' with hk'; rw [← hk']; exact hk⟩) h hN
          · rw [if_neg hk] at hres
            by_cases hk2 : k.kind = 2
            · rw [if_pos hk2] at hres
              refine rgprim_num hs he ht hk2 h hN ?_
              split at hres
              · rename_i hn
                rw [if_pos hn]; injection hres
              · rename_i hn
                rw [if_neg hn]; injection hres
            · rw [if_neg hk2] at hres
              have hk1 : k.kind = 1 := Decidable.byContradiction (fun h1 => hk ⟨hk2, h1⟩)
              by_cases hfo : funcOp k.text = 0
              · rw [if_pos hfo] at hres
                refine rgprim_name hs he ht hk1 hfo h hN ?_
                rw [ht]
                split at hres
                · rename_i hn
                  rw [if_pos hn]; injection hres
                · rename_i hn
                  rw [if_neg hn]; injection hres
              · rw [if_neg hfo] at hres
                exact rprim_fun hE (by omega : f < F) hs he ht hk1 hfo h hN hres
  · rw [refF_dead z f 2 0 0 s he, if_neg (by decide)] at hres
    injection hres with hres
    subst hres
    exact dead_prim z q s w N r he h hN
theorem runary_step {z : Int} {q F : Nat} (hP : RCall z q F 219 2 0) (hU : RCall z q F 199 0 4) : RCall z q (F + 1) 199 0 4 := by
  intro f hf s res w N r hres h hN
  by_cases he : s.err = 0
  · cases f with
    | zero => exact (refF_zero he hres).elim
    | succ f =>
      rw [refF_un he] at hres
      cases hs : seesS s minus with
      | false =>
        rw [hs, if_pos rfl] at hres
        exact unary_prim hs (fun w h => hP f (by omega) s res w N r hres h hN) h hN
      | true =>
        rw [hs, if_neg (by decide)] at hres
        exact unary_neg hU (by omega : f < F) hs hres h hN
  · rw [refF_dead z f 0 4 0 s he, if_neg (by decide)] at hres
    injection hres with hres
    subst hres
    exact dead_unary z q s w N r he h hN
theorem rproduct_step {z : Int} {q F : Nat} (hU : RCall z q F 199 0 4) : RCall z q (F + 1) 172 0 3 := by
  intro f hf s res w N r hres h hN
  by_cases he : s.err = 0
  · cases f with
    | zero => exact (refF_zero he hres).elim
    | succ f =>
      rw [refF_lev he (by decide)] at hres
      obtain ⟨a, t, hx, hk⟩ := thenS_some hres
      exact product_go hU (g0 := f) (by omega) (s0 := s) (hU f (by omega) s (a, t) w N r hx h hN) hk hN
  · rw [refF_dead z f 0 3 0 s he, if_neg (by decide)] at hres
    injection hres with hres
    subst hres
    exact dead_product z q s w N r he h hN
theorem rsum_step {z : Int} {q F : Nat} (hU : RCall z q F 172 0 3) : RCall z q (F + 1) 125 0 2 := by
  intro f hf s res w N r hres h hN
  by_cases he : s.err = 0
  · cases f with
    | zero => exact (refF_zero he hres).elim
    | succ f =>
      rw [refF_lev he (by decide)] at hres
      obtain ⟨a, t, hx, hk⟩ := thenS_some hres
      exact sum_go hU (g0 := f) (by omega) (s0 := s) (hU f (by omega) s (a, t) w N r hx h hN) hk hN
  · rw [refF_dead z f 0 2 0 s he, if_neg (by decide)] at hres
    injection hres with hres
    subst hres
    exact dead_sum z q s w N r he h hN
theorem rexpr_step {z : Int} {q F : Nat} (hU : RCall z q F 125 0 2) : RCall z q (F + 1) 69 0 1 := by
  intro f hf s res w N r hres h hN
  by_cases he : s.err = 0
  · cases f with
    | zero => exact (refF_zero he hres).elim
    | succ f =>
      rw [refF_lev he (by decide)] at hres
      obtain ⟨a, t, hx, hk⟩ := thenS_some hres
      exact expr_go hU (g0 := f) (by omega) (hU f (by omega) s (a, t) w N r hx h hN) hk hN
  · rw [refF_dead z f 0 1 0 s he, if_neg (by decide)] at hres
    injection hres with hres
    subst hres
    exact dead_expr z q s w N r he h hN
/-- All parts, as far as the fuel F. -/
structure RAll (z : Int) (q F : Nat) : Prop where
  pr : RCall z q F 219 2 0
  un : RCall z q F 199 0 4
  pd : RCall z q F 172 0 3
  sm : RCall z q F 125 0 2
  ex : RCall z q F 69 0 1
theorem rall (z : Int) (q : Nat) : ∀ F, RAll z q F
  | 0 => ⟨rcall_zero z q _ _ _, rcall_zero z q _ _ _, rcall_zero z q _ _ _, rcall_zero z q _ _ _, rcall_zero z q _ _ _⟩
  | F + 1 => by
    have h := rall z q F
    exact ⟨rprim_step h.ex, runary_step h.pr h.un, rproduct_step h.un, rsum_step h.pd, rexpr_step h.sm⟩
theorem rexpr_any {z : Int} {q f : Nat} {s : PSt} {res : Int × PSt} {w : World} {N : Nat} {r : Fp} (hres : refF z f 0 1 0 s = some res) (h : RAt w q z N s r) (hN : N < 100000) :
    Calls Tryz.prog 69 #[.pointer (some ⟨q, 0, none⟩)] w (RPost w q z N r res) :=
  (rall z q (f + 1)).ex f (by omega) s res w N r hres h hN
end Go.Proofs.YtkomgidcgepknaaGreatDoor

set_option linter.unusedVariables false
set_option linter.unusedSimpArgs false
namespace Go.Proofs.YtkomgidcgepknaaGreatDoor
open Go.RowKit Go.Deep Go.Maps

set_option maxHeartbeats 4000000 in
set_option maxRecDepth 100000 in
theorem rparse_any (s : ByteArray) (w : World) (hs : s.size ≤ maxLen) {r : ParR} (hr : ParseIs s r) : Calls Tryz.prog 28 #[.string s] w (ParsePost w r) := by
  have HS := hide hs
  have HR := hide hr
  clear hr
  unfold maxLen at hs
  go_enter Tryz.func28, Tryz.ntmps28
  go_wp2_with fail
  refine (rlex_any s w HS.out).mono ?_
  rintro e w1 ⟨⟨v, rfl, A, c, rfl, hown⟩, hb1⟩
  have hcap := Own.cap hown
  have htk := lexL_toks s
  have hr := HR.out
  unfold ParseIs at hr
  clear HR
  generalize lexL s = lr at hown hcap htk hr ⊢
  obtain ⟨toks, err, off⟩ := lr
  dsimp only at hown hcap htk hr ⊢
  have HB1 := hide hb1
  by_cases he : err = 0
  · subst he
    rw [if_neg (by decide)] at hr
    obtain ⟨f, res, hres, rfl⟩ := hr
    obtain ⟨⟨a, st⟩, href, hrel⟩ := ref_par hres
    have hrd : Reads w1 w1.heap.size 4 A toks.length (cellsT toks) := by
      have h2 := hown.reads
      simpa using h2
    have hb2 : Below w1.heap.size w1 (w1.alloc (Obj.cells #[.slice A toks.length c, .int .i64 s.size, .int .i64 0, .int .i64 0, .slice none 0 0] 115)) := (Below.refl _ _).alloc (Nat.le_refl _) _
    have H3 : Hid (RAt (w1.alloc (Obj.cells #[.slice A toks.length c, .int .i64 s.size, .int .i64 0, .int .i64 0, .slice none 0 0] 115)) w1.heap.size s.size toks.length (live toks []) ⟨none, fun _ => False⟩) := by
      refine hide ⟨⟨A, c, none, 0, Blk.new _ _ _, hrd.below hb2, hcap, NodsOwn.nil, rfl⟩, by show 0 + toks.length ≤ _; omega, fun t ht => Nat.le_trans (htk.2 t ht) HS.out, fun x hx => absurd hx List.not_mem_nil, fun g hg => hg.elim⟩
    have HB2 := hide (hb1.trans (hb2.mono hb1.size))
    have hN : toks.length ≤ 5000 := htk.1
    have HREL := hide hrel
    have HREF := hide href
    have hww := hb1.size
    clear hown hcap htk hrd hb2 hrel href hres hb1 HB1
    go_wp2_with fail
    generalize w1.alloc (Obj.cells #[.slice A toks.length c, .int .i64 s.size, .int .i64 0, .int .i64 0, .slice none 0 0] 115) = w2 at H3 HB2 ⊢
    generalize w1.heap.size = q at H3 hww ⊢
    refine (rexpr_any HREF.out H3.out (by omega)).mono ?_
    rintro e w3 ⟨rfl, r3, h3, g3⟩
    dsimp only at h3
    have H4 := hide h3
    have HB3 := hide (HB2.out.trans ((g3.rbelow H3.out).mono hww))
    have hlt3 := h3.lt
    have hsum3 := h3.sum
    have HN := hide h3.nam
    clear g3 H3 HB2 HREF
    have hrel := HREL.out
    obtain ⟨A1, c1, A2, c2, h0, _, _, hnod, _⟩ := h3.ex
    have c0 := h0.cell 0
    have c2' := h0.cell 2
    have c3 := h0.cell 3
    have c4 := h0.cell 4
    change w3.cell? ⟨q, 0, none⟩ = some (.slice A1 st.toks.length c1) at c0
    change w3.cell? ⟨q, 2, none⟩ = some (.int .i64 st.err) at c2'
    change w3.cell? ⟨q, 3, none⟩ = some (.int .i64 st.off) at c3
    change w3.cell? ⟨q, 4, none⟩ = some (.slice A2 st.out.length c2) at c4
    clear h3 h0
    cases res with
    | error x =>
      obtain ⟨x1, x2⟩ := x
      obtain ⟨e1, e2, e3⟩ := hrel
      dsimp only at e1 e2 e3
      rw [e1] at c2'
      rw [e2] at c3
      have e3' : (x1 == 0) = false := beq_eq_false_iff_ne.2 e3
      have e3'' : (x1 != 0) = true := bne_iff_ne.2 e3
      clear HREL hnod e1 e2 e3 c0 c4
      go_wp2
      go_region
      go_wp2
      refine bodyPost_ret (v := .tuple #[.slice none 0 0, .int .i64 x1, .int .i64 x2]) (by simp [results, Tryz.results28, go_sem]) rfl ?_
      exact ⟨none, 0, rfl, ExprAt.none_, (fun x hx => absurd hx List.not_mem_nil), Nat.zero_le _, HB3.out.drew⟩
    | ok x =>
      obtain ⟨a', t, o⟩ := x
      have hst : st = ⟨0, 0, t, o⟩ := by
        have h1 : (a, st) = (a', (⟨0, 0, t, o⟩ : PSt)) := hrel
        injection h1
      subst hst
      dsimp only at c0 c2' c3 c4 hsum3 HN hnod
      have HNOD := hide hnod
      clear HREL hnod hrel
      cases t with
      | cons k rest =>
        have hll : (((k :: rest).length : Nat) : Int) = (rest.length : Int) + 1 := by simp
        have hl01 : (0 : Int) < (rest.length : Int) + 1 := by omega
        go_wp2_with fail
        refine (rfail_any H4.out (by omega) 5).mono ?_
        rintro e w5 ⟨rfl, h5, g5⟩
        have hb5 := HB3.out.trans ((g5.rbelow H4.out).mono hww)
        have HB5 := hide hb5
        obtain ⟨A5, c5, A6, c6, h0, _, _, _, _⟩ := h5.ex
        have d2 : w5.cell? ⟨q, 2, none⟩ = some (.int .i64 5) := h0.cell 2
        have d3 : w5.cell? ⟨q, 3, none⟩ = some (.int .i64 k.off) := h0.cell 3
        clear h5 h0 g5 hb5 c0 c2' c3 c4 H4 HNOD
        go_wp2
        go_region
        go_wp2
        refine bodyPost_ret (v := .tuple #[.slice none 0 0, .int .i64 5, .int .i64 k.off]) (by simp [results, Tryz.results28, go_sem]) rfl ?_
        exact ⟨none, 0, rfl, ExprAt.none_, (fun x hx => absurd hx List.not_mem_nil), Nat.zero_le _, HB5.out.drew⟩
      | nil =>
        have hol : o.length ≤ maxLen := by unfold maxLen; simp at hsum3; omega
        have HOL := hide hol
        have HEX := hide (HNOD.out.expr)
        have hc0 : w3.cell? ⟨q, 0, none⟩ = some (.slice A1 0 c1) := c0
        clear c0 hol
        go_wp2_with fail
        refine (refValidE_any A2 c2 o w3 HEX.out HN.out HOL.out).mono ?_
        rintro e w5 ⟨rfl, hb5⟩
        have d4 : w5.cell? ⟨q, 4, none⟩ = some (.slice A2 o.length c2) := (hb5.cell (p := ⟨q, 4, none⟩) hlt3).trans c4
        have HB5 := hide (HB3.out.trans (hb5.mono HB3.out.size))
        have HN5 := hide (HNOD.out.below hb5).expr
        have HVV : Hid (endP (Except.ok (a', [], o)) = if validL o = true then ⟨o, 0, 0⟩ else ⟨[], 2, 0⟩) := rfl
        clear c2' c3 c4 hc0 hb5 HEX HNOD H4 HB3
        cases hv : validL o
        · rw [hv, if_neg (by decide)] at HVV
          go_wp2
          refine bodyPost_ret (v := .tuple #[.slice none 0 0, .int .i64 2, .int .i64 0]) (by simp [results, Tryz.results28, go_sem]) rfl ?_
          show ParsePost w (endP (Except.ok (a', [], o))) _ _
          rw [HVV.out]
          exact ⟨none, 0, rfl, ExprAt.none_, (fun x hx => absurd hx List.not_mem_nil), Nat.zero_le _, HB5.out⟩
        · rw [hv, if_pos rfl] at HVV
          have HO3 : Hid (o.length ≤ 300) := by
            have hh : validL o = true := hv
            unfold validL at hh
            simp only [Bool.and_eq_true, decide_eq_true_eq] at hh
            exact hide hh.1.1.2
          go_wp2
          refine bodyPost_ret (v := .tuple #[.slice A2 o.length c2, .int .i64 0, .int .i64 0]) (by simp [results, Tryz.results28, go_sem]) rfl ?_
          show ParsePost w (endP (Except.ok (a', [], o))) _ _
          rw [HVV.out]
          exact ⟨A2, c2, rfl, HN5.out, HN.out, HO3.out, HB5.out⟩
  · have he' : (err != 0) = true := bne_iff_ne.2 he
    rw [if_pos he] at hr
    subst hr
    clear hown hcap htk hb1
    go_wp2
    refine bodyPost_ret (v := .tuple #[.slice none 0 0, .int .i64 err, .int .i64 off]) (by simp [results, Tryz.results28, go_sem]) rfl ?_
    exact ⟨none, 0, rfl, ExprAt.none_, (fun x hx => absurd hx List.not_mem_nil), Nat.zero_le _, HB1.out⟩
end Go.Proofs.YtkomgidcgepknaaGreatDoor
