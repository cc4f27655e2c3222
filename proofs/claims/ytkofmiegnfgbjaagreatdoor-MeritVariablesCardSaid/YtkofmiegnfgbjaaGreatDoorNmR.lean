/-
  The reference of chapter 8: letters, digits, names.
-/
import Derived.Test.YtkofmiegnfgbjaaGreatDoorTools
import Derived.Test.YtkofmiegnfgbjaaGreatDoorNameP
set_option linter.unusedVariables false
set_option linter.unusedSimpArgs false
namespace Go.Proofs.YtkofmiegnfgbjaaGreatDoor
open Go.RowKit Go.Deep Go.Maps

set_option maxHeartbeats 1000000 in
theorem letter_any (n : Nat) (hn : n < 256) (w : World) : Calls Tryz.prog 118 #[.int .u8 n] w fun e w' => e = .returned (.bool (isLetter n)) ∧ w = w' := by
  have HB : Hid (isLetter n = ((decide (97 ≤ n) && decide (n ≤ 122)) || (decide (65 ≤ n) && decide (n ≤ 90)))) := rfl
  cases e1 : decide (97 ≤ n) <;> cases e2 : decide (n ≤ 122) <;> cases e3 : decide (65 ≤ n) <;> cases e4 : decide (n ≤ 90)
  all_goals
    rw [e1, e2, e3, e4] at HB
    have g1 : decide ((97 : Int) ≤ (n : Int)) = _ := (decide_eq_decide.2 (by omega)).trans e1
    have g2 : decide ((n : Int) ≤ 122) = _ := (decide_eq_decide.2 (by omega)).trans e2
    have g3 : decide ((65 : Int) ≤ (n : Int)) = _ := (decide_eq_decide.2 (by omega)).trans e3
    have g4 : decide ((n : Int) ≤ 90) = _ := (decide_eq_decide.2 (by omega)).trans e4
    go_enter Tryz.func118, Tryz.ntmps118
    go_wp2
    go_ret
    exact ⟨by rw [HB.out]; rfl, rfl⟩
set_option maxHeartbeats 1000000 in
theorem digit_any (n : Nat) (hn : n < 256) (w : World) : Calls Tryz.prog 149 #[.int .u8 n] w fun e w' => e = .returned (.bool (isDigit n)) ∧ w = w' := by
  have HB : Hid (isDigit n = (decide (48 ≤ n) && decide (n ≤ 57))) := rfl
  cases e1 : decide (48 ≤ n) <;> cases e2 : decide (n ≤ 57)
  all_goals
    rw [e1, e2] at HB
    have g1 : decide ((48 : Int) ≤ (n : Int)) = _ := (decide_eq_decide.2 (by omega)).trans e1
    have g2 : decide ((n : Int) ≤ 57) = _ := (decide_eq_decide.2 (by omega)).trans e2
    go_enter Tryz.func149, Tryz.ntmps149
    go_wp2
    go_ret
    exact ⟨by rw [HB.out]; rfl, rfl⟩
set_option maxHeartbeats 1000000 in
theorem word_any (n : Nat) (hn : n < 256) (w : World) : Calls Tryz.prog 117 #[.int .u8 n] w fun e w' => e = .returned (.bool (isWord n)) ∧ w = w' := by
  have HB : Hid (isWord n = (isLetter n || isDigit n || (n == 95))) := rfl
  have HL := hide (letter_any n hn w)
  have HD := hide (digit_any n hn w)
  cases e1 : isLetter n
  · cases e2 : isDigit n
    · cases e3 : (n == 95)
      all_goals
        rw [e1, e2, e3] at HB
        rw [e1] at HL
        rw [e2] at HD
        have g3 : decide (n = 95) = _ := (by rw [Bool.eq_iff_iff]; simp : decide (n = 95) = (n == 95)).trans e3
        have g4 : ((n : Int) == 95) = _ := (by rw [Bool.eq_iff_iff]; simp; omega : ((n : Int) == 95) = decide (n = 95)).trans g3
        go_enter Tryz.func117, Tryz.ntmps117
        go_wp2_with fail
        refine HL.out.mono ?_
        rintro en w' ⟨rfl, rfl⟩
        go_wp2_with fail
        refine HD.out.mono ?_
        rintro en w' ⟨rfl, rfl⟩
        go_wp2
        go_ret
        exact ⟨by rw [HB.out]; rfl, rfl⟩
    · rw [e1, e2] at HB
      rw [e1] at HL
      rw [e2] at HD
      go_enter Tryz.func117, Tryz.ntmps117
      go_wp2_with fail
      refine HL.out.mono ?_
      rintro en w' ⟨rfl, rfl⟩
      go_wp2_with fail
      refine HD.out.mono ?_
      rintro en w' ⟨rfl, rfl⟩
      go_wp2
      go_ret
      exact ⟨by rw [HB.out]; simp, rfl⟩
  · rw [e1] at HB
    rw [e1] at HL
    go_enter Tryz.func117, Tryz.ntmps117
    go_wp2_with fail
    refine HL.out.mono ?_
    rintro en w' ⟨rfl, rfl⟩
    go_wp2
    go_ret
    exact ⟨by rw [HB.out]; simp, rfl⟩

open Go.RowKit Go.Deep Go.Maps

theorem all_range {p : Nat → Bool} {n : Nat} : ((List.range n).all p = true) ↔ ∀ i < n, p i = true := by
  rw [List.all_eq_true]
  exact ⟨fun h i hi => h i (List.mem_range.2 hi), fun h i hi => h i (List.mem_range.1 hi)⟩
theorem name_bad {s : ByteArray} {i : Nat} (hi : i < s.size) (h : isWord (bAt s i) = false) : nameB s = false := by
  unfold nameB
  cases ha : (List.range s.size).all fun i => isWord (bAt s i)
  · simp
  · have := all_range.1 ha i hi
    rw [h] at this
    cases this
theorem name_good {s : ByteArray} (h : ∀ i < s.size, isWord (bAt s i) = true) : nameB s = (decide (1 ≤ s.size) && decide (s.size ≤ 24) && isLetter (bAt s 0)) := by
  unfold nameB
  rw [all_range.2 h, Bool.and_true]
set_option maxHeartbeats 2000000 in
set_option maxRecDepth 20000 in
theorem refName_any (s : ByteArray) (w : World) (hs : s.size ≤ maxLen) : Calls Tryz.prog 69 #[.string s] w fun e w' => e = .returned (.bool (nameB s)) ∧ w = w' := by
  unfold maxLen at hs
  go_enter Tryz.func69, Tryz.ntmps69
  go_wp2
  go_loop [3] (fun i => ∃ k : Nat, k ≤ s.size ∧ i = .int .i64 k ∧ ∀ j < k, isWord (bAt s j) = true) (fun i => s.size - (intOf i).toNat)
  case atStart => exact ⟨0, Nat.zero_le _, rfl, fun j hj => absurd hj (by omega)⟩
  case round =>
    obtain ⟨k, hk, rfl, hall⟩ := hrel
    have HA := hide hall
    clear hall
    by_cases hlt : k < s.size
    · have hb : bAt s k = s[k].toNat := bAt_eq hlt
      have h256 : s[k].toNat < 256 := UInt8.toNat_lt _
      have HW := hide (word_any s[k].toNat h256 w)
      have HB := hide hb
      clear hb
      cases hw : isWord s[k].toNat
      · have HF := hide (name_bad hlt (by rw [HB.out]; exact hw))
        rw [hw] at HW
        go_wp2_with fail
        refine HW.out.mono ?_
        rintro en w' ⟨rfl, rfl⟩
        go_wp2
        go_ret
        exact ⟨by rw [HF.out]; rfl, rfl⟩
      · rw [hw] at HW
        go_wp2_with fail
        refine HW.out.mono ?_
        rintro en w' ⟨rfl, rfl⟩
        go_wp2
        go_round
        case rel =>
          refine ⟨k + 1, hlt, by go_num, fun j hj => ?_⟩
          by_cases hj2 : j < k
          · exact HA.out j hj2
          · obtain rfl : j = k := by omega
            rw [HB.out]
            exact hw
        case measure => simp [intOf]; omega
    · obtain rfl : k = s.size := by omega
      have HG := hide (name_good HA.out)
      clear HA
      cases e1 : decide (0 < s.size)
      · have HF : Hid (nameB s = false) := by
          show _ = _
          have : ¬ (1 ≤ s.size) := fun h => by have := of_decide_eq_false e1; omega
          rw [HG.out, decide_eq_false this]
          rfl
        have g1 : decide ((0 : Int) < (s.size : Int)) = false := (decide_eq_decide.2 (by omega)).trans e1
        go_wp2
        go_ret
        exact ⟨by rw [HF.out]; rfl, rfl⟩
      · have hpos : 0 < s.size := of_decide_eq_true e1
        have h1 : decide (1 ≤ s.size) = true := decide_eq_true (by omega)
        have g1 : decide ((0 : Int) < (s.size : Int)) = true := decide_eq_true (by omega)
        cases e2 : decide (s.size ≤ 24)
        · have HF : Hid (nameB s = false) := by
            show _ = _
            rw [HG.out, h1, e2]
            rfl
          have g2 : decide ((s.size : Int) ≤ 24) = false := (decide_eq_decide.2 (by omega)).trans e2
          clear h1
          go_wp2
          go_ret
          exact ⟨by rw [HF.out]; rfl, rfl⟩
        · have g2 : decide ((s.size : Int) ≤ 24) = true := (decide_eq_decide.2 (by omega)).trans e2
          have hb : bAt s 0 = s[0].toNat := bAt_eq hpos
          have HF : Hid (nameB s = isLetter s[0].toNat) := by
            show _ = _
            rw [HG.out, h1, e2, hb]
            rfl
          have HL := hide (letter_any s[0].toNat (UInt8.toNat_lt _) w)
          clear h1 hb
          go_wp2_with fail
          refine HL.out.mono ?_
          rintro en w' ⟨rfl, rfl⟩
          go_wp2
          go_ret
          exact ⟨by rw [HF.out]; rfl, rfl⟩
end Go.Proofs.YtkofmiegnfgbjaaGreatDoor
