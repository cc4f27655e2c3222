/-
  Chapter 23: merit.mul.
-/
import Derived.Test.YtkomgidcgepknaaGreatDoorMeA
import Derived.Test.YtkomgidcgepknaaGreatDoorShelf
set_option linter.unusedVariables false
set_option linter.unusedSimpArgs false
namespace Go.Proofs.YtkomgidcgepknaaGreatDoor
open Go.RowKit Go.Deep Go.Maps

theorem beyond_abs (n : Int) : beyondL n = decide (1000000000000 < n.natAbs) := by
  unfold beyondL MB
  by_cases h : 1000000000000 < n.natAbs
  · rw [decide_eq_true h]
    simp only [Bool.or_eq_true, decide_eq_true_eq]
    omega
  · rw [decide_eq_false h]
    simp only [Bool.or_eq_false_iff, decide_eq_false_iff_not]
    omega
set_option maxHeartbeats 2000000 in
theorem meritMul_any (a b : Int) (w : World) (ha : -1000000000000 ≤ a ∧ a ≤ 1000000000000) (hb : -1000000000000 ≤ b ∧ b ≤ 1000000000000) :
    Calls Tryz.prog 111 #[.int .i64 a, .int .i64 b] w fun e w' => e = .returned (.int .i64 (mulM a b)) ∧ w' = w := by
  have HM : Hid (mulM a b = if 1000000000000 < (a * b).natAbs then 1000000000001 else a * b) := by
    show _ = _
    unfold mulM
    rw [beyond_abs]
    by_cases h : 1000000000000 < (a * b).natAbs
    · rw [decide_eq_true h, if_pos rfl, if_pos h]
    · rw [decide_eq_false h, if_neg (by decide), if_neg h]
  have hxa : a.natAbs ≤ 1000000000000 := by omega
  have hyb : b.natAbs ≤ 1000000000000 := by omega
  have hab : (a * b).natAbs = a.natAbs * b.natAbs := Int.natAbs_mul a b
  have HA := hide (meritAbs_any a ha)
  have HB := hide (meritAbs_any b hb)
  have HMUL := hide (Tryz.bits_Mul64 a.natAbs b.natAbs (by omega) (by omega))
  rw [hab] at HM
  generalize hP : a.natAbs * b.natAbs = P at HM HMUL hab
  by_cases h1 : 18446744073709551616 ≤ P
  · have hhi : 0 < P / 18446744073709551616 := by omega
    have hhi2 : decide ((0 : Int) < ((P / 18446744073709551616 : Nat) : Int)) = true := decide_eq_true (by omega)
    have HR : Hid (mulM a b = 1000000000001) := by
      show _ = _
      rw [HM.out, if_pos (by omega)]
    have hq : P / 18446744073709551616 ≤ 1000000000000 := by
      have : P ≤ 1000000000000 * 1000000000000 := by rw [← hP]; exact Nat.mul_le_mul hxa hyb
      omega
    generalize P / 18446744073709551616 = Q at HMUL hhi hhi2 hq
    have hL : P % 18446744073709551616 < 18446744073709551616 := Nat.mod_lt _ (by decide)
    generalize P % 18446744073709551616 = L at HMUL hL
    clear HM hab hP h1 P
    go_enter Tryz.func111, Tryz.ntmps111
    go_wp2_with fail
    refine (HA.out _).mono ?_
    rintro _ _ ⟨rfl, rfl⟩
    go_wp2_with fail
    refine (HB.out _).mono ?_
    rintro _ _ ⟨rfl, rfl⟩
    go_wp2_with fail
    refine (HMUL.out _).mono ?_
    rintro _ _ ⟨rfl, rfl⟩
    go_wp2
    go_ret
    exact ⟨by rw [HR.out]; rfl, rfl⟩
  · have hhi : P / 18446744073709551616 = 0 := by omega
    have hlo : P % 18446744073709551616 = P := Nat.mod_eq_of_lt (by omega)
    rw [hhi, hlo] at HMUL
    by_cases h2 : 1000000000000 < P
    · have HR : Hid (mulM a b = 1000000000001) := by
        show _ = _
        rw [HM.out, if_pos h2]
      have hP2 : P < 18446744073709551616 := by omega
      have h2' : decide ((1000000000000 : Int) < (P : Int)) = true := decide_eq_true (by omega)
      clear HM hab hP hhi hlo
      go_enter Tryz.func111, Tryz.ntmps111
      go_wp2_with fail
      refine (HA.out _).mono ?_
      rintro _ _ ⟨rfl, rfl⟩
      go_wp2_with fail
      refine (HB.out _).mono ?_
      rintro _ _ ⟨rfl, rfl⟩
      go_wp2_with fail
      refine (HMUL.out _).mono ?_
      rintro _ _ ⟨rfl, rfl⟩
      go_wp2
      go_ret
      exact ⟨by rw [HR.out]; rfl, rfl⟩
    · have HR : Hid (mulM a b = a * b) := by
        show _ = _
        rw [HM.out, if_neg h2]
      have hP2 : P ≤ 1000000000000 := by omega
      have h2' : decide ((1000000000000 : Int) < (P : Int)) = false := decide_eq_false (by omega)
      have hpr : -1000000000000 ≤ a * b ∧ a * b ≤ 1000000000000 := by omega
      have HW : Hid (wrap64 (a * b) = a * b) := by
        show _ = _
        unfold wrap64
        omega
      clear HM hab hP hhi hlo
      obtain ⟨hp1, hp2⟩ := hpr
      go_enter Tryz.func111, Tryz.ntmps111
      go_wp2_with fail
      refine (HA.out _).mono ?_
      rintro _ _ ⟨rfl, rfl⟩
      go_wp2_with fail
      refine (HB.out _).mono ?_
      rintro _ _ ⟨rfl, rfl⟩
      go_wp2_with fail
      refine (HMUL.out _).mono ?_
      rintro _ _ ⟨rfl, rfl⟩
      go_wp2
      go_ret
      refine ⟨?_, rfl⟩
      rw [HR.out]
      first | rfl | (congr 2; exact HW.out) | (congr 1; exact congrArg _ HW.out)
end Go.Proofs.YtkomgidcgepknaaGreatDoor
