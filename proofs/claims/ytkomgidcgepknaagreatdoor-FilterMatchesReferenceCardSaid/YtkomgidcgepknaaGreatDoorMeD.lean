/-
  Chapter 23: merit.apply.
-/
import Derived.Test.YtkomgidcgepknaaGreatDoorMeB
set_option linter.unusedVariables false
set_option linter.unusedSimpArgs false
namespace Go.Proofs.YtkomgidcgepknaaGreatDoor
open Go.RowKit Go.Deep Go.Maps

/-- What merit.apply returns. -/
def applyM (op a b c : Int) : Int := if op = 5 then mulM a b else opV op a b c
theorem applyM_beyond (op a b c : Int) : beyondL (applyM op a b c) = beyondL (opV op a b c) := by
  unfold applyM
  by_cases h : op = 5
  · subst h
    rw [if_pos rfl]
    show beyondL (mulM a b) = beyondL (a * b)
    unfold mulM
    cases hb : beyondL (a * b)
    · rw [if_neg (by decide), hb]
    · rw [if_pos rfl]; decide
  · rw [if_neg h]
theorem applyM_in {op a b c : Int} (h : beyondL (opV op a b c) = false) : applyM op a b c = opV op a b c := by
  unfold applyM
  by_cases h5 : op = 5
  · subst h5
    rw [if_pos rfl]
    have h : beyondL (a * b) = false := h
    show mulM a b = a * b
    unfold mulM
    rw [h, if_neg (by decide)]
  · rw [if_neg h5]
set_option maxHeartbeats 4000000 in
theorem meritApply2_any (op a b : Int) (g n c : Nat) (w : World) (hop : op = 3 ∨ op = 4 ∨ op = 7 ∨ op = 8) (hn : 2 ≤ n) (hn2 : n ≤ 300) (ha : -1000000000000 ≤ a ∧ a ≤ 1000000000000) (hb : -1000000000000 ≤ b ∧ b ≤ 1000000000000)
    (k0 : w.cell? ⟨g, 0, none⟩ = some (.int .i64 a)) (k1 : w.cell? ⟨g, 1, none⟩ = some (.int .i64 b)) :
    Calls Tryz.prog 60 #[.int .i64 op, .slice (some ⟨g, 0, none⟩) n c] w fun e w' => e = .returned (.int .i64 (applyM op a b 0)) ∧ ∃ q, w' = w.drewN q := by
  obtain ⟨ha1, ha2⟩ := ha
  obtain ⟨hb1, hb2⟩ := hb
  rcases hop with rfl | rfl | rfl | rfl
  all_goals
    go_enter Tryz.func60, Tryz.ntmps60
    go_wp2_with fail
    go_quiet (fail)
    go_wp2
    go_ret
    exact ⟨rfl, _, rfl⟩
set_option maxHeartbeats 4000000 in
theorem meritApplyMul_any (a b : Int) (g n c : Nat) (w : World) (hn : 2 ≤ n) (hn2 : n ≤ 300) (ha : -1000000000000 ≤ a ∧ a ≤ 1000000000000) (hb : -1000000000000 ≤ b ∧ b ≤ 1000000000000)
    (k0 : w.cell? ⟨g, 0, none⟩ = some (.int .i64 a)) (k1 : w.cell? ⟨g, 1, none⟩ = some (.int .i64 b)) :
    Calls Tryz.prog 60 #[.int .i64 5, .slice (some ⟨g, 0, none⟩) n c] w fun e w' => e = .returned (.int .i64 (applyM 5 a b 0)) ∧ ∃ q, w' = w.drewN q := by
  have HM := hide (fun m => ((meritMul_any a b (w.drewN m) ha hb).mono fun _ _ h => ⟨h.1, h.2.symm⟩ : Calls Tryz.prog 111 #[.int .i64 a, .int .i64 b] (w.drewN m) fun e w' => e = .returned (.int .i64 (mulM a b)) ∧ w.drewN m = w'))
  have HR : Hid (applyM 5 a b 0 = mulM a b) := rfl
  generalize mulM a b = m at HM HR
  go_enter Tryz.func60, Tryz.ntmps60
  go_wp2_with fail
  go_quiet ((go_at_call 111; exact quiet_left (HM.out _)))
  go_wp2
  go_ret
  exact ⟨by rw [HR.out]; rfl, _, rfl⟩
set_option maxHeartbeats 4000000 in
theorem meritApplyDiv_any (a b : Int) (g n c : Nat) (w : World) (hn : 2 ≤ n) (hn2 : n ≤ 300) (ha : -1000000000000 ≤ a ∧ a ≤ 1000000000000)
    (k0 : w.cell? ⟨g, 0, none⟩ = some (.int .i64 a)) (k1 : w.cell? ⟨g, 1, none⟩ = some (.int .i64 b)) :
    Calls Tryz.prog 60 #[.int .i64 6, .slice (some ⟨g, 0, none⟩) n c] w fun e w' => e = .returned (.int .i64 (applyM 6 a b 0)) ∧ ∃ q, w' = w.drewN q := by
  have HM := hide (fun m => (meritDivR_any a b (w.drewN m) ha : Calls Tryz.prog 112 #[.int .i64 a, .int .i64 b] (w.drewN m) fun e w' => e = .returned (.int .i64 (overL a b)) ∧ w.drewN m = w'))
  have HR : Hid (applyM 6 a b 0 = overL a b) := by
    show quot a b = overL a b
    rw [over_eq]
  generalize overL a b = m at HM HR
  go_enter Tryz.func60, Tryz.ntmps60
  go_wp2_with fail
  go_quiet ((go_at_call 112; exact quiet_left (HM.out _)))
  go_wp2
  go_ret
  exact ⟨by rw [HR.out]; rfl, _, rfl⟩
set_option maxHeartbeats 4000000 in
theorem meritApplyCmp_any (op a b : Int) (g n c : Nat) (w : World) (hop : op = 10 ∨ op = 11) (hn : 2 ≤ n) (hn2 : n ≤ 300)
    (k0 : w.cell? ⟨g, 0, none⟩ = some (.int .i64 a)) (k1 : w.cell? ⟨g, 1, none⟩ = some (.int .i64 b)) :
    Calls Tryz.prog 60 #[.int .i64 op, .slice (some ⟨g, 0, none⟩) n c] w fun e w' => e = .returned (.int .i64 (applyM op a b 0)) ∧ ∃ q, w' = w.drewN q := by
  have HN := hide (fun q m => (meritNumber_any q (w.drewN m) : Calls _ _ _ _ _))
  rcases hop with rfl | rfl
  · have HR : Hid (applyM 10 a b 0 = if decide (a < b) = true then 1 else 0) := by
      show (if a < b then (1 : Int) else 0) = _
      simp only [decide_eq_true_eq]
    cases hq : decide (a < b)
    all_goals
      rw [hq] at HR
      go_enter Tryz.func60, Tryz.ntmps60
      go_wp2_with fail
      go_quiet ((go_at_call 113; exact quiet_left (HN.out _ _)))
      go_wp2
      go_ret
      exact ⟨by rw [HR.out]; rfl, _, rfl⟩
  · have HR : Hid (applyM 11 a b 0 = if (a == b) = true then 1 else 0) := by
      show (if a = b then (1 : Int) else 0) = _
      simp only [beq_iff_eq]
    cases hq : (a == b)
    all_goals
      rw [hq] at HR
      go_enter Tryz.func60, Tryz.ntmps60
      go_wp2_with fail
      go_quiet ((go_at_call 113; exact quiet_left (HN.out _ _)))
      go_wp2
      go_ret
      exact ⟨by rw [HR.out]; rfl, _, rfl⟩
set_option maxHeartbeats 4000000 in
theorem meritApplyNeg_any (a : Int) (g n c : Nat) (w : World) (hn : 1 ≤ n) (hn2 : n ≤ 300) (ha : -1000000000000 ≤ a ∧ a ≤ 1000000000000)
    (k0 : w.cell? ⟨g, 0, none⟩ = some (.int .i64 a)) :
    Calls Tryz.prog 60 #[.int .i64 12, .slice (some ⟨g, 0, none⟩) n c] w fun e w' => e = .returned (.int .i64 (applyM 12 a 0 0)) ∧ ∃ q, w' = w.drewN q := by
  obtain ⟨ha1, ha2⟩ := ha
  go_enter Tryz.func60, Tryz.ntmps60
  go_wp2
  go_ret
  exact ⟨rfl, 0, rfl⟩
set_option maxHeartbeats 4000000 in
theorem meritApplyIf_any (a b d : Int) (g n c : Nat) (w : World) (hn : 3 ≤ n) (hn2 : n ≤ 300)
    (k0 : w.cell? ⟨g, 0, none⟩ = some (.int .i64 a)) (k1 : w.cell? ⟨g, 1, none⟩ = some (.int .i64 b)) (k2 : w.cell? ⟨g, 2, none⟩ = some (.int .i64 d)) :
    Calls Tryz.prog 60 #[.int .i64 9, .slice (some ⟨g, 0, none⟩) n c] w fun e w' => e = .returned (.int .i64 (applyM 9 a b d)) ∧ ∃ q, w' = w.drewN q := by
  have HR : Hid (applyM 9 a b d = if 0 < a then b else d) := rfl
  by_cases h : 0 < a
  · have h' : decide (0 < a) = true := decide_eq_true h
    rw [if_pos h] at HR
    go_enter Tryz.func60, Tryz.ntmps60
    go_wp2
    go_ret
    exact ⟨by rw [HR.out]; rfl, 0, rfl⟩
  · have h' : decide (0 < a) = false := decide_eq_false h
    rw [if_neg h] at HR
    go_enter Tryz.func60, Tryz.ntmps60
    go_wp2
    go_ret
    exact ⟨by rw [HR.out]; rfl, 0, rfl⟩
end Go.Proofs.YtkomgidcgepknaaGreatDoor
