/-
  Chapter 23: the reference's apply, one, Clamp.
-/
import Derived.Test.YtmelebfpkjnfdaaGreatDoorMeB
import Derived.Test.YtmelebfpkjnfdaaGreatDoorRvN
set_option linter.unusedVariables false
set_option linter.unusedSimpArgs false
namespace Go.Proofs.YtmelebfpkjnfdaaGreatDoor
open Go.RowKit Go.Deep Go.Maps

/-- What the reference's apply returns. -/
def applyR (op a b c : Int) : Int := if op = 5 then mulR a b else opV op a b c
theorem applyR_cases {op a b c : Int} (ha : inB a) (hb : inB b) : (beyondL (opV op a b c) = false ∧ applyR op a b c = opV op a b c) ∨ (beyondL (opV op a b c) = true ∧ beyondL (applyR op a b c) = true) := by
  unfold applyR
  by_cases h : op = 5
  · subst h
    rw [if_pos rfl]
    show (beyondL (a * b) = false ∧ mulR a b = a * b) ∨ (beyondL (a * b) = true ∧ beyondL (mulR a b) = true)
    have key : ∀ m : Int, (MB < m ∨ m < -MB) → beyondL m = true := by
      intro m hm
      cases hq : beyondL m
      · have := inB_beyond.1 hq
        unfold inB at this
        unfold MB at hm
        omega
      · rfl
    rcases mul_R (a := a) (b := b) (inB_beyond.2 ha) (inB_beyond.2 hb) with ⟨h1, h2⟩ | ⟨h1, h2, _⟩ | ⟨h1, h2, _⟩
    · left
      refine ⟨h2, ?_⟩
      rw [h1]
      have h3 := inB_beyond.1 h2
      unfold inB at h3
      unfold timesL MB
      rw [if_neg (by omega), if_neg (by omega)]
    · right
      exact ⟨key _ (.inl h1), by rw [h2]; decide⟩
    · right
      exact ⟨key _ (.inr h1), by rw [h2]; decide⟩
  · rw [if_neg h]
    cases hb : beyondL (opV op a b c)
    · exact .inl ⟨rfl, rfl⟩
    · exact .inr ⟨rfl, rfl⟩
theorem refOne_any (b : Bool) (w : World) : Calls Tryz.prog 87 #[.bool b] w fun e w' => e = .returned (.int .i64 (if b = true then 1 else 0)) ∧ w = w' := by
  cases b
  all_goals
    go_enter Tryz.func87, Tryz.ntmps87
    go_wp2
    go_ret
    exact ⟨rfl, rfl⟩
theorem refClamp_any (n : Int) (w : World) : Calls Tryz.prog 16 #[.int .i64 n] w fun e w' => e = .returned (.int .i64 (clampL n)) ∧ w = w' := by
  by_cases h1 : n < 1
  · have HC : Hid (clampL n = 1) := by show _ = _; unfold clampL; omega
    have d1 : decide (n < 1) = true := decide_eq_true h1
    go_enter Tryz.func16, Tryz.ntmps16
    go_wp2
    go_ret
    exact ⟨by rw [HC.out]; rfl, rfl⟩
  · have d1 : decide (n < 1) = false := decide_eq_false h1
    by_cases h2 : 10000 < n
    · have HC : Hid (clampL n = 10000) := by show _ = _; unfold clampL; omega
      have d2 : decide (10000 < n) = true := decide_eq_true h2
      go_enter Tryz.func16, Tryz.ntmps16
      go_wp2
      go_ret
      exact ⟨by rw [HC.out]; rfl, rfl⟩
    · have HC : Hid (clampL n = n) := by show _ = _; unfold clampL; omega
      have d2 : decide (10000 < n) = false := decide_eq_false h2
      go_enter Tryz.func16, Tryz.ntmps16
      go_wp2
      go_ret
      exact ⟨by rw [HC.out]; rfl, rfl⟩
set_option maxHeartbeats 4000000 in
theorem refApply2_any (op a b : Int) (g n c : Nat) (w : World) (hop : op = 3 ∨ op = 4 ∨ op = 7 ∨ op = 8) (hn : 2 ≤ n) (hn2 : n ≤ 300) (ha : -1000000000000 ≤ a ∧ a ≤ 1000000000000) (hb : -1000000000000 ≤ b ∧ b ≤ 1000000000000)
    (k0 : w.cell? ⟨g, 0, none⟩ = some (.int .i64 a)) (k1 : w.cell? ⟨g, 1, none⟩ = some (.int .i64 b)) :
    Calls Tryz.prog 42 #[.int .i64 op, .slice (some ⟨g, 0, none⟩) n c] w fun e w' => e = .returned (.int .i64 (applyR op a b 0)) ∧ ∃ q, w' = w.drewN q := by
  obtain ⟨ha1, ha2⟩ := ha
  obtain ⟨hb1, hb2⟩ := hb
  rcases hop with rfl | rfl | rfl | rfl
  all_goals
    go_enter Tryz.func42, Tryz.ntmps42
    go_wp2_with fail
    go_quiet (fail)
    go_wp2
    go_ret
    exact ⟨rfl, _, rfl⟩
set_option maxHeartbeats 4000000 in
theorem refApplyMul_any (a b : Int) (g n c : Nat) (w : World) (hn : 2 ≤ n) (hn2 : n ≤ 300) (ha : -1000000000000 ≤ a ∧ a ≤ 1000000000000) (hb : -1000000000000 ≤ b ∧ b ≤ 1000000000000)
    (k0 : w.cell? ⟨g, 0, none⟩ = some (.int .i64 a)) (k1 : w.cell? ⟨g, 1, none⟩ = some (.int .i64 b)) :
    Calls Tryz.prog 42 #[.int .i64 5, .slice (some ⟨g, 0, none⟩) n c] w fun e w' => e = .returned (.int .i64 (applyR 5 a b 0)) ∧ ∃ q, w' = w.drewN q := by
  have HM := hide (fun m => (refMul_any a b (w.drewN m) ha hb : Calls Tryz.prog 85 #[.int .i64 a, .int .i64 b] (w.drewN m) fun e w' => e = .returned (.int .i64 (mulR a b)) ∧ w.drewN m = w'))
  have HR : Hid (applyR 5 a b 0 = mulR a b) := rfl
  generalize mulR a b = m at HM HR
  go_enter Tryz.func42, Tryz.ntmps42
  go_wp2_with fail
  go_quiet ((go_at_call 85; exact quiet_left (HM.out _)))
  go_wp2
  go_ret
  exact ⟨by rw [HR.out]; rfl, _, rfl⟩
set_option maxHeartbeats 4000000 in
theorem refApplyDiv_any (a b : Int) (g n c : Nat) (w : World) (hn : 2 ≤ n) (hn2 : n ≤ 300) (ha : -1000000000000 ≤ a ∧ a ≤ 1000000000000)
    (k0 : w.cell? ⟨g, 0, none⟩ = some (.int .i64 a)) (k1 : w.cell? ⟨g, 1, none⟩ = some (.int .i64 b)) :
    Calls Tryz.prog 42 #[.int .i64 6, .slice (some ⟨g, 0, none⟩) n c] w fun e w' => e = .returned (.int .i64 (applyR 6 a b 0)) ∧ ∃ q, w' = w.drewN q := by
  have HM := hide (fun m => (refDiv_any a b (w.drewN m) ha : Calls Tryz.prog 86 #[.int .i64 a, .int .i64 b] (w.drewN m) fun e w' => e = .returned (.int .i64 (divR a b)) ∧ w.drewN m = w'))
  have HR : Hid (applyR 6 a b 0 = divR a b) := by
    show quot a b = divR a b
    rw [div_R, over_eq]
  generalize divR a b = m at HM HR
  go_enter Tryz.func42, Tryz.ntmps42
  go_wp2_with fail
  go_quiet ((go_at_call 86; exact quiet_left (HM.out _)))
  go_wp2
  go_ret
  exact ⟨by rw [HR.out]; rfl, _, rfl⟩
set_option maxHeartbeats 4000000 in
theorem refApplyCmp_any (op a b : Int) (g n c : Nat) (w : World) (hop : op = 10 ∨ op = 11) (hn : 2 ≤ n) (hn2 : n ≤ 300)
    (k0 : w.cell? ⟨g, 0, none⟩ = some (.int .i64 a)) (k1 : w.cell? ⟨g, 1, none⟩ = some (.int .i64 b)) :
    Calls Tryz.prog 42 #[.int .i64 op, .slice (some ⟨g, 0, none⟩) n c] w fun e w' => e = .returned (.int .i64 (applyR op a b 0)) ∧ ∃ q, w' = w.drewN q := by
  have HN := hide (fun q m => (refOne_any q (w.drewN m) : Calls _ _ _ _ _))
  rcases hop with rfl | rfl
  · have HR : Hid (applyR 10 a b 0 = if decide (a < b) = true then 1 else 0) := by
      show (if a < b then (1 : Int) else 0) = _
      simp only [decide_eq_true_eq]
    cases hq : decide (a < b)
    all_goals
      rw [hq] at HR
      go_enter Tryz.func42, Tryz.ntmps42
      go_wp2_with fail
      go_quiet ((go_at_call 87; exact quiet_left (HN.out _ _)))
      go_wp2
      go_ret
      exact ⟨by rw [HR.out]; rfl, _, rfl⟩
  · have HR : Hid (applyR 11 a b 0 = if (a == b) = true then 1 else 0) := by
      show (if a = b then (1 : Int) else 0) = _
      simp only [beq_iff_eq]
    cases hq : (a == b)
    all_goals
      rw [hq] at HR
      go_enter Tryz.func42, Tryz.ntmps42
      go_wp2_with fail
      go_quiet ((go_at_call 87; exact quiet_left (HN.out _ _)))
      go_wp2
      go_ret
      exact ⟨by rw [HR.out]; rfl, _, rfl⟩
set_option maxHeartbeats 4000000 in
theorem refApplyNeg_any (a : Int) (g n c : Nat) (w : World) (hn : 1 ≤ n) (hn2 : n ≤ 300) (ha : -1000000000000 ≤ a ∧ a ≤ 1000000000000)
    (k0 : w.cell? ⟨g, 0, none⟩ = some (.int .i64 a)) :
    Calls Tryz.prog 42 #[.int .i64 12, .slice (some ⟨g, 0, none⟩) n c] w fun e w' => e = .returned (.int .i64 (applyR 12 a 0 0)) ∧ ∃ q, w' = w.drewN q := by
  obtain ⟨ha1, ha2⟩ := ha
  go_enter Tryz.func42, Tryz.ntmps42
  go_wp2
  go_ret
  exact ⟨rfl, 0, rfl⟩
set_option maxHeartbeats 4000000 in
theorem refApplyIf_any (a b d : Int) (g n c : Nat) (w : World) (hn : 3 ≤ n) (hn2 : n ≤ 300)
    (k0 : w.cell? ⟨g, 0, none⟩ = some (.int .i64 a)) (k1 : w.cell? ⟨g, 1, none⟩ = some (.int .i64 b)) (k2 : w.cell? ⟨g, 2, none⟩ = some (.int .i64 d)) :
    Calls Tryz.prog 42 #[.int .i64 9, .slice (some ⟨g, 0, none⟩) n c] w fun e w' => e = .returned (.int .i64 (applyR 9 a b d)) ∧ ∃ q, w' = w.drewN q := by
  have HR : Hid (applyR 9 a b d = if 0 < a then b else d) := rfl
  by_cases h : 0 < a
  · have h' : decide (0 < a) = true := decide_eq_true h
    rw [if_pos h] at HR
    go_enter Tryz.func42, Tryz.ntmps42
    go_wp2
    go_ret
    exact ⟨by rw [HR.out]; rfl, 0, rfl⟩
  · have h' : decide (0 < a) = false := decide_eq_false h
    rw [if_neg h] at HR
    go_enter Tryz.func42, Tryz.ntmps42
    go_wp2
    go_ret
    exact ⟨by rw [HR.out]; rfl, 0, rfl⟩
end Go.Proofs.YtmelebfpkjnfdaaGreatDoor
