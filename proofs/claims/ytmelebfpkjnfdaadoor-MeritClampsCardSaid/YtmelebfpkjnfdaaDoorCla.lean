/-
  MeritClamps: the walk.
-/
import Derived.Test.YtmelebfpkjnfdaaDoorHeadM
set_option linter.unusedVariables false
set_option linter.unusedSimpArgs false
namespace Go.Proofs.YtmelebfpkjnfdaaDoor
open Go.RowKit Go.Deep Go.Maps

theorem clamp_bd (n : Int) : 1 ≤ clampL n ∧ clampL n ≤ 10000 := by unfold clampL; omega
theorem clamp_in {n : Int} (h1 : 1 ≤ n) (h2 : n ≤ 10000) : clampL n = n := by unfold clampL; omega
theorem clamp_le {m n : Int} (h : m ≤ n) : clampL m ≤ clampL n := by unfold clampL; omega
set_option maxHeartbeats 4000000 in
theorem clamps_any (a b : Int) (w : World) : Calls Tryd.prog 5 #[.int .i64 a, .int .i64 b] w fun e w' => e = .returned (.bool true) ∧ Below w.heap.size w w' := by
  obtain ⟨x, hx⟩ : ∃ x, x = clampL (min a b) := ⟨_, rfl⟩
  obtain ⟨y, hy⟩ : ∃ y, y = clampL (max a b) := ⟨_, rfl⟩
  have x1 : 1 ≤ x := by rw [hx]; exact (clamp_bd _).1
  have y2 : y ≤ 10000 := by rw [hy]; exact (clamp_bd _).2
  have xy : x ≤ y := by rw [hx, hy]; exact clamp_le (by omega)
  have HX := hide hx.symm
  have HY := hide hy.symm
  have HXX := hide (clamp_in x1 (by omega))
  have HYY := hide (clamp_in (n := y) (by omega) y2)
  have HA := hide (fun (h1 : 1 ≤ a) (h2 : a ≤ 10000) => clamp_in h1 h2)
  clear hx hy
  have d1 : decide (x < 1) = false := decide_eq_false (by omega)
  have d2 : decide (10000 < y) = false := decide_eq_false (by omega)
  have d3 : decide (y < x) = false := decide_eq_false (by omega)
  go_enter Tryd.func5, Tryd.ntmps5
  go_wp2_with fail
  refine (head_any w).mono ?_
  rintro en w1 ⟨rfl, hb⟩
  go_wp2_with fail
  refine (clamp_at _ x w1 HX.out).mono ?_
  rintro e w' ⟨rfl, rfl⟩
  go_wp2_with fail
  refine (clamp_at _ y w1 HY.out).mono ?_
  rintro e w' ⟨rfl, rfl⟩
  go_wp2_with fail
  refine (clamp_at _ x w1 HXX.out).mono ?_
  rintro e w' ⟨rfl, rfl⟩
  go_wp2_with fail
  refine (clamp_at _ y w1 HYY.out).mono ?_
  rintro e w' ⟨rfl, rfl⟩
  by_cases h1 : a < 1
  · have e1 : decide (a < 1) = true := decide_eq_true h1
    go_wp2
    go_ret
    exact ⟨rfl, hb⟩
  · have e1 : decide (a < 1) = false := decide_eq_false h1
    by_cases h2 : 10000 < a
    · have e2 : decide (10000 < a) = true := decide_eq_true h2
      go_wp2
      go_ret
      exact ⟨rfl, hb⟩
    · have e2 : decide (10000 < a) = false := decide_eq_false h2
      go_wp2_with fail
      refine (clamp_at _ a w1 (HA.out (by omega) (by omega))).mono ?_
      rintro e w' ⟨rfl, rfl⟩
      go_wp2
      go_ret
      exact ⟨rfl, hb⟩
theorem clamps_walk (a b : Int) (w : World) (w0 : (Lit.int .i64 a).wf = true) (w1 : (Lit.int .i64 b).wf = true) : Calls Tryd.prog 5 #[.int .i64 a, .int .i64 b] w fun e w' => e = .returned (.bool true) ∧ Below w.heap.size w w' := clamps_any a b w
end Go.Proofs.YtmelebfpkjnfdaaDoor
