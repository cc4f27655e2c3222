/-
  The law's one and floor.
-/
import Derived.Test.YtmelebfpkjnfdaaDoorMeA
set_option linter.unusedVariables false
set_option linter.unusedSimpArgs false
namespace Go.Proofs.YtmelebfpkjnfdaaDoor
open Go.RowKit Go.Deep Go.Maps

theorem lawOne_any (b : Bool) (w : World) : Calls Tryd.prog 11 #[.bool b] w fun e w' => e = .returned (.int .i64 (if b = true then 1 else 0)) ∧ w = w' := by
  cases b
  all_goals
    go_enter Tryd.func11, Tryd.ntmps11
    go_wp2
    go_ret
    exact ⟨rfl, rfl⟩
set_option maxHeartbeats 2000000 in
theorem lawFloor_any (a b : Int) (w : World) (ha : -1000000000000 ≤ a ∧ a ≤ 1000000000000) : Calls Tryd.prog 10 #[.int .i64 a, .int .i64 b] w fun e w' => e = .returned (.int .i64 (quot a b)) ∧ w = w' := by
  rw [← over_eq]
  have hd := tdiv_bdM a b ha
  obtain ⟨ha1, ha2⟩ := ha
  by_cases hb : b = 0
  · subst hb
    go_enter Tryd.func10, Tryd.ntmps10
    go_wp2
    go_ret
    exact ⟨rfl, rfl⟩
  · have hb' : (b == 0) = false := beq_eq_false_iff_ne.2 hb
    have HO : Hid (overL a b = if a.tmod b ≠ 0 ∧ (decide (a < 0) ≠ decide (b < 0)) then a.tdiv b - 1 else a.tdiv b) := by
      show _ = _
      unfold overL
      rw [if_neg hb]
    by_cases hm : a.tmod b = 0
    · have hm' : (a.tmod b != 0) = false := bne_eq_false_iff_eq.2 hm
      rw [if_neg (fun h => h.1 hm)] at HO
      clear hm
      go_enter Tryd.func10, Tryd.ntmps10
      go_wp2
      go_ret
      exact ⟨by rw [HO.out]; rfl, rfl⟩
    · have hm' : (a.tmod b != 0) = true := bne_iff_ne.2 hm
      by_cases hs : decide (a < 0) = decide (b < 0)
      · rw [if_neg (fun h => h.2 hs)] at HO
        have hs' : (decide (a < 0) == decide (b < 0)) = true := beq_iff_eq.2 hs
        clear hm hs
        go_enter Tryd.func10, Tryd.ntmps10
        go_wp2
        go_ret
        exact ⟨by rw [HO.out]; rfl, rfl⟩
      · rw [if_pos ⟨hm, hs⟩] at HO
        have hs' : (decide (a < 0) == decide (b < 0)) = false := beq_eq_false_iff_ne.2 hs
        clear hm hs
        go_enter Tryd.func10, Tryd.ntmps10
        go_wp2
        go_ret
        exact ⟨by rw [HO.out]; rfl, rfl⟩
end Go.Proofs.YtmelebfpkjnfdaaDoor
