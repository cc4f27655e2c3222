/-
  The walk of ApportionMatchesReference.
-/
import Derived.Test.YteknmllcpemnoaaHead
namespace Go.Proofs.Yteknmllcpemnoaa
open Go.RowKit Go.Deep
set_option linter.unusedVariables false

theorem shrL_len (total : Int) (ws : List Int) : (shrL total ws).length ≤ 200 := by
  unfold shrL
  split
  · rename_i h
    have := shrE_ok h
    rw [run_len]; omega
  · simp

set_option maxRecDepth 100000 in
set_option maxHeartbeats 2000000 in
theorem law1_walk (p : Int) (A : Option Addr) (n c : Nat) (xs : List Int) (w : World) (_ : (Lit.int .i64 p).wf = true)
    (h : RI w w.heap.size A n xs) (hn : n ≤ maxLen) (_ : ∀ z ∈ xs, -9223372036854775808 ≤ z ∧ z ≤ 9223372036854775807) :
    Calls Try.prog 3 #[.int .i64 p, .slice A n c] w fun e w' => e = .returned (.bool true) ∧ Below w.heap.size w w' := by
  have HN := hide hn
  unfold maxLen at hn
  by_cases h250 : 250 < n
  · go_enter Try.func3, Try.ntmps3
    go_wp2_with fail
    refine (head_any _).mono ?_
    rintro e w1 ⟨rfl, hb1⟩
    go_wp2
    go_ret
    exact ⟨rfl, hb1⟩
  · have HSL := hide (Nat.le_trans (shrL_len p xs) (show 200 ≤ maxLen by decide))
    go_enter Try.func3, Try.ntmps3
    go_wp2_with fail
    refine (head_any _).mono ?_
    rintro e w1 ⟨rfl, hb1⟩
    have r1 := h.next hb1
    have B1 := hide hb1
    go_wp2_with fail
    refine (share_any _ _ _ xs p _ r1 HN.out).mono ?_
    rintro e w2 ⟨A2, c2, rfl, z2, hb2⟩
    have r2 := r1.next hb2
    have B2 := hide (B1.out.trans (hb2.mono B1.out.size))
    clear r1 hb1 hb2 B1
    go_wp2_with fail
    refine (rshare_any _ _ _ xs p _ r2 HN.out).mono ?_
    rintro e w3 ⟨A3, c3, rfl, z3, hb3⟩
    have z2' := z2.next hb3
    have B3 := hide (B2.out.trans (hb3.mono B2.out.size))
    clear r2 z2 hb3 B2
    go_wp2_with fail
    refine (ints_any _ _ _ _ _ _ (shrL p xs) (shrL p xs) _ z2' z3 HSL.out HSL.out).mono ?_
    rintro e w4 ⟨rfl, m, rfl⟩
    rw [decide_eq_true rfl]
    go_wp2
    go_ret
    exact ⟨rfl, below_drewN B3.out _⟩
end Go.Proofs.Yteknmllcpemnoaa
