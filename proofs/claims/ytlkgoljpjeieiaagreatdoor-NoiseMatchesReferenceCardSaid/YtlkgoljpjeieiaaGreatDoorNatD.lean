/-
  Chapter 3, natural: compare.
-/
import Derived.Test.YtlkgoljpjeieiaaGreatDoorNatC
set_option linter.unusedVariables false
set_option linter.unusedSimpArgs false
namespace Go.Proofs.YtlkgoljpjeieiaaGreatDoor
open Go.RowKit Go.Deep Go.Maps

set_option maxHeartbeats 1000000 in
set_option maxRecDepth 100000 in
theorem lcomp_any (A1 A2 : Option Addr) (c1 c2 N1 N2 n1 n2 : Nat) (w : World) (h1 : RI w w.heap.size A1 n1 (lim N1)) (h2 : RI w w.heap.size A2 n2 (lim N2)) (hn1 : n1 ≤ 50) (hn2 : n2 ≤ 50) :
    Calls Tryz.prog 58 #[.slice A1 n1 c1, .slice A2 n2 c2] w fun en w' => en = .returned (.int .i64 (cmpN N1 N2)) ∧ ∃ m, w' = w.drewN m := by
  have e1 := lim_n h1
  have e2 := lim_n h2
  have H1 := hide h1
  have H2 := hide h2
  have E1 := hide e1
  have E2 := hide e2
  clear h1 h2 e1 e2
  go_enter Tryz.func58, Tryz.ntmps58
  by_cases hlen : n1 = n2
  · subst hlen
    have HST : Hid (N1 / LB ^ n1 = N2 / LB ^ n1) := hide (by
      have := cmp_start (a := N1) (b := N2) (by rw [← E1.out, ← E2.out])
      rw [← E1.out] at this
      exact this)
    go_wp2
    go_loopw [5] (fun t5 wr => ∃ (j : Nat) (z : Int), j ≤ n1 ∧ z = (j : Int) - 1 ∧ t5 = .int .i64 z ∧ N1 / LB ^ j = N2 / LB ^ j ∧ ∃ m, wr = w.drewN m) (fun t5 _ => (intOf t5 + 1).toNat)
    case atStart => exact ⟨n1, _, Nat.le_refl _, rfl, by go_num, HST.out, 0, rfl⟩
    case round =>
      clear HST
      obtain ⟨j, z, hj, hz, rfl, hq, m, hwm⟩ := hrel
      have HQ := hide hq
      have HW := hide hwm
      clear hq hwm
      cases j with
      | zero =>
        have hN : N1 = N2 := by
          have := HQ.out
          rw [Nat.pow_zero, Nat.div_one, Nat.div_one] at this
          exact this
        have HC : Hid (cmpN N1 N2 = 0) := hide (by unfold cmpN; rw [if_neg (by omega), if_pos hN])
        have hz0 : z < 0 := by omega
        have d1 : decide ((0 : Int) ≤ z) = false := decide_eq_false (by omega)
        clear hN HQ hz
        go_wp2
        go_ret
        exact ⟨by rw [HC.out]; rfl, m, HW.out⟩
      | succ j =>
        obtain rfl : z = (j : Int) := by omega
        obtain ⟨b1, o1, rfl, _, g1⟩ := H1.out.at_ (k := j) (by omega)
        obtain ⟨b2, o2, rfl, _, g2⟩ := H2.out.at_ (k := j) (by omega)
        rw [lim_nth (by rw [← E1.out]; omega)] at g1
        rw [lim_nth (by rw [← E2.out]; omega)] at g2
        have g1 : wr.cell? ⟨b1, o1 + j, none⟩ = some (.int .i64 (dig N1 j)) := by rw [HW.out]; exact g1
        have g2 : wr.cell? ⟨b2, o2 + j, none⟩ = some (.int .i64 (dig N2 j)) := by rw [HW.out]; exact g2
        by_cases he : dig N1 j = dig N2 j
        · have HQ2 := hide (cmp_step HQ.out he)
          rw [← he] at g2
          generalize dig N1 j = u at g1 g2
          clear he HQ hz
          go_upto_region 8 with (fail)
          go_quiet (fail)
          go_wp2
          go_roundw
          case rel => exact ⟨j, _, by omega, rfl, by go_num, HQ2.out, m + nq, by rw [HW.out, World.drewN_drewN]⟩
          case measure => simp [intOf] <;> omega
        · by_cases hl : dig N1 j < dig N2 j
          · have HC : Hid (cmpN N1 N2 = -1) := hide (by
              have := cmpN_lt HQ.out hl
              unfold cmpN
              rw [if_pos this])
            generalize dig N1 j = u at g1 he hl
            generalize dig N2 j = v at g2 he hl
            have d1 : ((u : Int) != (v : Int)) = true := bne_iff_ne.2 (by omega)
            have d2 : decide ((u : Int) < (v : Int)) = true := decide_eq_true (by omega)
            clear HQ hz
            go_upto_region 8 with (fail)
            go_quiet (fail)
            go_upto_region 9 with (fail)
            go_quiet (fail)
            go_wp2
            go_ret
            exact ⟨by rw [HC.out]; rfl, _, by rw [HW.out, World.drewN_drewN, World.drewN_drewN]⟩
          · have HC : Hid (cmpN N1 N2 = 1) := hide (by
              have := cmpN_lt HQ.out.symm (show dig N2 j < dig N1 j by omega)
              unfold cmpN
              rw [if_neg (by omega), if_neg (by omega)])
            generalize dig N1 j = u at g1 he hl
            generalize dig N2 j = v at g2 he hl
            have d1 : ((u : Int) != (v : Int)) = true := bne_iff_ne.2 (by omega)
            have d2 : decide ((u : Int) < (v : Int)) = false := decide_eq_false (by omega)
            clear HQ hz
            go_upto_region 8 with (fail)
            go_quiet (fail)
            go_upto_region 9 with (fail)
            go_quiet (fail)
            go_wp2
            go_ret
            exact ⟨by rw [HC.out]; rfl, _, by rw [HW.out, World.drewN_drewN, World.drewN_drewN]⟩
  · by_cases hl : n1 < n2
    · have HC : Hid (cmpN N1 N2 = -1) := hide (by
        have := nlim_lt_lt (a := N1) (b := N2) (by rw [← E1.out, ← E2.out]; exact hl)
        unfold cmpN
        rw [if_pos this])
      have d1 : ((n1 : Int) != (n2 : Int)) = true := bne_iff_ne.2 (by omega)
      go_wp2
      go_ret
      exact ⟨by rw [HC.out]; rfl, 0, rfl⟩
    · have HC : Hid (cmpN N1 N2 = 1) := hide (by
        have := nlim_lt_lt (a := N2) (b := N1) (by rw [← E1.out, ← E2.out]; omega)
        unfold cmpN
        rw [if_neg (by omega), if_neg (by omega)])
      have d1 : ((n1 : Int) != (n2 : Int)) = true := bne_iff_ne.2 (by omega)
      go_wp2
      go_ret
      exact ⟨by rw [HC.out]; rfl, 0, rfl⟩
end Go.Proofs.YtlkgoljpjeieiaaGreatDoor
