/-
  The walk of ApportionSum.
-/
import Derived.Test.YteknmllcpemnoaaLaws
namespace Go.Proofs.Yteknmllcpemnoaa
open Go.RowKit Go.Deep
set_option linter.unusedVariables false

set_option maxRecDepth 100000 in
set_option maxHeartbeats 4000000 in
theorem law2_walk (raw : Int) (A : Option Addr) (n c : Nat) (us : List Int) (w : World) (wr : (Lit.int .u16 raw).wf = true)
    (h : RK .u32 w w.heap.size A n us) (hn : n ≤ maxLen) (hu : ∀ z ∈ us, 0 ≤ z ∧ z ≤ 4294967295) :
    Calls Try.prog 4 #[.int .u16 raw, .slice A n c] w fun e w' => e = .returned (.bool true) ∧ Below w.heap.size w w' := by
  have HN := hide hn
  have HU := hide hu
  have HR := hide (wf_u16 wr)
  have HG := hide (valW_Good hu)
  have HVL := hide (valW_len us)
  obtain ⟨ws, HWS⟩ : ∃ ws, Hid (valW us = ws) := ⟨_, rfl⟩
  obtain ⟨T, HT⟩ : ∃ T : Nat, Hid (raw % 721 = T) := by
    have := HR.out
    exact ⟨(raw % 721).toNat, by show _ = _; omega⟩
  have hT0 : (0 : Int) ≤ (T : Int) := by omega
  have hT1 : (T : Int) ≤ 720 := by have := HT.out; omega
  have hT1' : T ≤ 720 := by omega
  have G : Hid (Good ws) := by have := HG.out; rw [HWS.out] at this; exact this
  have hwl : 1 ≤ ws.length ∧ ws.length ≤ 30 := by have := HVL.out; rwa [HWS.out] at this
  obtain ⟨N, HNL⟩ : ∃ N, Hid (ws.length = N) := ⟨_, rfl⟩
  have hN : 1 ≤ N ∧ N ≤ 30 := by have := HNL.out; omega
  have hRL : (run ws T).length = N := by rw [run_len]; exact HNL.out
  have HRL := hide hRL
  have HSW : Hid (wsum ws = ws.sum) := wsum_small 1000000000 (fun k _ => badW_nth G.out.bad k) (by have := HNL.out; omega)
  have HSR : Hid (wsum (run ws T) = T) := by
    show _ = _
    rw [wsum_small 721 (fun k _ => run_bd720 G.out (by omega) k) (by omega), run_sum G.out.pos]
  have hS1 : 1 ≤ ws.sum := sum_pos G.out
  obtain ⟨hN1, hN2⟩ := hN
  clear hu wr hn hwl HG HVL hRL
  go_enter Try.func4, Try.ntmps4
  go_wp2_with fail
  refine (head_any _).mono ?_
  rintro e w1 ⟨rfl, hb1⟩
  have r1 := h.next hb1
  have B1 := hide hb1
  go_wp2_with fail
  refine (val_at _ _ _ us raw T ws HT.out HWS.out _ r1 HN.out HU.out HR.out).mono ?_
  rintro e w2 ⟨A2, c2, rfl, z2, hb2⟩
  rw [HNL.out] at z2
  rw [HNL.out]
  have B2 := hide (B1.out.trans (hb2.mono B1.out.size))
  clear r1 hb1 hb2 B1
  go_wp2_with fail
  refine (share_at _ _ _ ws T _ z2 G.out (by omega) hT1').mono ?_
  rintro e w3 ⟨A3, c3, rfl, z3, hb3⟩
  rw [HRL.out] at z3
  rw [HRL.out]
  have z2' := z2.next hb3
  have B3 := hide (B2.out.trans (hb3.mono B2.out.size))
  clear z2 hb3 B2
  go_wp2
  go_loop [10, 11, 12] (fun s a i => ∃ k : Nat, k ≤ N ∧ i = .int .i64 k ∧ s = .int .i64 (wsum ((run ws T).take k)) ∧ a = .int .i64 (wsum (ws.take k))) (fun _ _ i => N - (intOf i).toNat)
  case atStart => exact ⟨0, Nat.zero_le _, rfl, rfl, rfl⟩
  case round =>
    obtain ⟨k, hk, rfl, rfl, rfl⟩ := hrel
    by_cases hlt : k < N
    · obtain ⟨b, off, rfl, hbl, hc⟩ := z2'.at_ hlt
      obtain ⟨b', off', rfl, hbl', hc'⟩ := z3.at_ hlt
      have HS1 : Hid (wsum ((run ws T).take (k + 1)) = wrap64 (wsum ((run ws T).take k) + nth (run ws T) k)) := by
        show _ = _; rw [nth_take (by rw [HRL.out]; exact hlt), wsum_snoc]
      have HS2 : Hid (wsum (ws.take (k + 1)) = wrap64 (wsum (ws.take k) + nth ws k)) := by
        show _ = _; rw [nth_take (by rw [HNL.out]; exact hlt), wsum_snoc]
      go_wp2
      go_round
      case rel => exact ⟨k + 1, by omega, by go_num, by rw [HS1.out], by rw [HS2.out]⟩
      case measure => simp [intOf]; omega
    · obtain rfl : k = N := by omega
      have HE1 : Hid (wsum ((run ws T).take k) = T) := by
        show _ = _; rw [List.take_of_length_le (by rw [HRL.out]; omega)]; exact HSR.out
      have HE2 : Hid (wsum (ws.take k) = ws.sum) := by
        show _ = _; rw [List.take_of_length_le (by rw [HNL.out]; omega)]; exact HSW.out
      rw [HE1.out, HE2.out]
      generalize hS : ws.sum = S at hS1
      have HS := hide hS
      clear hS
      go_wp2
      go_loopw [13] (fun i wr => ∃ j : Nat, j ≤ k ∧ i = .int .i64 j ∧ ∃ m, wr = w3.drewN m) (fun i _ => k - (intOf i).toNat)
      case atStart => exact ⟨0, Nat.zero_le _, rfl, 0, rfl⟩
      case round =>
        obtain ⟨j, hj, rfl, m, rfl⟩ := hrel
        by_cases hlt2 : j < k
        · obtain ⟨b, off, rfl, hbl, hc⟩ := z2'.at_ hlt2
          obtain ⟨b', off', rfl, hbl', hc'⟩ := z3.at_ hlt2
          have hq := lower_quota G.out T j (by rw [HNL.out]; exact hlt2)
          rw [HS.out] at hq
          have hl0 := (run_bd720 G.out (t := T) (by omega) j).1
          have hw0 := G.out.nn j
          have hp0 : 0 ≤ (T : Int) * nth ws j := Int.mul_nonneg hT0 hw0
          have hp1 : (T : Int) * nth ws j ≤ 720000000000 := by
            have := Int.mul_le_mul hT1 (badW_nth G.out.bad j).2 hw0 (by omega)
            omega
          have hd1 : decide (nth (run ws T) j < (T : Int) * nth ws j / S) = false := by simp; omega
          have hd2 : decide (nth (run ws T) j < 0) = false := by simp; omega
          have k1 : (0 : Int) ≤ (j : Int) := by omega
          have k2 : (j : Int) < (k : Int) := by omega
          by_cases hz : nth ws j = 0
          · have hz1 : (nth ws j == 0) = true := by simp [hz]
            have hl := G.out.zero T j hz
            have hd3 : decide (0 < nth (run ws T) j) = false := by simp [hl]
            have HQ := hide hq
            clear hz hl hq
            go_wp2
            go_quiet (fail)
            go_wp2
            go_roundw
            case rel => exact ⟨j + 1, by omega, by go_num, _, rfl⟩
            case measure => simp [intOf]; omega
          · have hz1 : (nth ws j == 0) = false := by simp [hz]
            have HQ := hide hq
            clear hz hq
            go_wp2
            go_quiet (fail)
            go_wp2
            go_roundw
            case rel => exact ⟨j + 1, by omega, by go_num, _, rfl⟩
            case measure => simp [intOf]; omega
        · go_wp2
          go_ret
          exact ⟨rfl, below_drewN B3.out _⟩
end Go.Proofs.Yteknmllcpemnoaa
