/-
  The walk of ApportionNext.
-/
import Derived.Test.YteknmllcpemnoaaLaws
namespace Go.Proofs.Yteknmllcpemnoaa
open Go.RowKit Go.Deep
set_option linter.unusedVariables false

/-- The differences of two lists, added up as the loop does. -/
def difW (s s' : List Int) (k : Nat) : Int := wsum ((List.range k).map fun i => nth s' i - nth s i)
theorem difW_succ (s s' : List Int) (k : Nat) : difW s s' (k + 1) = wrap64 (difW s s' k + (nth s' k - nth s k)) := by
  simp only [difW, List.range_succ, List.map_append, List.map_cons, List.map_nil, wsum_snoc]
theorem range_sumTo (f : Nat → Int) (n : Nat) : ((List.range n).map f).sum = sumTo f n := by
  induction n with
  | zero => rfl
  | succ n ih => rw [List.range_succ, List.map_append, List.sum_append, ih]; simp [sumTo]
theorem sumTo_sub (f g : Nat → Int) (n : Nat) : sumTo (fun k => f k - g k) n = sumTo f n - sumTo g n := by
  induction n with
  | zero => rfl
  | succ n ih => simp only [sumTo, ih]; omega
theorem difW_all {w : List Int} (h : Good w) (t : Nat) : difW (run w t) (run w (t + 1)) w.length = 1 := by
  rw [difW, wsum_eq, range_sumTo, sumTo_sub]
  have e1 := sumTo_nth (run w t)
  have e2 := sumTo_nth (run w (t + 1))
  rw [run_len, run_sum h.pos] at e1 e2
  rw [e1, e2, show ((t + 1 : Nat) : Int) - (t : Int) = 1 by omega]
  exact W_in (by omega)
theorem step_one {w : List Int} (h : Good w) (t k : Nat) : nth (run w (t + 1)) k = nth (run w t) k ∨ nth (run w (t + 1)) k = nth (run w t) k + 1 := by
  simp only [run]
  rw [nth_bump (by rw [run_len]; exact best_lt _ _ h.pos)]
  split
  · rename_i e; rw [e]; exact .inr rfl
  · exact .inl rfl

set_option maxRecDepth 100000 in
set_option maxHeartbeats 8000000 in
theorem law3_walk (raw : Int) (A : Option Addr) (n c : Nat) (us : List Int) (w : World) (wr : (Lit.int .u16 raw).wf = true)
    (h : RK .u32 w w.heap.size A n us) (hn : n ≤ maxLen) (hu : ∀ z ∈ us, 0 ≤ z ∧ z ≤ 4294967295) :
    Calls Try.prog 5 #[.int .u16 raw, .slice A n c] w fun e w' => e = .returned (.bool true) ∧ Below w.heap.size w w' := by
  have HN := hide hn
  have HU := hide hu
  have HR := hide (wf_u16 wr)
  have HG := hide (valW_Good hu)
  have HVL := hide (valW_len us)
  obtain ⟨ws, HWS⟩ : ∃ ws, Hid (valW us = ws) := ⟨_, rfl⟩
  obtain ⟨T, HT⟩ : ∃ T : Nat, Hid (raw % 721 = T) := by
    have := HR.out
    exact ⟨(raw % 721).toNat, by show _ = _; omega⟩
  have hT0 : (0 : Int) ≤ (T : Int) := by omega
  have hT1 : (T : Int) ≤ 720 := by have := HT.out; omega
  have hT1' : T ≤ 720 := by omega
  have G : Hid (Good ws) := by have := HG.out; rw [HWS.out] at this; exact this
  have hwl : 1 ≤ ws.length ∧ ws.length ≤ 30 := by have := HVL.out; rwa [HWS.out] at this
  obtain ⟨N, HNL⟩ : ∃ N, Hid (ws.length = N) := ⟨_, rfl⟩
  have hN : 1 ≤ N ∧ N ≤ 30 := by have := HNL.out; omega
  have HRL : Hid ((run ws T).length = N) := by show _ = _; rw [run_len]; exact HNL.out
  obtain ⟨hN1, hN2⟩ := hN
  clear hu wr hn hwl HG HVL
  by_cases h720 : T = 720
  · have ht : ((T : Int) == 720) = true := by rw [beq_iff_eq]; omega
    have ht2 : (T : Int) = 720 := by omega
    have HT2 := hide ht2
    clear h720 ht2
    go_enter Try.func5, Try.ntmps5
    go_wp2_with fail
    refine (head_any _).mono ?_
    rintro e w1 ⟨rfl, hb1⟩
    have r1 := h.next hb1
    have B1 := hide hb1
    go_wp2_with fail
    refine (val_at _ _ _ us raw T ws HT.out HWS.out _ r1 HN.out HU.out HR.out).mono ?_
    rintro e w2 ⟨A2, c2, rfl, z2, hb2⟩
    rw [HNL.out] at z2
    rw [HNL.out]
    have B2 := hide (B1.out.trans (hb2.mono B1.out.size))
    clear r1 hb1 hb2 B1
    go_wp2
    go_ret
    exact ⟨rfl, B2.out⟩
  have ht : ((T : Int) == 720) = false := by rw [beq_eq_false_iff_ne]; omega
  have hT2 : T + 1 ≤ 720 := by omega
  have HRL2 : Hid ((run ws (T + 1)).length = N) := by show _ = _; rw [run_len]; exact HNL.out
  have HD : Hid (difW (run ws T) (run ws (T + 1)) N = 1) := by
    have := difW_all G.out T
    rwa [HNL.out] at this
  go_enter Try.func5, Try.ntmps5
  go_wp2_with fail
  refine (head_any _).mono ?_
  rintro e w1 ⟨rfl, hb1⟩
  have r1 := h.next hb1
  have B1 := hide hb1
  go_wp2_with fail
  refine (val_at _ _ _ us raw T ws HT.out HWS.out _ r1 HN.out HU.out HR.out).mono ?_
  rintro e w2 ⟨A2, c2, rfl, z2, hb2⟩
  rw [HNL.out] at z2
  rw [HNL.out]
  have B2 := hide (B1.out.trans (hb2.mono B1.out.size))
  clear r1 hb1 hb2 B1
  go_wp2_with fail
  refine (share_at _ _ _ ws T _ z2 G.out (by omega) hT1').mono ?_
  rintro e w3 ⟨A3, c3, rfl, z3, hb3⟩
  rw [HRL.out] at z3
  rw [HRL.out]
  have y3 := z2.next hb3
  have B3 := hide (B2.out.trans (hb3.mono B2.out.size))
  clear z2 hb3 B2
  go_wp2_with fail
  rw [show (T : Int) + 1 = ((T + 1 : Nat) : Int) from by omega]
  refine (share_at _ _ _ ws (T + 1) _ y3 G.out (by omega) hT2).mono ?_
  rintro e w4 ⟨A4, c4, rfl, z4, hb4⟩
  rw [HRL2.out] at z4
  rw [HRL2.out]
  have z3' := z3.next hb4
  have B4 := hide (B3.out.trans (hb4.mono B3.out.size))
  clear z3 y3 hb4 B3
  go_wp2
  go_loopw [12, 13] (fun s i wr => ∃ k : Nat, k ≤ N ∧ i = .int .i64 k ∧ s = .int .i64 (difW (run ws T) (run ws (T + 1)) k) ∧ ∃ m, wr = w4.drewN m) (fun _ i _ => N - (intOf i).toNat)
  case atStart => exact ⟨0, Nat.zero_le _, rfl, rfl, 0, rfl⟩
  case round =>
    obtain ⟨k, hk, rfl, rfl, m, rfl⟩ := hrel
    by_cases hlt : k < N
    · obtain ⟨b, off, rfl, hbl, hc⟩ := z3'.at_ hlt
      obtain ⟨b', off', rfl, hbl', hc'⟩ := z4.at_ hlt
      have HS := hide (difW_succ (run ws T) (run ws (T + 1)) k)
      obtain ⟨q1, q2⟩ := run_bd720 G.out (t := T) (by omega) k
      obtain ⟨q3, q4⟩ := run_bd720 G.out (t := T + 1) (by omega) k
      have k1 : (0 : Int) ≤ (k : Int) := by omega
      have k2 : (k : Int) < (N : Int) := by omega
      rcases step_one G.out T k with hs | hs
      · have hne : (nth (run ws (T + 1)) k != nth (run ws T) k) = false := by simp [hs]
        clear hs
        go_wp2
        go_quiet (fail)
        go_wp2
        go_quiet (fail)
        go_wp2
        go_roundw
        case rel => exact ⟨k + 1, by omega, by go_num, by rw [HS.out], _, rfl⟩
        case measure => simp [intOf]; omega
      · have hne : (nth (run ws (T + 1)) k != nth (run ws T) k) = true := by rw [bne_iff_ne]; omega
        have hne2 : (nth (run ws (T + 1)) k != nth (run ws T) k + 1) = false := by simp [hs]
        clear hs
        go_wp2
        go_quiet (fail)
        go_wp2
        go_quiet (fail)
        go_wp2
        go_roundw
        case rel => exact ⟨k + 1, by omega, by go_num, by rw [HS.out], _, rfl⟩
        case measure => simp [intOf]; omega
    · obtain rfl : k = N := by omega
      rw [HD.out]
      go_wp2
      go_ret
      exact ⟨rfl, below_drewN B4.out _⟩
end Go.Proofs.Yteknmllcpemnoaa
