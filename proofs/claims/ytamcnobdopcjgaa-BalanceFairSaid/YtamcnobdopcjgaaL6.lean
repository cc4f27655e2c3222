/-
  The walk of BalanceFair.
-/
import Derived.Test.YtamcnobdopcjgaaL5
namespace Go.Proofs.Ytamcnobdopcjgaa
open Go.RowKit
set_option linter.unusedVariables false

set_option maxRecDepth 100000 in
set_option maxHeartbeats 4000000 in
theorem law6_walk (A : Option Addr) (n c : Nat) (xs : List Int) (x : Int) (w : World)
    (h : RI w w.heap.size A n xs) (hn : n ≤ maxLen) (_ : ∀ z ∈ xs, -9223372036854775808 ≤ z ∧ z ≤ 9223372036854775807) (wx : (Lit.int .u16 x).wf = true) :
    Calls Try.prog 8 #[.slice A n c, .int .u16 x] w fun e w' => e = .returned (.bool true) ∧ Below w.heap.size w w' := by
  obtain ⟨x0, x1⟩ := wf_u16 wx
  clear wx
  have HN := hide hn
  have HL := hide h.len
  cases hf : (decide (n ≤ 20) && decide (0 ≤ 20))
  · have HF := hide hf
    clear hf
    go_enter Try.func8, Try.ntmps8
    go_wp2_with fail
    refine (head_any _).mono ?_
    rintro e w1 ⟨rfl, hb1⟩
    go_wp2_with fail
    refine (few_any _ _ _ _ _ _ _ HN.out (Nat.zero_le _)).mono ?_
    rintro e w2 ⟨rfl, rfl⟩
    rw [HF.out]
    go_wp2
    go_ret
    exact ⟨rfl, hb1⟩
  have hn20 : n ≤ 20 := by simpa using hf
  have HF := hide hf
  clear hf
  cases hv : vldB xs (timesL xs (x % 1001))
  · have HV := hide hv
    by_cases h0 : n = 0
    · subst h0
      have HX : Hid (xs = []) := List.eq_nil_of_length_eq_zero HL.out
      have HB : Hid (allB xs (timesL xs (x % 1001)) = true) := by show _ = _; simp [allB, HX.out]
      have HA : Hid (allV xs (timesL xs (x % 1001)) = []) := by show _ = _; simp [allV, hv]
      clear hv
      go_enter Try.func8, Try.ntmps8
      go_wp2_with fail
      refine (head_any _).mono ?_
      rintro e w1 ⟨rfl, hb1⟩
      go_wp2_with fail
      refine (few_any _ _ _ _ _ _ _ HN.out (Nat.zero_le _)).mono ?_
      rintro e w2 ⟨rfl, rfl⟩
      rw [HF.out]
      have r1 := h.next hb1
      go_wp2_with fail
      refine (times_any _ _ _ xs _ _ r1 (by omega)).mono ?_
      rintro e w2 ⟨A2, c2, rfl, t2, hb2⟩
      have hl2 := timesL_len xs (x % 1001)
      rw [hl2, HL.out] at t2
      rw [hl2, HL.out]
      clear hl2
      have r2 := r1.next hb2
      have B2 := hide (hb1.trans (hb2.mono hb1.size))
      clear r1 hb1 hb2
      go_wp2_with fail
      refine (all_any _ _ _ _ _ _ xs _ _ r2 t2 (by omega) (by omega)).mono ?_
      rintro e w3 ⟨A3, c3, rfl, l3, hb3⟩
      rw [HB.out, HA.out]
      rw [HA.out] at l3
      have r3 := r2.next hb3
      have t3 := t2.next hb3
      have B3 := hide (B2.out.trans (hb3.mono B2.out.size))
      clear r2 t2 B2 hb3
      go_wp2_with fail
      refine (valid_any _ _ _ _ _ _ _ _ _ r3 t3 HN.out HN.out).mono ?_
      rintro e w4 ⟨rfl, hb4⟩
      rw [HV.out]
      have l4 := l3.next hb4
      have B4 := hide (B3.out.trans (hb4.mono B3.out.size))
      clear r3 t3 l3 B3 hb4
      go_wp2
      go_ret
      exact ⟨rfl, B4.out⟩
    · have HB : Hid (allB xs (timesL xs (x % 1001)) = false) := by
        have : xs.isEmpty = false := by
          cases xs with
          | nil => have := HL.out; simp at this; omega
          | cons => rfl
        show _ = _; simp [allB, this, hv]
      have HA : Hid (allV xs (timesL xs (x % 1001)) = []) := by show _ = _; simp [allV, hv]
      clear hv
      go_enter Try.func8, Try.ntmps8
      go_wp2_with fail
      refine (head_any _).mono ?_
      rintro e w1 ⟨rfl, hb1⟩
      go_wp2_with fail
      refine (few_any _ _ _ _ _ _ _ HN.out (Nat.zero_le _)).mono ?_
      rintro e w2 ⟨rfl, rfl⟩
      rw [HF.out]
      have r1 := h.next hb1
      go_wp2_with fail
      refine (times_any _ _ _ xs _ _ r1 (by omega)).mono ?_
      rintro e w2 ⟨A2, c2, rfl, t2, hb2⟩
      have hl2 := timesL_len xs (x % 1001)
      rw [hl2, HL.out] at t2
      rw [hl2, HL.out]
      clear hl2
      have r2 := r1.next hb2
      have B2 := hide (hb1.trans (hb2.mono hb1.size))
      clear r1 hb1 hb2
      go_wp2_with fail
      refine (all_any _ _ _ _ _ _ xs _ _ r2 t2 (by omega) (by omega)).mono ?_
      rintro e w3 ⟨A3, c3, rfl, l3, hb3⟩
      rw [HB.out, HA.out]
      rw [HA.out] at l3
      have r3 := r2.next hb3
      have t3 := t2.next hb3
      have B3 := hide (B2.out.trans (hb3.mono B2.out.size))
      clear r2 t2 B2 hb3
      go_wp2_with fail
      refine (valid_any _ _ _ _ _ _ _ _ _ r3 t3 HN.out HN.out).mono ?_
      rintro e w4 ⟨rfl, hb4⟩
      rw [HV.out]
      have l4 := l3.next hb4
      have B4 := hide (B3.out.trans (hb4.mono B3.out.size))
      clear r3 t3 l3 B3 hb4
      go_wp2
      go_ret
      exact ⟨rfl, B4.out⟩
  · have HV := hide hv
    have HB : Hid (allB xs (timesL xs (x % 1001)) = true) := by show _ = _; simp [allB, hv]
    have HA : Hid (allV xs (timesL xs (x % 1001)) = allL xs (timesL xs (x % 1001)) n) := by show _ = _; simp [allV, hv, HL.out]
    have HZ := hide (all_fair xs (x % 1001) n)
    clear hv
    go_enter Try.func8, Try.ntmps8
    go_wp2_with fail
    refine (head_any _).mono ?_
    rintro e w1 ⟨rfl, hb1⟩
    go_wp2_with fail
    refine (few_any _ _ _ _ _ _ _ HN.out (Nat.zero_le _)).mono ?_
    rintro e w2 ⟨rfl, rfl⟩
    rw [HF.out]
    have r1 := h.next hb1
    go_wp2_with fail
    refine (times_any _ _ _ xs _ _ r1 (by omega)).mono ?_
    rintro e w2 ⟨A2, c2, rfl, t2, hb2⟩
    have hl2 := timesL_len xs (x % 1001)
    rw [hl2, HL.out] at t2
    rw [hl2, HL.out]
    clear hl2
    have r2 := r1.next hb2
    have B2 := hide (hb1.trans (hb2.mono hb1.size))
    clear r1 hb1 hb2
    go_wp2_with fail
    refine (all_any _ _ _ _ _ _ xs _ _ r2 t2 (by omega) (by omega)).mono ?_
    rintro e w3 ⟨A3, c3, rfl, l3, hb3⟩
    rw [HB.out, HA.out]
    rw [HA.out] at l3
    have r3 := r2.next hb3
    have t3 := t2.next hb3
    have B3 := hide (B2.out.trans (hb3.mono B2.out.size))
    clear r2 t2 B2 hb3
    go_wp2_with fail
    refine (valid_any _ _ _ _ _ _ _ _ _ r3 t3 HN.out HN.out).mono ?_
    rintro e w4 ⟨rfl, hb4⟩
    rw [HV.out]
    have l4 := l3.next hb4
    have B4 := hide (B3.out.trans (hb4.mono B3.out.size))
    clear r3 t3 l3 B3 hb4
    rw [allL_len] at l4
    rw [allL_len]
    go_wp2
    go_loop [9] (fun i => ∃ k : Nat, k ≤ n ∧ i = .int .i64 k) (fun i => n - (intOf i).toNat)
    case atStart => exact ⟨0, Nat.zero_le _, rfl⟩
    case round =>
      obtain ⟨k, hk, rfl⟩ := hrel
      by_cases hlt : k < n
      · obtain ⟨b, off, rfl, hbl, hc⟩ := l4.at_ hlt
        rw [HZ.out k] at hc
        go_wp2
        go_round
        case rel => exact ⟨k + 1, by omega, by go_num⟩
        case measure => simp [intOf]; omega
      · obtain rfl : k = n := by omega
        go_wp2
        go_ret
        exact ⟨rfl, B4.out⟩
end Go.Proofs.Ytamcnobdopcjgaa
