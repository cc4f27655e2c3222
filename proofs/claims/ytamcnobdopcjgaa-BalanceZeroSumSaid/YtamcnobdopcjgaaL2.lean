/-
  The walk of BalanceZeroSum.
-/
import Derived.Test.YtamcnobdopcjgaaHead
import Derived.Test.YtamcnobdopcjgaaPlain
namespace Go.Proofs.Ytamcnobdopcjgaa
open Go.RowKit
set_option linter.unusedVariables false


set_option maxRecDepth 100000 in
set_option maxHeartbeats 2000000 in
theorem law2_walk (A : Option Addr) (n c : Nat) (xs : List Int) (A' : Option Addr) (n' c' : Nat) (ys : List Int) (w : World)
    (h : RI w w.heap.size A n xs) (hn : n ≤ maxLen) (_ : ∀ z ∈ xs, -9223372036854775808 ≤ z ∧ z ≤ 9223372036854775807) (h' : RI w w.heap.size A' n' ys) (hn' : n' ≤ maxLen) (_ : ∀ z ∈ ys, -9223372036854775808 ≤ z ∧ z ≤ 9223372036854775807) :
    Calls Try.prog 4 #[.slice A n c, .slice A' n' c'] w fun e w' => e = .returned (.bool true) ∧ Below w.heap.size w w' := by
  have HN := hide hn
  have HN' := hide hn'
  have HL := hide h.len
  have HL' := hide h'.len
  cases hf : (decide (n ≤ 20) && decide (n' ≤ 20))
  · have HF := hide hf
    clear hf
    go_enter Try.func4, Try.ntmps4
    go_wp2_with fail
    refine (head_any _).mono ?_
    rintro e w1 ⟨rfl, hb1⟩
    go_wp2_with fail
    refine (few_any _ _ _ _ _ _ _ HN.out HN'.out).mono ?_
    rintro e w2 ⟨rfl, rfl⟩
    rw [HF.out]
    go_wp2
    go_ret
    exact ⟨rfl, hb1⟩
  have hnn : n ≤ 20 ∧ n' ≤ 20 := by simpa using hf
  obtain ⟨hn20, hn20'⟩ := hnn
  have HF := hide hf
  clear hf
  cases hv : vldB xs ys
  · have HV := hide hv
    clear hv
    by_cases h0 : n = 0
    · subst h0
      have HX : Hid (xs = []) := List.eq_nil_of_length_eq_zero HL.out
      have HB : Hid (allB xs ys = true) := by show _ = _; simp [allB, HX.out]
      go_enter Try.func4, Try.ntmps4
      go_wp2_with fail
      refine (head_any _).mono ?_
      rintro e w1 ⟨rfl, hb1⟩
      go_wp2_with fail
      refine (few_any _ _ _ _ _ _ _ HN.out HN'.out).mono ?_
      rintro e w2 ⟨rfl, rfl⟩
      rw [HF.out]
      have r := h.next hb1
      have r' := h'.next hb1
      go_wp2_with fail
      refine (all_any A A' 0 c n' c' xs ys _ r r' (by omega) (by omega)).mono ?_
      rintro e w2 ⟨A2, c2, rfl, r2, hb2⟩
      rw [HB.out]
      go_wp2_with fail
      refine (valid_any A A' 0 c n' c' xs ys _ (r.next hb2) (r'.next hb2) HN.out HN'.out).mono ?_
      rintro e w3 ⟨rfl, hb3⟩
      rw [HV.out]
      go_wp2
      go_ret
      exact ⟨rfl, hb1.trans ((hb2.trans (hb3.mono hb2.size)).mono hb1.size)⟩
    · have HB : Hid (allB xs ys = false) := by
        have : xs.isEmpty = false := by
          cases xs with
          | nil => have := HL.out; simp at this; omega
          | cons => rfl
        show _ = _; simp [allB, this, HV.out]
      go_enter Try.func4, Try.ntmps4
      go_wp2_with fail
      refine (head_any _).mono ?_
      rintro e w1 ⟨rfl, hb1⟩
      go_wp2_with fail
      refine (few_any _ _ _ _ _ _ _ HN.out HN'.out).mono ?_
      rintro e w2 ⟨rfl, rfl⟩
      rw [HF.out]
      have r := h.next hb1
      have r' := h'.next hb1
      go_wp2_with fail
      refine (all_any A A' n c n' c' xs ys _ r r' (by omega) (by omega)).mono ?_
      rintro e w2 ⟨A2, c2, rfl, r2, hb2⟩
      rw [HB.out]
      go_wp2_with fail
      refine (valid_any A A' n c n' c' xs ys _ (r.next hb2) (r'.next hb2) HN.out HN'.out).mono ?_
      rintro e w3 ⟨rfl, hb3⟩
      rw [HV.out]
      go_wp2
      go_ret
      exact ⟨rfl, hb1.trans ((hb2.trans (hb3.mono hb2.size)).mono hb1.size)⟩
  · have HB : Hid (allB xs ys = true) := by show _ = _; simp [allB, hv]
    have HA : Hid (allV xs ys = allL xs ys n) := by show _ = _; simp [allV, hv, HL.out]
    have HZ := hide (zero_sum (vld_len hv).2.2)
    have HV := hide hv
    clear hv
    go_enter Try.func4, Try.ntmps4
    go_wp2_with fail
    refine (head_any _).mono ?_
    rintro e w1 ⟨rfl, hb1⟩
    go_wp2_with fail
    refine (few_any _ _ _ _ _ _ _ HN.out HN'.out).mono ?_
    rintro e w2 ⟨rfl, rfl⟩
    rw [HF.out]
    have r := h.next hb1
    have r' := h'.next hb1
    go_wp2_with fail
    refine (all_any A A' n c n' c' xs ys _ r r' (by omega) (by omega)).mono ?_
    rintro e w2 ⟨A2, c2, rfl, r2, hb2⟩
    rw [HB.out]
    rw [HA.out, allL_len] at r2
    rw [HA.out, allL_len]
    go_wp2_with fail
    refine (valid_any A A' n c n' c' xs ys _ (r.next hb2) (r'.next hb2) HN.out HN'.out).mono ?_
    rintro e w3 ⟨rfl, hb3⟩
    rw [HV.out]
    have r3 := r2.next hb3
    have B3 := hide (hb1.trans ((hb2.trans (hb3.mono hb2.size)).mono hb1.size))
    clear r2
    go_wp2
    go_loop [8, 9] (fun t i => ∃ k : Nat, k ≤ n ∧ i = .int .i64 k ∧ t = .int .i64 (wsum ((allL xs ys n).take k))) (fun _ i => n - (intOf i).toNat)
    case atStart => exact ⟨0, Nat.zero_le _, rfl, rfl⟩
    case round =>
      obtain ⟨k, hk, rfl, rfl⟩ := hrel
      by_cases hlt : k < n
      · obtain ⟨b, off, rfl, hbl, hc⟩ := r3.at_ hlt
        have HS : Hid (wsum ((allL xs ys n).take (k + 1)) = wrap64 (wsum ((allL xs ys n).take k) + nth (allL xs ys n) k)) := by
          show _ = _
          rw [nth_take (by rw [allL_len]; exact hlt), wsum_snoc]
        go_wp2
        go_round
        case rel => exact ⟨k + 1, by omega, by go_num, by rw [HS.out]⟩
        case measure => simp [intOf]; omega
      · have HT : Hid (wsum ((allL xs ys n).take k) = 0) := by
          show _ = _
          rw [List.take_of_length_le (by rw [allL_len]; omega)]
          have := HZ.out
          rwa [HL.out] at this
        have ht : (wsum ((allL xs ys n).take k) == 0) = true := by rw [HT.out]; rfl
        go_wp2
        go_ret
        exact ⟨rfl, B3.out⟩
end Go.Proofs.Ytamcnobdopcjgaa
