/-
  The walk of BalanceScales.
-/
import Derived.Test.YtamcnobdopcjgaaHead
import Derived.Test.YtamcnobdopcjgaaPlain
namespace Go.Proofs.Ytamcnobdopcjgaa
open Go.RowKit
set_option linter.unusedVariables false

theorem wf_u8 {x : Int} (h : (Lit.int .u8 x).wf = true) : 0 ≤ x ∧ x ≤ 255 := by
  simp only [Lit.wf, Bool.and_eq_true, IntKind.min, IntKind.max] at h
  simpa [IntKind.signed, IntKind.bits] using h
theorem wf_u16 {x : Int} (h : (Lit.int .u16 x).wf = true) : 0 ≤ x ∧ x ≤ 65535 := by
  simp only [Lit.wf, Bool.and_eq_true, IntKind.min, IntKind.max] at h
  simpa [IntKind.signed, IntKind.bits] using h

set_option maxRecDepth 100000 in
set_option maxHeartbeats 4000000 in
theorem law5_walk (A : Option Addr) (n c : Nat) (xs : List Int) (A' : Option Addr) (n' c' : Nat) (ys : List Int) (x y : Int) (w : World)
    (h : RI w w.heap.size A n xs) (hn : n ≤ maxLen) (_ : ∀ z ∈ xs, -9223372036854775808 ≤ z ∧ z ≤ 9223372036854775807) (h' : RI w w.heap.size A' n' ys) (hn' : n' ≤ maxLen) (_ : ∀ z ∈ ys, -9223372036854775808 ≤ z ∧ z ≤ 9223372036854775807)
    (wx : (Lit.int .u8 x).wf = true) (wy : (Lit.int .u8 y).wf = true) :
    Calls Try.prog 7 #[.slice A n c, .slice A' n' c', .int .u8 x, .int .u8 y] w fun e w' => e = .returned (.bool true) ∧ Below w.heap.size w w' := by
  obtain ⟨x0, x1⟩ := wf_u8 wx
  obtain ⟨y0, y1⟩ := wf_u8 wy
  clear wx wy
  have HN := hide hn
  have HN' := hide hn'
  have HL := hide h.len
  have HL' := hide h'.len
  cases hf : (decide (n ≤ 20) && decide (n' ≤ 20))
  · have HF := hide hf
    clear hf
    go_enter Try.func7, Try.ntmps7
    go_wp2_with fail
    refine (head_any _).mono ?_
    rintro e w1 ⟨rfl, hb1⟩
    go_wp2_with fail
    refine (few_any _ _ _ _ _ _ _ HN.out HN'.out).mono ?_
    rintro e w2 ⟨rfl, rfl⟩
    rw [HF.out]
    go_wp2
    go_ret
    exact ⟨rfl, hb1⟩
  have hnn : n ≤ 20 ∧ n' ≤ 20 := by simpa using hf
  obtain ⟨hn20, hn20'⟩ := hnn
  have HF := hide hf
  clear hf
  cases hv : vldB xs ys
  · have HV := hide hv
    clear hv
    go_enter Try.func7, Try.ntmps7
    go_wp2_with fail
    refine (head_any _).mono ?_
    rintro e w1 ⟨rfl, hb1⟩
    go_wp2_with fail
    refine (few_any _ _ _ _ _ _ _ HN.out HN'.out).mono ?_
    rintro e w2 ⟨rfl, rfl⟩
    rw [HF.out]
    have r1 := h.next hb1
    have r1' := h'.next hb1
    go_wp2_with fail
    refine (valid_any _ _ _ _ _ _ xs ys _ r1 r1' HN.out HN'.out).mono ?_
    rintro e w2 ⟨rfl, hb2⟩
    rw [HV.out]
    have r2 := r1.next hb2
    have r2' := r1'.next hb2
    have B2 := hide (hb1.trans (hb2.mono hb1.size))
    clear r1 r1' hb1 hb2
    go_wp2
    go_ret
    exact ⟨rfl, B2.out⟩
  have hx := vld_len hv
  have HV := hide hv
  have HB1 : Hid (allB xs ys = true) := by show _ = _; simp [allB, hv]
  have HA1 : Hid (allV xs ys = allL xs ys n) := by show _ = _; simp [allV, hv, HL.out]
  cases ht : vldB (timesL xs (1 + x % 8)) (timesL ys (1 + y % 8))
  · have HT := hide ht
    clear hv ht hx
    go_enter Try.func7, Try.ntmps7
    go_wp2_with fail
    refine (head_any _).mono ?_
    rintro e w1 ⟨rfl, hb1⟩
    go_wp2_with fail
    refine (few_any _ _ _ _ _ _ _ HN.out HN'.out).mono ?_
    rintro e w2 ⟨rfl, rfl⟩
    rw [HF.out]
    have r1 := h.next hb1
    have r1' := h'.next hb1
    go_wp2_with fail
    refine (valid_any _ _ _ _ _ _ xs ys _ r1 r1' HN.out HN'.out).mono ?_
    rintro e w2 ⟨rfl, hb2⟩
    rw [HV.out]
    have r2 := r1.next hb2
    have r2' := r1'.next hb2
    have B2 := hide (hb1.trans (hb2.mono hb1.size))
    clear r1 r1' hb1 hb2
    go_wp2_with fail
    refine (times_any _ _ _ xs _ _ r2 (by omega)).mono ?_
    rintro e w3 ⟨A3, c3, rfl, t3, hb3⟩
    have hl3 := timesL_len xs (1 + x % 8)
    rw [hl3, HL.out] at t3
    rw [hl3, HL.out]
    clear hl3
    have r3 := r2.next hb3
    have r3' := r2'.next hb3
    have B3 := hide (B2.out.trans (hb3.mono B2.out.size))
    clear r2 r2' B2 hb3
    go_wp2_with fail
    refine (times_any _ _ _ ys _ _ r3' (by omega)).mono ?_
    rintro e w4 ⟨A4, c4, rfl, s4, hb4⟩
    have hl4 := timesL_len ys (1 + y % 8)
    rw [hl4, HL'.out] at s4
    rw [hl4, HL'.out]
    clear hl4
    have r4 := r3.next hb4
    have r4' := r3'.next hb4
    have t4 := t3.next hb4
    have B4 := hide (B3.out.trans (hb4.mono B3.out.size))
    clear r3 r3' t3 B3 hb4
    go_wp2_with fail
    refine (valid_any _ _ _ _ _ _ _ _ _ t4 s4 HN.out HN'.out).mono ?_
    rintro e w5 ⟨rfl, hb5⟩
    rw [HT.out]
    have r5 := r4.next hb5
    have r5' := r4'.next hb5
    have B5 := hide (B4.out.trans (hb5.mono B4.out.size))
    clear r4 r4' t4 s4 B4 hb5
    go_wp2
    go_ret
    exact ⟨rfl, B5.out⟩
  · have HT := hide ht
    have HB2 : Hid (allB (timesL xs (1 + x % 8)) (timesL ys (1 + y % 8)) = true) := by show _ = _; simp [allB, ht]
    have HA2 : Hid (allV (timesL xs (1 + x % 8)) (timesL ys (1 + y % 8)) = allL (timesL xs (1 + x % 8)) (timesL ys (1 + y % 8)) n) := by show _ = _; simp [allV, ht, timesL_len, HL.out]
    clear hv ht hx
    go_enter Try.func7, Try.ntmps7
    go_wp2_with fail
    refine (head_any _).mono ?_
    rintro e w1 ⟨rfl, hb1⟩
    go_wp2_with fail
    refine (few_any _ _ _ _ _ _ _ HN.out HN'.out).mono ?_
    rintro e w2 ⟨rfl, rfl⟩
    rw [HF.out]
    have r1 := h.next hb1
    have r1' := h'.next hb1
    go_wp2_with fail
    refine (valid_any _ _ _ _ _ _ xs ys _ r1 r1' HN.out HN'.out).mono ?_
    rintro e w2 ⟨rfl, hb2⟩
    rw [HV.out]
    have r2 := r1.next hb2
    have r2' := r1'.next hb2
    have B2 := hide (hb1.trans (hb2.mono hb1.size))
    clear r1 r1' hb1 hb2
    go_wp2_with fail
    refine (times_any _ _ _ xs _ _ r2 (by omega)).mono ?_
    rintro e w3 ⟨A3, c3, rfl, t3, hb3⟩
    have hl3 := timesL_len xs (1 + x % 8)
    rw [hl3, HL.out] at t3
    rw [hl3, HL.out]
    clear hl3
    have r3 := r2.next hb3
    have r3' := r2'.next hb3
    have B3 := hide (B2.out.trans (hb3.mono B2.out.size))
    clear r2 r2' B2 hb3
    go_wp2_with fail
    refine (times_any _ _ _ ys _ _ r3' (by omega)).mono ?_
    rintro e w4 ⟨A4, c4, rfl, s4, hb4⟩
    have hl4 := timesL_len ys (1 + y % 8)
    rw [hl4, HL'.out] at s4
    rw [hl4, HL'.out]
    clear hl4
    have r4 := r3.next hb4
    have r4' := r3'.next hb4
    have t4 := t3.next hb4
    have B4 := hide (B3.out.trans (hb4.mono B3.out.size))
    clear r3 r3' t3 B3 hb4
    go_wp2_with fail
    refine (valid_any _ _ _ _ _ _ _ _ _ t4 s4 HN.out HN'.out).mono ?_
    rintro e w5 ⟨rfl, hb5⟩
    rw [HT.out]
    have r5 := r4.next hb5
    have r5' := r4'.next hb5
    have B5 := hide (B4.out.trans (hb5.mono B4.out.size))
    clear r4 r4' t4 s4 B4 hb5
    go_wp2_with fail
    refine (all_any _ _ _ _ _ _ xs ys _ r5 r5' (by omega) (by omega)).mono ?_
    rintro e w6 ⟨A6, c6, rfl, l6, hb6⟩
    rw [HB1.out, HA1.out, allL_len]
    rw [HA1.out, allL_len] at l6
    have r6 := r5.next hb6
    have r6' := r5'.next hb6
    have B6 := hide (B5.out.trans (hb6.mono B5.out.size))
    clear r5 r5' B5 hb6
    go_wp2_with fail
    refine (times_any _ _ _ xs _ _ r6 (by omega)).mono ?_
    rintro e w7 ⟨A7, c7, rfl, t7, hb7⟩
    have hl7 := timesL_len xs (1 + x % 8)
    rw [hl7, HL.out] at t7
    rw [hl7, HL.out]
    clear hl7
    have r7 := r6.next hb7
    have r7' := r6'.next hb7
    have B7 := hide (B6.out.trans (hb7.mono B6.out.size))
    have l7 := l6.next hb7
    clear r6 r6' B6 hb7 l6
    go_wp2_with fail
    refine (times_any _ _ _ ys _ _ r7' (by omega)).mono ?_
    rintro e w8 ⟨A8, c8, rfl, s8, hb8⟩
    have hl8 := timesL_len ys (1 + y % 8)
    rw [hl8, HL'.out] at s8
    rw [hl8, HL'.out]
    clear hl8
    have r8 := r7.next hb8
    have r8' := r7'.next hb8
    have t8 := t7.next hb8
    have B8 := hide (B7.out.trans (hb8.mono B7.out.size))
    have l8 := l7.next hb8
    clear r7 r7' t7 B7 hb8 l7
    go_wp2_with fail
    refine (all_any _ _ _ _ _ _ _ _ _ t8 s8 (by omega) (by omega)).mono ?_
    rintro e w9 ⟨A9, c9, rfl, m9, hb9⟩
    rw [HB2.out, HA2.out, allL_len]
    rw [HA2.out, allL_len] at m9
    have l9 := l8.next hb9
    have B9 := hide (B8.out.trans (hb9.mono B8.out.size))
    clear r8 r8' t8 s8 l8 B8 hb9
    go_wp2_with fail
    refine (times_any _ _ _ (allL xs ys n) _ _ l9 (by omega)).mono ?_
    rintro e w10 ⟨A10, c10, rfl, q10, hb10⟩
    rw [timesL_len, allL_len] at q10
    rw [timesL_len, allL_len]
    have m10 := m9.next hb10
    have B10 := hide (B9.out.trans (hb10.mono B9.out.size))
    clear l9 m9 B9 hb10
    go_wp2_with fail
    refine (ints_any _ _ _ _ _ _ _ _ _ m10 q10 HN.out HN.out).mono ?_
    rintro e w11 ⟨rfl, m, rfl⟩
    rw [decide_eq_true (by rw [all_times]; first | rfl | (simp only [timesL, W_mul_r]))]
    go_wp2
    go_ret
    exact ⟨rfl, below_drewN B10.out _⟩
end Go.Proofs.Ytamcnobdopcjgaa
