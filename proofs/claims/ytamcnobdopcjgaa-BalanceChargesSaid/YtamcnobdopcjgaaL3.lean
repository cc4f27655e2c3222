/-
  The walk of BalanceCharges.
-/
import Derived.Test.YtamcnobdopcjgaaHead
import Derived.Test.YtamcnobdopcjgaaPlain
namespace Go.Proofs.Ytamcnobdopcjgaa
open Go.RowKit
set_option linter.unusedVariables false

set_option maxRecDepth 100000 in
set_option maxHeartbeats 4000000 in
theorem law3_walk (A : Option Addr) (n c : Nat) (xs : List Int) (A' : Option Addr) (n' c' : Nat) (ys : List Int) (p q s : Int) (w : World)
    (h : RI w w.heap.size A n xs) (hn : n ≤ maxLen) (_ : ∀ z ∈ xs, -9223372036854775808 ≤ z ∧ z ≤ 9223372036854775807) (h' : RI w w.heap.size A' n' ys) (hn' : n' ≤ maxLen) (_ : ∀ z ∈ ys, -9223372036854775808 ≤ z ∧ z ≤ 9223372036854775807)
    (_ : (Lit.int .i64 p).wf = true) (_ : (Lit.int .i64 q).wf = true) (_ : (Lit.int .i64 s).wf = true) :
    Calls Try.prog 5 #[.slice A n c, .slice A' n' c', .int .i64 p, .int .i64 q, .int .i64 s] w fun e w' => e = .returned (.bool true) ∧ Below w.heap.size w w' := by
  have HN := hide hn
  have HN' := hide hn'
  have HL := hide h.len
  have HL' := hide h'.len
  cases hf : (decide (n ≤ 20) && decide (n' ≤ 20))
  · have HF := hide hf
    clear hf
    go_enter Try.func5, Try.ntmps5
    go_wp2_with fail
    refine (head_any _).mono ?_
    rintro e w1 ⟨rfl, hb1⟩
    go_wp2_with fail
    refine (few_any _ _ _ _ _ _ _ HN.out HN'.out).mono ?_
    rintro e w2 ⟨rfl, rfl⟩
    rw [HF.out]
    go_wp2
    go_ret
    exact ⟨rfl, hb1⟩
  have HF := hide hf
  clear hf
  by_cases he : chgE xs ys p s = 0
  case neg =>
    have HC : Hid (chgL xs ys p s = []) := by show _ = _; simp [chgL, he]
    have hne : (chgE xs ys p s != 0) = true := by simp [he]
    clear he
    go_enter Try.func5, Try.ntmps5
    go_wp2_with fail
    refine (head_any _).mono ?_
    rintro e w1 ⟨rfl, hb1⟩
    go_wp2_with fail
    refine (few_any _ _ _ _ _ _ _ HN.out HN'.out).mono ?_
    rintro e w2 ⟨rfl, rfl⟩
    rw [HF.out]
    have r1 := h.next hb1
    have r1' := h'.next hb1
    go_wp2_with fail
    refine (charge_any _ _ _ _ _ _ xs ys _ _ _ r1 r1' HN.out HN'.out).mono ?_
    rintro e w2 ⟨A2, c2, rfl, z2, hb2⟩
    rw [HC.out]
    go_wp2
    go_ret
    exact ⟨rfl, hb1.trans (hb2.mono hb1.size)⟩
  obtain ⟨hv, hp0, hp1, hs0, hs1, hps⟩ := chgE_ok he
  obtain ⟨k, rfl⟩ := Int.eq_ofNat_of_zero_le hp0
  have hx := vld_len hv
  have HLL : Hid (n' = n) := by show _ = _; have := HL.out; have := HL'.out; omega
  have hk : k < xs.length := by omega
  have hu := vld_used hv (k := k) (by omega)
  have hv2 : vldB xs (ys.set k (nth ys k + s)) = true := vld_set hv (by omega) (by simpa using hps)
  have HE := hide he
  have HC : Hid (chgL xs ys (k : Int) s = ys.set k (nth ys k + s)) := by show _ = _; simp [chgL, he]
  have HB1 := hide (balF_ok hv hk)
  have HB2 := hide (balF_ok hv2 hk)
  have HO := hide (charge_one (s := s) hx.2.2 hk)
  have hn20 : n ≤ 16 := by have := HL.out; omega
  by_cases hq0 : q < 0
  · have HB3 : Hid (balF xs ys q = .tuple #[.int .i64 0, .int .i64 1]) := by
      have : ¬ 0 ≤ q := by omega
      show _ = _; simp [balF, balOk, this]
    have HB4 : Hid (balF xs (ys.set k (nth ys k + s)) q = .tuple #[.int .i64 0, .int .i64 1]) := by
      have : ¬ 0 ≤ q := by omega
      show _ = _; simp [balF, balOk, this]
    clear he hv hv2 hx
    go_enter Try.func5, Try.ntmps5
    go_wp2_with fail
    refine (head_any _).mono ?_
    rintro e w1 ⟨rfl, hb1⟩
    go_wp2_with fail
    refine (few_any _ _ _ _ _ _ _ HN.out HN'.out).mono ?_
    rintro e w2 ⟨rfl, rfl⟩
    rw [HF.out]
    have r1 := h.next hb1
    have r1' := h'.next hb1
    go_wp2_with fail
    refine (charge_any _ _ _ _ _ _ xs ys _ _ _ r1 r1' HN.out HN'.out).mono ?_
    rintro e w2 ⟨A2, c2, rfl, z2, hb2⟩
    rw [HE.out]
    rw [HC.out] at z2
    rw [HC.out]
    have hLs : (ys.set k (nth ys k + s)).length = n := by rw [List.length_set, HL'.out, HLL.out]
    rw [hLs] at z2
    rw [hLs]
    clear hLs
    have r2 := r1.next hb2
    have r2' := r1'.next hb2
    have B2 := hide (hb1.trans (hb2.mono hb1.size))
    clear r1 r1' hb1 hb2
    go_wp2_with fail
    refine (balance_any A A' n c n' c' xs ys (k : Int) _ r2 r2' HN.out HN'.out).mono ?_
    rw [HB1.out]
    rintro e w3 ⟨rfl, hb3⟩
    have r3 := r2.next hb3
    have r3' := r2'.next hb3
    have z3 := z2.next hb3
    have B3 := hide (B2.out.trans (hb3.mono B2.out.size))
    clear r2 r2' z2 hb3 B2
    go_wp2_with fail
    refine (balance_any A A2 n c n c2 xs (ys.set k (nth ys k + s)) (k : Int) _ r3 z3 HN.out HN.out).mono ?_
    rw [HB2.out]
    rintro e w4 ⟨rfl, hb4⟩
    have r4 := r3.next hb4
    have r4' := r3'.next hb4
    have z4 := z3.next hb4
    have B4 := hide (B3.out.trans (hb4.mono B3.out.size))
    clear r3 r3' z3 hb4 B3
    go_wp2
    go_loop [18, 19] (fun t i => ∃ j : Nat, j ≤ n ∧ i = .int .i64 j ∧ t = .int .i64 (restW xs (k : Int) j)) (fun _ i => n - (intOf i).toNat)
    case atStart => exact ⟨0, Nat.zero_le _, rfl, rfl⟩
    case round =>
      obtain ⟨j, hj, rfl, rfl⟩ := hrel
      by_cases hlt : j < n
      · obtain ⟨b, off, rfl, hbl, hc⟩ := r4.at_ hlt
        by_cases hjk : ((j : Int) != (k : Int)) = true
        · have HS := hide (restW_add (xs := xs) hjk)
          go_wp2
          go_round
          case rel => exact ⟨j + 1, by omega, by go_num, by rw [HS.out]⟩
          case measure => simp [intOf]; omega
        · have hjk' : ((j : Int) != (k : Int)) = false := by simpa using hjk
          have HS := hide (restW_skip (xs := xs) hjk')
          clear hjk
          go_wp2
          go_round
          case rel => exact ⟨j + 1, by omega, by go_num, by rw [HS.out]⟩
          case measure => simp [intOf]; omega
      · obtain rfl : j = n := by omega
        have hone : (balN xs (ys.set k (nth ys k + s)) (k : Int) != wrap64 (balN xs ys (k : Int) - wrap64 (s * restW xs (k : Int) j))) = false := by
          have := HO.out
          rw [HL.out] at this
          rw [this]; simp
        go_wp2_with fail
        refine (balance_any A A' _ c n' c' xs ys q _ r4 r4' HN.out HN'.out).mono ?_
        rw [HB3.out]
        rintro e w5 ⟨rfl, hb5⟩
        have r5 := r4.next hb5
        have z5 := z4.next hb5
        have B5 := hide (B4.out.trans (hb5.mono B4.out.size))
        clear r4 r4' z4 hb5 B4
        go_wp2_with fail
        refine (balance_any A A2 _ c _ c2 xs (ys.set k (nth ys k + s)) q _ r5 z5 HN.out HN.out).mono ?_
        rw [HB4.out]
        rintro e w6 ⟨rfl, hb6⟩
        have B6 := hide (B5.out.trans (hb6.mono B5.out.size))
        clear z5 B5
        clear r5
        go_wp2
        go_ret
        exact ⟨rfl, B6.out⟩

  by_cases hqn' : (n : Int) ≤ q
  · have HB3 : Hid (balF xs ys q = .tuple #[.int .i64 0, .int .i64 1]) := by
      have : ¬ q < xs.length := by rw [HL.out]; omega
      show _ = _; simp [balF, balOk, this]
    have HB4 : Hid (balF xs (ys.set k (nth ys k + s)) q = .tuple #[.int .i64 0, .int .i64 1]) := by
      have : ¬ q < xs.length := by rw [HL.out]; omega
      show _ = _; simp [balF, balOk, this]
    clear he hv hv2 hx
    go_enter Try.func5, Try.ntmps5
    go_wp2_with fail
    refine (head_any _).mono ?_
    rintro e w1 ⟨rfl, hb1⟩
    go_wp2_with fail
    refine (few_any _ _ _ _ _ _ _ HN.out HN'.out).mono ?_
    rintro e w2 ⟨rfl, rfl⟩
    rw [HF.out]
    have r1 := h.next hb1
    have r1' := h'.next hb1
    go_wp2_with fail
    refine (charge_any _ _ _ _ _ _ xs ys _ _ _ r1 r1' HN.out HN'.out).mono ?_
    rintro e w2 ⟨A2, c2, rfl, z2, hb2⟩
    rw [HE.out]
    rw [HC.out] at z2
    rw [HC.out]
    have hLs : (ys.set k (nth ys k + s)).length = n := by rw [List.length_set, HL'.out, HLL.out]
    rw [hLs] at z2
    rw [hLs]
    clear hLs
    have r2 := r1.next hb2
    have r2' := r1'.next hb2
    have B2 := hide (hb1.trans (hb2.mono hb1.size))
    clear r1 r1' hb1 hb2
    go_wp2_with fail
    refine (balance_any A A' n c n' c' xs ys (k : Int) _ r2 r2' HN.out HN'.out).mono ?_
    rw [HB1.out]
    rintro e w3 ⟨rfl, hb3⟩
    have r3 := r2.next hb3
    have r3' := r2'.next hb3
    have z3 := z2.next hb3
    have B3 := hide (B2.out.trans (hb3.mono B2.out.size))
    clear r2 r2' z2 hb3 B2
    go_wp2_with fail
    refine (balance_any A A2 n c n c2 xs (ys.set k (nth ys k + s)) (k : Int) _ r3 z3 HN.out HN.out).mono ?_
    rw [HB2.out]
    rintro e w4 ⟨rfl, hb4⟩
    have r4 := r3.next hb4
    have r4' := r3'.next hb4
    have z4 := z3.next hb4
    have B4 := hide (B3.out.trans (hb4.mono B3.out.size))
    clear r3 r3' z3 hb4 B3
    go_wp2
    go_loop [18, 19] (fun t i => ∃ j : Nat, j ≤ n ∧ i = .int .i64 j ∧ t = .int .i64 (restW xs (k : Int) j)) (fun _ i => n - (intOf i).toNat)
    case atStart => exact ⟨0, Nat.zero_le _, rfl, rfl⟩
    case round =>
      obtain ⟨j, hj, rfl, rfl⟩ := hrel
      by_cases hlt : j < n
      · obtain ⟨b, off, rfl, hbl, hc⟩ := r4.at_ hlt
        by_cases hjk : ((j : Int) != (k : Int)) = true
        · have HS := hide (restW_add (xs := xs) hjk)
          go_wp2
          go_round
          case rel => exact ⟨j + 1, by omega, by go_num, by rw [HS.out]⟩
          case measure => simp [intOf]; omega
        · have hjk' : ((j : Int) != (k : Int)) = false := by simpa using hjk
          have HS := hide (restW_skip (xs := xs) hjk')
          clear hjk
          go_wp2
          go_round
          case rel => exact ⟨j + 1, by omega, by go_num, by rw [HS.out]⟩
          case measure => simp [intOf]; omega
      · obtain rfl : j = n := by omega
        have hone : (balN xs (ys.set k (nth ys k + s)) (k : Int) != wrap64 (balN xs ys (k : Int) - wrap64 (s * restW xs (k : Int) j))) = false := by
          have := HO.out
          rw [HL.out] at this
          rw [this]; simp
        go_wp2_with fail
        refine (balance_any A A' _ c n' c' xs ys q _ r4 r4' HN.out HN'.out).mono ?_
        rw [HB3.out]
        rintro e w5 ⟨rfl, hb5⟩
        have r5 := r4.next hb5
        have z5 := z4.next hb5
        have B5 := hide (B4.out.trans (hb5.mono B4.out.size))
        clear r4 r4' z4 hb5 B4
        go_wp2_with fail
        refine (balance_any A A2 _ c _ c2 xs (ys.set k (nth ys k + s)) q _ r5 z5 HN.out HN.out).mono ?_
        rw [HB4.out]
        rintro e w6 ⟨rfl, hb6⟩
        have B6 := hide (B5.out.trans (hb6.mono B5.out.size))
        clear z5 B5
        clear r5
        go_wp2
        go_ret
        exact ⟨rfl, B6.out⟩

  obtain ⟨j, rfl⟩ := Int.eq_ofNat_of_zero_le (show 0 ≤ q by omega)
  have hqn : j < n := by omega
  have hqx : j < xs.length := by rw [HL.out]; exact hqn
  have HB3 := hide (balF_ok hv hqx)
  have HB4 := hide (balF_ok hv2 hqx)
  by_cases hjk : k = j
  · have heq : ((k : Int) == (j : Int)) = true := by simp [hjk]
    clear he hv hv2 hx hjk
    go_enter Try.func5, Try.ntmps5
    go_wp2_with fail
    refine (head_any _).mono ?_
    rintro e w1 ⟨rfl, hb1⟩
    go_wp2_with fail
    refine (few_any _ _ _ _ _ _ _ HN.out HN'.out).mono ?_
    rintro e w2 ⟨rfl, rfl⟩
    rw [HF.out]
    have r1 := h.next hb1
    have r1' := h'.next hb1
    go_wp2_with fail
    refine (charge_any _ _ _ _ _ _ xs ys _ _ _ r1 r1' HN.out HN'.out).mono ?_
    rintro e w2 ⟨A2, c2, rfl, z2, hb2⟩
    rw [HE.out]
    rw [HC.out] at z2
    rw [HC.out]
    have hLs : (ys.set k (nth ys k + s)).length = n := by rw [List.length_set, HL'.out, HLL.out]
    rw [hLs] at z2
    rw [hLs]
    clear hLs
    have r2 := r1.next hb2
    have r2' := r1'.next hb2
    have B2 := hide (hb1.trans (hb2.mono hb1.size))
    clear r1 r1' hb1 hb2
    go_wp2_with fail
    refine (balance_any A A' n c n' c' xs ys (k : Int) _ r2 r2' HN.out HN'.out).mono ?_
    rw [HB1.out]
    rintro e w3 ⟨rfl, hb3⟩
    have r3 := r2.next hb3
    have r3' := r2'.next hb3
    have z3 := z2.next hb3
    have B3 := hide (B2.out.trans (hb3.mono B2.out.size))
    clear r2 r2' z2 hb3 B2
    go_wp2_with fail
    refine (balance_any A A2 n c n c2 xs (ys.set k (nth ys k + s)) (k : Int) _ r3 z3 HN.out HN.out).mono ?_
    rw [HB2.out]
    rintro e w4 ⟨rfl, hb4⟩
    have r4 := r3.next hb4
    have r4' := r3'.next hb4
    have z4 := z3.next hb4
    have B4 := hide (B3.out.trans (hb4.mono B3.out.size))
    clear r3 r3' z3 hb4 B3
    go_wp2
    go_loop [18, 19] (fun t i => ∃ j : Nat, j ≤ n ∧ i = .int .i64 j ∧ t = .int .i64 (restW xs (k : Int) j)) (fun _ i => n - (intOf i).toNat)
    case atStart => exact ⟨0, Nat.zero_le _, rfl, rfl⟩
    case round =>
      obtain ⟨i, hj, rfl, rfl⟩ := hrel
      by_cases hlt : i < n
      · obtain ⟨b, off, rfl, hbl, hc⟩ := r4.at_ hlt
        by_cases hjk : ((i : Int) != (k : Int)) = true
        · have HS := hide (restW_add (xs := xs) hjk)
          go_wp2
          go_round
          case rel => exact ⟨i + 1, by omega, by go_num, by rw [HS.out]⟩
          case measure => simp [intOf]; omega
        · have hjk' : ((i : Int) != (k : Int)) = false := by simpa using hjk
          have HS := hide (restW_skip (xs := xs) hjk')
          clear hjk
          go_wp2
          go_round
          case rel => exact ⟨i + 1, by omega, by go_num, by rw [HS.out]⟩
          case measure => simp [intOf]; omega
      · obtain rfl : i = n := by omega
        have hone : (balN xs (ys.set k (nth ys k + s)) (k : Int) != wrap64 (balN xs ys (k : Int) - wrap64 (s * restW xs (k : Int) i))) = false := by
          have := HO.out
          rw [HL.out] at this
          rw [this]; simp
        go_wp2_with fail
        refine (balance_any A A' _ c n' c' xs ys (j : Int) _ r4 r4' HN.out HN'.out).mono ?_
        rw [HB3.out]
        rintro e w5 ⟨rfl, hb5⟩
        have r5 := r4.next hb5
        have z5 := z4.next hb5
        have B5 := hide (B4.out.trans (hb5.mono B4.out.size))
        clear r4 r4' z4 hb5 B4
        go_wp2_with fail
        refine (balance_any A A2 _ c _ c2 xs (ys.set k (nth ys k + s)) (j : Int) _ r5 z5 HN.out HN.out).mono ?_
        rw [HB4.out]
        rintro e w6 ⟨rfl, hb6⟩
        have B6 := hide (B5.out.trans (hb6.mono B5.out.size))
        clear z5 B5
        obtain ⟨b, off, rfl, hbl, hc⟩ := (r5.next hb6).at_ hqn
        go_wp2
        go_ret
        exact ⟨rfl, B6.out⟩

  · have heq : ((k : Int) == (j : Int)) = false := by rw [beq_eq_false_iff_ne]; omega
    have HT := hide (charge_two (s := s) hx.2.2 hk hjk)
    have htwo : (balN xs (ys.set k (nth ys k + s)) (j : Int) == wrap64 (balN xs ys (j : Int) + wrap64 (s * nth xs j))) = true := by rw [HT.out]; simp
    clear he hv hv2 hx hjk
    go_enter Try.func5, Try.ntmps5
    go_wp2_with fail
    refine (head_any _).mono ?_
    rintro e w1 ⟨rfl, hb1⟩
    go_wp2_with fail
    refine (few_any _ _ _ _ _ _ _ HN.out HN'.out).mono ?_
    rintro e w2 ⟨rfl, rfl⟩
    rw [HF.out]
    have r1 := h.next hb1
    have r1' := h'.next hb1
    go_wp2_with fail
    refine (charge_any _ _ _ _ _ _ xs ys _ _ _ r1 r1' HN.out HN'.out).mono ?_
    rintro e w2 ⟨A2, c2, rfl, z2, hb2⟩
    rw [HE.out]
    rw [HC.out] at z2
    rw [HC.out]
    have hLs : (ys.set k (nth ys k + s)).length = n := by rw [List.length_set, HL'.out, HLL.out]
    rw [hLs] at z2
    rw [hLs]
    clear hLs
    have r2 := r1.next hb2
    have r2' := r1'.next hb2
    have B2 := hide (hb1.trans (hb2.mono hb1.size))
    clear r1 r1' hb1 hb2
    go_wp2_with fail
    refine (balance_any A A' n c n' c' xs ys (k : Int) _ r2 r2' HN.out HN'.out).mono ?_
    rw [HB1.out]
    rintro e w3 ⟨rfl, hb3⟩
    have r3 := r2.next hb3
    have r3' := r2'.next hb3
    have z3 := z2.next hb3
    have B3 := hide (B2.out.trans (hb3.mono B2.out.size))
    clear r2 r2' z2 hb3 B2
    go_wp2_with fail
    refine (balance_any A A2 n c n c2 xs (ys.set k (nth ys k + s)) (k : Int) _ r3 z3 HN.out HN.out).mono ?_
    rw [HB2.out]
    rintro e w4 ⟨rfl, hb4⟩
    have r4 := r3.next hb4
    have r4' := r3'.next hb4
    have z4 := z3.next hb4
    have B4 := hide (B3.out.trans (hb4.mono B3.out.size))
    clear r3 r3' z3 hb4 B3
    go_wp2
    go_loop [18, 19] (fun t i => ∃ j : Nat, j ≤ n ∧ i = .int .i64 j ∧ t = .int .i64 (restW xs (k : Int) j)) (fun _ i => n - (intOf i).toNat)
    case atStart => exact ⟨0, Nat.zero_le _, rfl, rfl⟩
    case round =>
      obtain ⟨i, hj, rfl, rfl⟩ := hrel
      by_cases hlt : i < n
      · obtain ⟨b, off, rfl, hbl, hc⟩ := r4.at_ hlt
        by_cases hjk : ((i : Int) != (k : Int)) = true
        · have HS := hide (restW_add (xs := xs) hjk)
          go_wp2
          go_round
          case rel => exact ⟨i + 1, by omega, by go_num, by rw [HS.out]⟩
          case measure => simp [intOf]; omega
        · have hjk' : ((i : Int) != (k : Int)) = false := by simpa using hjk
          have HS := hide (restW_skip (xs := xs) hjk')
          clear hjk
          go_wp2
          go_round
          case rel => exact ⟨i + 1, by omega, by go_num, by rw [HS.out]⟩
          case measure => simp [intOf]; omega
      · obtain rfl : i = n := by omega
        have hone : (balN xs (ys.set k (nth ys k + s)) (k : Int) != wrap64 (balN xs ys (k : Int) - wrap64 (s * restW xs (k : Int) i))) = false := by
          have := HO.out
          rw [HL.out] at this
          rw [this]; simp
        go_wp2_with fail
        refine (balance_any A A' _ c n' c' xs ys (j : Int) _ r4 r4' HN.out HN'.out).mono ?_
        rw [HB3.out]
        rintro e w5 ⟨rfl, hb5⟩
        have r5 := r4.next hb5
        have z5 := z4.next hb5
        have B5 := hide (B4.out.trans (hb5.mono B4.out.size))
        clear r4 r4' z4 hb5 B4
        go_wp2_with fail
        refine (balance_any A A2 _ c _ c2 xs (ys.set k (nth ys k + s)) (j : Int) _ r5 z5 HN.out HN.out).mono ?_
        rw [HB4.out]
        rintro e w6 ⟨rfl, hb6⟩
        have B6 := hide (B5.out.trans (hb6.mono B5.out.size))
        clear z5 B5
        obtain ⟨b, off, rfl, hbl, hc⟩ := (r5.next hb6).at_ hqn
        go_wp2
        go_ret
        exact ⟨rfl, B6.out⟩

end Go.Proofs.Ytamcnobdopcjgaa
