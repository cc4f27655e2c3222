/-
  The middle of chapter 26: Valid, Ints (both texts).
-/
import Derived.Test.YtamcnobdopcjgaaLeaf
namespace Go.Proofs.Ytamcnobdopcjgaa
open Go.RowKit

/-- Shares and accounts belong together. -/
def vldB (xs ys : List Int) : Bool := decide (1 ≤ xs.length) && decide (xs.length ≤ 16) && decide (ys.length = xs.length) && !xs.any (outB 1 1000) && !ys.any (outB 0 1000000)

set_option maxHeartbeats 400000 in
theorem valid_any (A A' : Option Addr) (n c n' c' : Nat) (xs ys : List Int) (w : World) (h : RI w w.heap.size A n xs) (h' : RI w w.heap.size A' n' ys) (hn : n ≤ maxLen) (hn' : n' ≤ maxLen) :
    Calls Try.prog 15 #[.slice A n c, .slice A' n' c'] w fun e w' => e = .returned (.bool (vldB xs ys)) ∧ Below w.heap.size w w' := by
  have HN := hide hn
  have HN' := hide hn'
  unfold maxLen at hn hn'
  have HL : Hid (xs.length = n) := h.len
  have HL' : Hid (ys.length = n') := h'.len
  by_cases h1 : n < 1
  · go_enter Try.func15, Try.ntmps15
    go_wp2
    go_ret
    exact ⟨ret_bool (by have := HL.out; have := HL'.out; simp [vldB]; omega), Below.refl _ _⟩
  by_cases h2 : 16 < n
  · go_enter Try.func15, Try.ntmps15
    go_wp2
    go_ret
    exact ⟨ret_bool (by have := HL.out; have := HL'.out; simp [vldB]; omega), Below.refl _ _⟩
  by_cases h3 : n' = n
  case neg =>
    have hb : ((n' : Int) != (n : Int)) = true := by rw [bne_iff_ne]; omega
    go_enter Try.func15, Try.ntmps15
    go_wp2
    go_ret
    exact ⟨ret_bool (by have := HL.out; have := HL'.out; simp [vldB]; omega), Below.refl _ _⟩
  subst h3
  have HV : Hid (vldB xs ys = (!xs.any (outB 1 1000) && !ys.any (outB 0 1000000))) := by
    show _ = _
    have h3 := HL.out
    have h4 := HL'.out
    simp only [vldB]
    rw [decide_eq_true (show 1 ≤ xs.length by omega), decide_eq_true (show xs.length ≤ 16 by omega), decide_eq_true (show ys.length = xs.length by omega)]
    simp
  cases ha : xs.any (outB 1 1000)
  · have HA := hide ha
    clear ha
    go_enter Try.func15, Try.ntmps15
    go_wp2_with fail
    refine (outside_any 1 1000 _).mono ?_
    rintro e w1 ⟨p, q, rfl, hb, hp, hq⟩
    go_wp2_with fail
    refine (contains_any A n' c xs 1 1000 p q w1 (h.next hb) HN hp hq).mono ?_
    rintro e w2 ⟨rfl, rfl⟩
    rw [HA.out]
    go_wp2_with fail
    refine (outside_any 0 1000000 _).mono ?_
    rintro e w2 ⟨p', q', rfl, hb', hp', hq'⟩
    go_wp2_with fail
    refine (contains_any A' n' c' ys 0 1000000 p' q' w2 ((h'.next hb).next hb') HN hp' hq').mono ?_
    rintro e w3 ⟨rfl, rfl⟩
    go_wp2
    go_ret
    exact ⟨ret_bool (by rw [HV.out, HA.out]; rfl), hb.trans (hb'.mono hb.size)⟩
  · have HA := hide ha
    clear ha
    go_enter Try.func15, Try.ntmps15
    go_wp2_with fail
    refine (outside_any 1 1000 _).mono ?_
    rintro e w1 ⟨p, q, rfl, hb, hp, hq⟩
    go_wp2_with fail
    refine (contains_any A n' c xs 1 1000 p q w1 (h.next hb) HN hp hq).mono ?_
    rintro e w2 ⟨rfl, rfl⟩
    rw [HA.out]
    go_wp2
    go_ret
    exact ⟨ret_bool (by rw [HV.out, HA.out]; rfl), hb⟩

theorem vld_bad1 {xs ys : List Int} {k : Nat} (h : k < xs.length) (hx : outB 1 1000 (nth xs k) = true) : vldB xs ys = false := by
  have : xs.any (outB 1 1000) = true := List.any_eq_true.2 ⟨_, nth_mem h, hx⟩
  simp only [vldB, this]; simp
theorem vld_bad2 {xs ys : List Int} {k : Nat} (h : k < ys.length) (hx : outB 0 1000000 (nth ys k) = true) : vldB xs ys = false := by
  have : ys.any (outB 0 1000000) = true := List.any_eq_true.2 ⟨_, nth_mem h, hx⟩
  simp only [vldB, this]; simp
def anyBad (xs ys : List Int) (k : Nat) : Bool := (xs.take k).any (outB 1 1000) || (ys.take k).any (outB 0 1000000)

set_option maxHeartbeats 400000 in
theorem rvalid_any (A A' : Option Addr) (n c n' c' : Nat) (xs ys : List Int) (w : World) (h : RI w w.heap.size A n xs) (h' : RI w w.heap.size A' n' ys) (hn : n ≤ maxLen) (hn' : n' ≤ maxLen) :
    Calls Try.prog 16 #[.slice A n c, .slice A' n' c'] w fun e w' => e = .returned (.bool (vldB xs ys)) ∧ w = w' := by
  unfold maxLen at hn hn'
  have HL : Hid (xs.length = n) := h.len
  have HL' : Hid (ys.length = n') := h'.len
  by_cases h1 : n < 1
  · go_enter Try.func16, Try.ntmps16
    go_wp2
    go_ret
    exact ⟨ret_bool (by have := HL.out; have := HL'.out; simp [vldB]; omega), rfl⟩
  by_cases h2 : 16 < n
  · go_enter Try.func16, Try.ntmps16
    go_wp2
    go_ret
    exact ⟨ret_bool (by have := HL.out; have := HL'.out; simp [vldB]; omega), rfl⟩
  by_cases h3 : n' = n
  case neg =>
    have hb : ((n' : Int) != (n : Int)) = true := by rw [bne_iff_ne]; omega
    go_enter Try.func16, Try.ntmps16
    go_wp2
    go_ret
    exact ⟨ret_bool (by have := HL.out; have := HL'.out; simp [vldB]; omega), rfl⟩
  subst h3
  have HV : Hid (vldB xs ys = (!xs.any (outB 1 1000) && !ys.any (outB 0 1000000))) := by
    show _ = _
    have h3 := HL.out
    have h4 := HL'.out
    simp only [vldB]
    rw [decide_eq_true (show 1 ≤ xs.length by omega), decide_eq_true (show xs.length ≤ 16 by omega), decide_eq_true (show ys.length = xs.length by omega)]
    simp
  go_enter Try.func16, Try.ntmps16
  go_wp2
  go_loop [5] (fun i => ∃ k : Nat, k ≤ n' ∧ i = .int .i64 k ∧ anyBad xs ys k = false) (fun i => n' - (intOf i).toNat)
  case atStart => exact ⟨0, Nat.zero_le _, rfl, rfl⟩
  case round =>
    obtain ⟨k, hk, rfl, hr⟩ := hrel
    have HR := hide hr
    clear hr
    by_cases hlt : k < n'
    · obtain ⟨b, off, rfl, hb, hc⟩ := h.at_ hlt
      obtain ⟨b', off', rfl, hb', hc'⟩ := h'.at_ hlt
      have HT : Hid (anyBad xs ys (k + 1) = (outB 1 1000 (nth xs k) || outB 0 1000000 (nth ys k))) := by
        have h1 := HR.out
        simp only [anyBad, Bool.or_eq_false_iff] at h1
        show _ = _
        simp only [anyBad]
        rw [nth_take (xs := xs) (by rw [HL.out]; exact hlt), nth_take (xs := ys) (by rw [HL'.out]; exact hlt), List.any_append, List.any_append, h1.1, h1.2]
        simp
      by_cases g1 : nth xs k < 1
      · go_wp2
        go_ret
        exact ⟨ret_bool (vld_bad1 (k := k) (by rw [HL.out]; exact hlt) (by simp [outB]; omega)).symm, rfl⟩
      · by_cases g2 : 1000 < nth xs k
        · go_wp2
          go_ret
          exact ⟨ret_bool (vld_bad1 (k := k) (by rw [HL.out]; exact hlt) (by simp [outB]; omega)).symm, rfl⟩
        · by_cases g3 : nth ys k < 0
          · go_wp2
            go_ret
            exact ⟨ret_bool (vld_bad2 (k := k) (by rw [HL'.out]; exact hlt) (by simp [outB]; omega)).symm, rfl⟩
          · by_cases g4 : 1000000 < nth ys k
            · go_wp2
              go_ret
              exact ⟨ret_bool (vld_bad2 (k := k) (by rw [HL'.out]; exact hlt) (by simp [outB]; omega)).symm, rfl⟩
            · go_wp2
              go_round
              case rel => exact ⟨k + 1, by omega, by go_num, by rw [HT.out]; simp [outB]; omega⟩
              case measure => simp [intOf]; omega
    · go_wp2
      go_ret
      have h1 := HR.out
      simp only [anyBad] at h1
      rw [List.take_of_length_le (by rw [HL.out]; omega), List.take_of_length_le (by rw [HL'.out]; omega)] at h1
      simp at h1
      exact ⟨ret_bool (by rw [HV.out]; simp; exact ⟨h1.1, h1.2⟩), rfl⟩

set_option maxHeartbeats 400000 in
theorem ints_any (A A' : Option Addr) (n c n' c' : Nat) (xs ys : List Int) (w : World) (h : RI w w.heap.size A n xs) (h' : RI w w.heap.size A' n' ys) (hn : n ≤ maxLen) (hn' : n' ≤ maxLen) :
    Calls Try.prog 17 #[.slice A n c, .slice A' n' c'] w fun e w' => e = .returned (.bool (decide (xs = ys))) ∧ ∃ m, w' = w.drewN m := by
  unfold maxLen at hn hn'
  have HL : Hid (xs.length = n) := h.len
  have HL' : Hid (ys.length = n') := h'.len
  by_cases h3 : n = n'
  case neg =>
    have hb : ((n : Int) != (n' : Int)) = true := by rw [bne_iff_ne]; omega
    have HE : Hid (¬ xs = ys) := by
      show ¬ _
      rintro rfl
      exact h3 (HL.out.symm.trans HL'.out)
    go_enter Try.func17, Try.ntmps17
    go_wp2
    go_ret
    exact ⟨ret_bool (decide_eq_false HE.out).symm, 0, rfl⟩
  subst h3
  go_enter Try.func17, Try.ntmps17
  go_wp2
  go_loopw [5] (fun i wr => ∃ k : Nat, k ≤ n ∧ i = .int .i64 k ∧ xs.take k = ys.take k ∧ ∃ m, wr = w.drewN m) (fun i _ => n - (intOf i).toNat)
  case atStart => exact ⟨0, Nat.zero_le _, rfl, rfl, 0, rfl⟩
  case round =>
    obtain ⟨k, hk, rfl, hr, m, rfl⟩ := hrel
    have HR := hide hr
    clear hr
    by_cases hlt : k < n
    · obtain ⟨b, off, rfl, hb, hc⟩ := h.at_ hlt
      obtain ⟨b', off', rfl, hb', hc'⟩ := h'.at_ hlt
      have hk1 : (0 : Int) ≤ (k : Int) := by omega
      have hk2 : (k : Int) < (n : Int) := by omega
      by_cases he : nth xs k = nth ys k
      · have hne : (nth xs k != nth ys k) = false := by simp [he]
        have HE := hide he
        clear he
        go_wp2
        go_quiet (fail)
        go_wp2
        go_roundw
        case rel => exact ⟨k + 1, by omega, by go_num, by rw [nth_take (xs := xs) (by rw [HL.out]; exact hlt), nth_take (xs := ys) (by rw [HL'.out]; exact hlt), HR.out, HE.out], _, rfl⟩
        case measure => simp [intOf]; omega
      · have hne : (nth xs k != nth ys k) = true := by simp [he]
        have HE : Hid (¬ xs = ys) := by
          show ¬ _
          rintro rfl
          exact he rfl
        clear he
        go_wp2
        go_quiet (fail)
        go_wp2
        go_ret
        exact ⟨ret_bool (decide_eq_false HE.out).symm, _, World.drewN_drewN _ _ _⟩
    · go_wp2
      go_ret
      have h1 := HR.out
      rw [List.take_of_length_le (by rw [HL.out]; omega), List.take_of_length_le (by rw [HL'.out]; omega)] at h1
      exact ⟨ret_bool (decide_eq_true h1).symm, _, rfl⟩

/-- Balance as it is computed: the number and the error. -/
def balN (xs ys : List Int) (p : Int) : Int := wrap64 (wrap64 (nth xs p.toNat * wsum ys) - wrap64 (nth ys p.toNat * wsum xs))
def balOk (xs ys : List Int) (p : Int) : Bool := vldB xs ys && decide (0 ≤ p) && decide (p < xs.length)
def balF (xs ys : List Int) (p : Int) : Value := if balOk xs ys p then .tuple #[.int .i64 (balN xs ys p), .int .i64 0] else .tuple #[.int .i64 0, .int .i64 1]

theorem vld_len {xs ys : List Int} (h : vldB xs ys = true) : 1 ≤ xs.length ∧ xs.length ≤ 16 ∧ ys.length = xs.length := by
  simp only [vldB, Bool.and_eq_true, decide_eq_true_eq] at h
  exact ⟨h.1.1.1.1, h.1.1.1.2, h.1.1.2⟩

set_option maxHeartbeats 800000 in
theorem balance_any (A A' : Option Addr) (n c n' c' : Nat) (xs ys : List Int) (p : Int) (w : World) (h : RI w w.heap.size A n xs) (h' : RI w w.heap.size A' n' ys) (hn : n ≤ maxLen) (hn' : n' ≤ maxLen) :
    Calls Try.prog 11 #[.slice A n c, .slice A' n' c', .int .i64 p] w fun e w' => e = .returned (balF xs ys p) ∧ Below w.heap.size w w' := by
  have HN := hide hn
  have HN' := hide hn'
  unfold maxLen at hn hn'
  have HL : Hid (xs.length = n) := h.len
  have HL' : Hid (ys.length = n') := h'.len
  cases hv : vldB xs ys
  · have HV := hide hv
    clear hv
    go_enter Try.func11, Try.ntmps11
    go_wp2_with fail
    refine (valid_any A A' n c n' c' xs ys _ h h' HN HN').mono ?_
    rintro e w1 ⟨rfl, hb⟩
    rw [HV.out]
    go_wp2
    go_ret2
    exact ⟨by simp [balF, balOk, HV.out], hb⟩
  · have HX := hide (vld_len hv)
    have HV := hide hv
    clear hv
    by_cases h1 : p < 0
    · go_enter Try.func11, Try.ntmps11
      go_wp2_with fail
      refine (valid_any A A' n c n' c' xs ys _ h h' HN HN').mono ?_
      rintro e w1 ⟨rfl, hb⟩
      rw [HV.out]
      go_wp2
      go_ret2
      exact ⟨by have : ¬ 0 ≤ p := by omega
                simp [balF, balOk, this], hb⟩
    by_cases h2 : (n : Int) ≤ p
    · go_enter Try.func11, Try.ntmps11
      go_wp2_with fail
      refine (valid_any A A' n c n' c' xs ys _ h h' HN HN').mono ?_
      rintro e w1 ⟨rfl, hb⟩
      rw [HV.out]
      go_wp2
      go_ret2
      exact ⟨by have : ¬ p < xs.length := by rw [HL.out]; omega
                simp [balF, balOk, this], hb⟩
    have h3 : (0 : Int) ≤ p := by omega
    have h4 : p < (n : Int) := by omega
    have h5 : p < (n' : Int) := by have := HX.out; rw [HL.out, HL'.out] at this; omega
    have HF : Hid (balF xs ys p = .tuple #[.int .i64 (balN xs ys p), .int .i64 0]) := by
      show _ = _
      have : p < xs.length := by rw [HL.out]; omega
      simp [balF, balOk, HV.out, h3, this]
    obtain ⟨k, rfl⟩ := Int.eq_ofNat_of_zero_le h3
    have h4' : k < n := by omega
    have h5' : k < n' := by omega
    go_enter Try.func11, Try.ntmps11
    go_wp2_with fail
    refine (valid_any A A' n c n' c' xs ys _ h h' HN HN').mono ?_
    rintro e w1 ⟨rfl, hb⟩
    rw [HV.out]
    have r := h.next hb
    have r' := h'.next hb
    obtain ⟨b, off, rfl, _, hc⟩ := r.at_ h4'
    obtain ⟨b', off', rfl, _, hc'⟩ := r'.at_ h5'
    go_wp2
    go_quiet ((go_at_call 20; first | with_reducible exact quiet_left (sum_any _ n c xs _ (r.drewNs _) HN.out) | with_reducible exact quiet_left (sum_any _ n' c' ys _ (r'.drewNs _) HN'.out)))
    go_wp2
    go_ret2
    exact ⟨by rw [HF.out]; rfl, below_drewN hb _⟩
theorem rvalid_below (A A' : Option Addr) (n c n' c' : Nat) (xs ys : List Int) (w : World) (h : RI w w.heap.size A n xs) (h' : RI w w.heap.size A' n' ys) (hn : n ≤ maxLen) (hn' : n' ≤ maxLen) :
    Calls Try.prog 16 #[.slice A n c, .slice A' n' c'] w fun e w' => e = .returned (.bool (vldB xs ys)) ∧ Below w.heap.size w w' :=
  (rvalid_any A A' n c n' c' xs ys w h h' hn hn').mono fun _ _ ⟨he, hw⟩ => ⟨he, hw ▸ Below.refl _ _⟩

set_option maxHeartbeats 800000 in
theorem rbalance_any (A A' : Option Addr) (n c n' c' : Nat) (xs ys : List Int) (p : Int) (w : World) (h : RI w w.heap.size A n xs) (h' : RI w w.heap.size A' n' ys) (hn : n ≤ maxLen) (hn' : n' ≤ maxLen) :
    Calls Try.prog 12 #[.slice A n c, .slice A' n' c', .int .i64 p] w fun e w' => e = .returned (balF xs ys p) ∧ Below w.heap.size w w' := by
  have HN := hide hn
  have HN' := hide hn'
  unfold maxLen at hn hn'
  have HL : Hid (xs.length = n) := h.len
  have HL' : Hid (ys.length = n') := h'.len
  cases hv : vldB xs ys
  · have HV := hide hv
    clear hv
    go_enter Try.func12, Try.ntmps12
    go_wp2_with fail
    refine (rvalid_below A A' n c n' c' xs ys _ h h' HN HN').mono ?_
    rintro e w1 ⟨rfl, hb⟩
    rw [HV.out]
    go_wp2
    go_ret2
    exact ⟨by simp [balF, balOk, HV.out], hb⟩
  · have HX := hide (vld_len hv)
    have HV := hide hv
    clear hv
    by_cases h1 : p < 0
    · go_enter Try.func12, Try.ntmps12
      go_wp2_with fail
      refine (rvalid_below A A' n c n' c' xs ys _ h h' HN HN').mono ?_
      rintro e w1 ⟨rfl, hb⟩
      rw [HV.out]
      go_wp2
      go_ret2
      exact ⟨by have : ¬ 0 ≤ p := by omega
                simp [balF, balOk, this], hb⟩
    by_cases h2 : (n : Int) ≤ p
    · go_enter Try.func12, Try.ntmps12
      go_wp2_with fail
      refine (rvalid_below A A' n c n' c' xs ys _ h h' HN HN').mono ?_
      rintro e w1 ⟨rfl, hb⟩
      rw [HV.out]
      go_wp2
      go_ret2
      exact ⟨by have : ¬ p < xs.length := by rw [HL.out]; omega
                simp [balF, balOk, this], hb⟩
    have h3 : (0 : Int) ≤ p := by omega
    have h4 : p < (n : Int) := by omega
    have h5 : p < (n' : Int) := by have := HX.out; rw [HL.out, HL'.out] at this; omega
    have HF : Hid (balF xs ys p = .tuple #[.int .i64 (balN xs ys p), .int .i64 0]) := by
      show _ = _
      have : p < xs.length := by rw [HL.out]; omega
      simp [balF, balOk, HV.out, h3, this]
    obtain ⟨k, rfl⟩ := Int.eq_ofNat_of_zero_le h3
    have h4' : k < n := by omega
    have h5' : k < n' := by omega
    go_enter Try.func12, Try.ntmps12
    go_wp2_with fail
    refine (rvalid_below A A' n c n' c' xs ys _ h h' HN HN').mono ?_
    rintro e w1 ⟨rfl, hb⟩
    rw [HV.out]
    have r := h.next hb
    have r' := h'.next hb
    obtain ⟨b, off, rfl, _, hc⟩ := r.at_ h4'
    obtain ⟨b', off', rfl, _, hc'⟩ := r'.at_ h5'
    go_wp2
    go_quiet ((go_at_call 21; first | with_reducible exact quiet_left (rsum_any _ n c xs _ (r.drewNs _) HN.out) | with_reducible exact quiet_left (rsum_any _ n' c' ys _ (r'.drewNs _) HN'.out)))
    go_wp2
    go_ret2
    exact ⟨by rw [HF.out]; rfl, below_drewN hb _⟩
end Go.Proofs.Ytamcnobdopcjgaa
