/-
  The leaves of chapter 26: sums, the closure 'outside', slices.ContainsFunc, Few, Ints.
-/
import Derived.Test.YtamcnobdopcjgaaWrap
import Derived.Test.YtamcnobdopcjgaaChecked
import Derived.Deep.QuietTactic
import Derived.BigQuiet
namespace Go.Proofs.Ytamcnobdopcjgaa
open Go.RowKit

set_option maxHeartbeats 400000 in
theorem sum_any (A : Option Addr) (n c : Nat) (xs : List Int) (w : World) (h : RI w w.heap.size A n xs) (hn : n ≤ maxLen) :
    Calls Try.prog 20 #[.slice A n c] w fun e w' => e = .returned (.int .i64 (wsum xs)) ∧ w = w' := by
  unfold maxLen at hn
  have hl := h.len
  have HL : Hid (xs.length = n) := hl
  clear hl
  go_enter Try.func20, Try.ntmps20
  go_wp2
  go_loop [3, 8] (fun t i => ∃ k : Nat, k ≤ n ∧ i = .int .i64 k ∧ t = .int .i64 (wsum (xs.take k))) (fun _ i => n - (intOf i).toNat)
  case atStart => exact ⟨0, Nat.zero_le _, rfl, rfl⟩
  case round =>
    obtain ⟨k, hk, rfl, rfl⟩ := hrel
    by_cases hlt : k < n
    · obtain ⟨b, off, rfl, hb, hc⟩ := h.at_ hlt
      have HS : Hid (wsum (xs.take (k + 1)) = wrap64 (wsum (xs.take k) + nth xs k)) := by
        show _ = _
        rw [nth_take (by rw [HL.out]; exact hlt), wsum_snoc]
      go_wp2
      go_round
      case rel => exact ⟨k + 1, by omega, by go_num, by rw [HS.out]⟩
      case measure => simp [intOf]; omega
    · go_wp2
      go_ret
      exact ⟨ret_int (by rw [List.take_of_length_le (by rw [HL.out]; omega)]), rfl⟩

set_option maxHeartbeats 400000 in
theorem rsum_any (A : Option Addr) (n c : Nat) (xs : List Int) (w : World) (h : RI w w.heap.size A n xs) (hn : n ≤ maxLen) :
    Calls Try.prog 21 #[.slice A n c] w fun e w' => e = .returned (.int .i64 (wsum xs)) ∧ w = w' := by
  unfold maxLen at hn
  have hl := h.len
  have HL : Hid (xs.length = n) := hl
  clear hl
  go_enter Try.func21, Try.ntmps21
  go_wp2
  go_loop [3, 4] (fun t i => ∃ k : Nat, k ≤ n ∧ i = .int .i64 k ∧ t = .int .i64 (wsum (xs.take k))) (fun _ i => n - (intOf i).toNat)
  case atStart => exact ⟨0, Nat.zero_le _, rfl, rfl⟩
  case round =>
    obtain ⟨k, hk, rfl, rfl⟩ := hrel
    by_cases hlt : k < n
    · obtain ⟨b, off, rfl, hb, hc⟩ := h.at_ hlt
      have HS : Hid (wsum (xs.take (k + 1)) = wrap64 (wsum (xs.take k) + nth xs k)) := by
        show _ = _
        rw [nth_take (by rw [HL.out]; exact hlt), wsum_snoc]
      go_wp2
      go_round
      case rel => exact ⟨k + 1, by omega, by go_num, by rw [HS.out]⟩
      case measure => simp [intOf]; omega
    · go_wp2
      go_ret
      exact ⟨ret_int (by rw [List.take_of_length_le (by rw [HL.out]; omega)]), rfl⟩

/-- 'outside lo hi' of n. -/
def outB (lo hi n : Int) : Bool := decide (n < lo) || decide (hi < n)

theorem out_any (n lo hi : Int) (p q : Addr) (w : World) (hp : w.cell? p = some (.int .i64 lo)) (hq : w.cell? q = some (.int .i64 hi)) :
    Calls Try.prog 24 #[.int .i64 n, .pointer (some p), .pointer (some q)] w fun e w' => e = .returned (.bool (outB lo hi n)) ∧ w = w' := by
  by_cases h1 : n < lo
  · go_enter Try.func24, Try.ntmps24
    go_wp2
    go_ret
    exact ⟨ret_bool (by simp [outB, h1]), rfl⟩
  · go_enter Try.func24, Try.ntmps24
    go_wp2
    go_ret
    exact ⟨ret_bool (by simp [outB]; omega), rfl⟩

/-- The closure that 'outside lo hi' returns, its two captured variables at p and q. -/
def outF (p q : Addr) : Value := .func (.func 24) #[] #[.pointer (some p), .pointer (some q)]

theorem outside_any (lo hi : Int) (w : World) :
    Calls Try.prog 22 #[.int .i64 lo, .int .i64 hi] w fun e w' => ∃ p q, e = .returned (outF p q) ∧ Below w.heap.size w w' ∧ w'.cell? p = some (.int .i64 lo) ∧ w'.cell? q = some (.int .i64 hi) := by
  go_enter Try.func22, Try.ntmps22
  go_wp2
  go_ret
  refine ⟨⟨w.heap.size, 0, none⟩, ⟨w.heap.size + 1, 0, none⟩, rfl, ?_, ?_, ?_⟩
  · exact ((Below.refl _ _).alloc (Nat.le_refl _) _).alloc (by simp) _
  · rw [World.cell?_alloc_past _ _ _ (by simp), World.cell?_alloc_at _ _ _ _ rfl]; rfl
  · rw [World.cell?_alloc_at _ _ _ _ (by simp)]; rfl

set_option maxHeartbeats 400000 in
theorem index_any (A : Option Addr) (n c : Nat) (xs : List Int) (lo hi : Int) (p q : Addr) (w : World) (h : RI w w.heap.size A n xs) (hn : n ≤ maxLen)
    (hp : w.cell? p = some (.int .i64 lo)) (hq : w.cell? q = some (.int .i64 hi)) :
    Calls Try.prog 25 #[.slice A n c, outF p q] w fun e w' => ∃ r : Int, decide (0 ≤ r) = xs.any (outB lo hi) ∧ e = .returned (.int .i64 r) ∧ w = w' := by
  unfold maxLen at hn
  have HL : Hid (xs.length = n) := h.len
  unfold outF
  go_enter Try.func25, Try.ntmps25
  go_wp2
  go_loop [8] (fun i => ∃ k : Nat, k ≤ n ∧ i = .int .i64 k ∧ (xs.take k).any (outB lo hi) = false) (fun i => n - (intOf i).toNat)
  case atStart => exact ⟨0, Nat.zero_le _, rfl, rfl⟩
  case round =>
    obtain ⟨k, hk, rfl, hr⟩ := hrel
    have HR := hide hr
    clear hr
    by_cases hlt : k < n
    · obtain ⟨b, off, rfl, hb, hc⟩ := h.at_ hlt
      have HM : Hid ((xs.take (k + 1)).any (outB lo hi) = outB lo hi (nth xs k)) := by
        show _ = _
        rw [nth_take (by rw [HL.out]; exact hlt), List.any_append, HR.out]; simp
      cases ho : outB lo hi (nth xs k)
      · have HO := hide ho
        clear ho
        go_wp2_with fail
        refine (out_any _ lo hi p q _ hp hq).mono ?_
        rintro e w' ⟨rfl, rfl⟩
        rw [HO.out]
        go_wp2
        go_round
        case rel => exact ⟨k + 1, by omega, by go_num, by rw [HM.out]; exact HO.out⟩
        case measure => simp [intOf]; omega
      · have HO := hide ho
        clear ho
        go_wp2_with fail
        refine (out_any _ lo hi p q _ hp hq).mono ?_
        rintro e w' ⟨rfl, rfl⟩
        rw [HO.out]
        go_wp2
        go_ret
        refine ⟨(k : Int), ?_, rfl, rfl⟩
        have : xs.any (outB lo hi) = true := List.any_eq_true.2 ⟨_, nth_mem (by rw [HL.out]; exact hlt), HO.out⟩
        rw [this]
        simp
    · go_wp2
      go_ret
      refine ⟨-1, ?_, rfl, rfl⟩
      have h1 := HR.out
      rw [List.take_of_length_le (by rw [HL.out]; omega)] at h1
      rw [h1]
      rfl

theorem contains_any (A : Option Addr) (n c : Nat) (xs : List Int) (lo hi : Int) (p q : Addr) (w : World) (h : RI w w.heap.size A n xs) (hn : n ≤ maxLen)
    (hp : w.cell? p = some (.int .i64 lo)) (hq : w.cell? q = some (.int .i64 hi)) :
    Calls Try.prog 23 #[.slice A n c, outF p q] w fun e w' => e = .returned (.bool (xs.any (outB lo hi))) ∧ w = w' := by
  go_enter Try.func23, Try.ntmps23
  go_wp2_with fail
  refine (index_any A n c xs lo hi p q _ h hn hp hq).mono ?_
  rintro e w' ⟨r, hr, rfl, rfl⟩
  have HR := hide hr
  clear hr
  go_wp2
  go_ret
  exact ⟨ret_bool HR.out, rfl⟩

theorem few_any (A A' : Option Addr) (n c n' c' : Nat) (w : World) (hn : n ≤ maxLen) (hn' : n' ≤ maxLen) :
    Calls Try.prog 10 #[.slice A n c, .slice A' n' c'] w fun e w' => e = .returned (.bool (decide (n ≤ 20) && decide (n' ≤ 20))) ∧ w = w' := by
  unfold maxLen at hn hn'
  by_cases h1 : n ≤ 20
  · go_enter Try.func10, Try.ntmps10
    go_wp2
    go_ret
    exact ⟨ret_bool (by simp [h1]; omega), rfl⟩
  · go_enter Try.func10, Try.ntmps10
    go_wp2
    go_ret
    exact ⟨ret_bool (by simp), rfl⟩
end Go.Proofs.Ytamcnobdopcjgaa
