/-
  For every shares, accounts, partner and slots, all functions of chapter 26 agree with the reference: BalanceMatchesReference returns true. No conditions.
-/
import Derived.Test.YtamcnobdopcjgaaHead
namespace Go.Proofs.Ytamcnobdopcjgaa
open Go.RowKit
set_option linter.unusedVariables false

def balV (xs ys : List Int) (p : Int) : Int := if balOk xs ys p then balN xs ys p else 0
def balE (xs ys : List Int) (p : Int) : Int := if balOk xs ys p then 0 else 1
theorem balF_eq (xs ys : List Int) (p : Int) : balF xs ys p = .tuple #[.int .i64 (balV xs ys p), .int .i64 (balE xs ys p)] := by
  unfold balF balV balE; split <;> rfl

set_option maxRecDepth 100000 in
set_option maxHeartbeats 2000000 in
theorem law1_walk (A : Option Addr) (n c : Nat) (xs : List Int) (A' : Option Addr) (n' c' : Nat) (ys : List Int) (p s : Int) (w : World)
    (h : RI w w.heap.size A n xs) (hn : n ≤ maxLen) (_ : ∀ z ∈ xs, -9223372036854775808 ≤ z ∧ z ≤ 9223372036854775807) (h' : RI w w.heap.size A' n' ys) (hn' : n' ≤ maxLen) (_ : ∀ z ∈ ys, -9223372036854775808 ≤ z ∧ z ≤ 9223372036854775807) (_ : (Lit.int .i64 p).wf = true) (_ : (Lit.int .i64 s).wf = true) :
    Calls Try.prog 3 #[.slice A n c, .slice A' n' c', .int .i64 p, .int .i64 s] w fun e w' => e = .returned (.bool true) ∧ Below w.heap.size w w' := by
  have HN := hide hn
  have HN' := hide hn'
  cases hf : (decide (n ≤ 20) && decide (n' ≤ 20))
  · have HF := hide hf
    clear hf
    go_enter Try.func3, Try.ntmps3
    go_wp2_with fail
    refine (head_any _).mono ?_
    rintro e w1 ⟨rfl, hb1⟩
    go_wp2_with fail
    refine (few_any A A' n c n' c' _ HN.out HN'.out).mono ?_
    rintro e w2 ⟨rfl, rfl⟩
    rw [HF.out]
    go_wp2
    go_ret
    exact ⟨rfl, hb1⟩
  · have HF := hide hf
    clear hf
    go_enter Try.func3, Try.ntmps3
    go_wp2_with fail
    refine (head_any _).mono ?_
    rintro e w1 ⟨rfl, hb1⟩
    have r1 := h.next hb1
    have r1' := h'.next hb1
    go_wp2_with fail
    refine (few_any A A' n c n' c' _ HN.out HN'.out).mono ?_
    rintro e w2 ⟨rfl, rfl⟩
    rw [HF.out]
    go_wp2_with fail
    refine (balance_any A A' n c n' c' xs ys p _ r1 r1' HN.out HN'.out).mono ?_
    rw [balF_eq]
    rintro e w2 ⟨rfl, hb2⟩
    have r2 := r1.next hb2
    have r2' := r1'.next hb2
    have B2 := hide (hb1.trans (hb2.mono hb1.size))
    clear r1 r1'
    go_wp2_with fail
    refine (rbalance_any A A' n c n' c' xs ys p _ r2 r2' HN.out HN'.out).mono ?_
    rw [balF_eq]
    rintro e w3 ⟨rfl, hb3⟩
    have r3 := r2.next hb3
    have r3' := r2'.next hb3
    have B3 := hide (B2.out.trans (hb3.mono B2.out.size))
    clear r2 r2' B2
    go_wp2_with fail
    refine (charge_any A A' n c n' c' xs ys p s _ r3 r3' HN.out HN'.out).mono ?_
    rintro e w4 ⟨A4, c4, rfl, z4, hb4⟩
    have r4 := r3.next hb4
    have r4' := r3'.next hb4
    have B4 := hide (B3.out.trans (hb4.mono B3.out.size))
    clear r3 r3' B3
    go_wp2_with fail
    refine (rcharge_any A A' n c n' c' xs ys p s _ r4 r4' HN.out HN'.out).mono ?_
    rintro e w5 ⟨A5, c5, rfl, z5, hb5⟩
    have r5 := r4.next hb5
    have r5' := r4'.next hb5
    have z4' := z4.next hb5
    have B5 := hide (B4.out.trans (hb5.mono B4.out.size))
    clear r4 r4' B4 z4
    go_wp2_with fail
    refine (valid_any A A' n c n' c' xs ys _ r5 r5' HN.out HN'.out).mono ?_
    rintro e w6 ⟨rfl, hb6⟩
    have r6 := r5.next hb6
    have r6' := r5'.next hb6
    have z4 := z4'.next hb6
    have z5' := z5.next hb6
    have B6 := hide (B5.out.trans (hb6.mono B5.out.size))
    clear r5 r5' B5 z4' z5
    go_wp2_with fail
    refine (rvalid_any A A' n c n' c' xs ys _ r6 r6' HN.out HN'.out).mono ?_
    rintro e w7 ⟨rfl, rfl⟩
    have hL : (chgL xs ys p s).length ≤ maxLen := Nat.le_trans (chgL_len xs ys p s) (by decide)
    go_wp2_with fail
    refine (ints_any A4 A5 _ c4 _ c5 (chgL xs ys p s) (chgL xs ys p s) _ z4 z5' hL hL).mono ?_
    rintro e w8 ⟨rfl, m, rfl⟩
    rw [decide_eq_true rfl]
    go_wp2
    go_ret
    exact ⟨rfl, below_drewN B6.out _⟩
end Go.Proofs.Ytamcnobdopcjgaa
