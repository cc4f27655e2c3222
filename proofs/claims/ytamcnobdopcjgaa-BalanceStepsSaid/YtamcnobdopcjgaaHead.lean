/-
  Chapter 26: 'head', the chapter's examples: it returns true.
-/
import Derived.Test.YtamcnobdopcjgaaLists
namespace Go.Proofs.Ytamcnobdopcjgaa
open Go.RowKit

theorem all_lit (A A' : Option Addr) (n c n' c' : Nat) (xs ys zs : List Int) (ok : Bool) (e1 : allV xs ys = zs) (e2 : allB xs ys = ok) (w : World) (h : RI w w.heap.size A n xs) (h' : RI w w.heap.size A' n' ys) (hn : n ≤ 1000) (hn' : n' ≤ 1000) :
    Calls Try.prog 18 #[.slice A n c, .slice A' n' c'] w (RetLB w zs ok) := by
  subst e1 e2; exact all_any A A' n c n' c' xs ys w h h' hn hn'
theorem charge_lit (A A' : Option Addr) (n c n' c' : Nat) (xs ys : List Int) (p s : Int) (zs : List Int) (err : Int) (e1 : chgL xs ys p s = zs) (e2 : chgE xs ys p s = err) (w : World) (h : RI w w.heap.size A n xs) (h' : RI w w.heap.size A' n' ys) (hn : n ≤ 1000) (hn' : n' ≤ 1000) :
    Calls Try.prog 13 #[.slice A n c, .slice A' n' c', .int .i64 p, .int .i64 s] w (RetLE w zs err) := by
  subst e1 e2; exact charge_any A A' n c n' c' xs ys p s w h h' (by unfold maxLen; omega) (by unfold maxLen; omega)
theorem balance_lit (A A' : Option Addr) (n c n' c' : Nat) (xs ys : List Int) (p : Int) (v : Value) (e1 : balF xs ys p = v) (w : World) (h : RI w w.heap.size A n xs) (h' : RI w w.heap.size A' n' ys) (hn : n ≤ 1000) (hn' : n' ≤ 1000) :
    Calls Try.prog 11 #[.slice A n c, .slice A' n' c', .int .i64 p] w fun e w' => e = .returned v ∧ Below w.heap.size w w' := by
  subst e1; exact balance_any A A' n c n' c' xs ys p w h h' (by unfold maxLen; omega) (by unfold maxLen; omega)
theorem valid_lit (A A' : Option Addr) (n c n' c' : Nat) (xs ys : List Int) (ok : Bool) (e1 : vldB xs ys = ok) (w : World) (h : RI w w.heap.size A n xs) (h' : RI w w.heap.size A' n' ys) (hn : n ≤ 1000) (hn' : n' ≤ 1000) :
    Calls Try.prog 15 #[.slice A n c, .slice A' n' c'] w fun e w' => e = .returned (.bool ok) ∧ Below w.heap.size w w' := by
  subst e1; exact valid_any A A' n c n' c' xs ys w h h' (by unfold maxLen; omega) (by unfold maxLen; omega)
theorem ints_lit (A A' : Option Addr) (n c n' c' : Nat) (xs ys : List Int) (ok : Bool) (e1 : decide (xs = ys) = ok) (w : World) (h : RI w w.heap.size A n xs) (h' : RI w w.heap.size A' n' ys) (hn : n ≤ 1000) (hn' : n' ≤ 1000) :
    Calls Try.prog 17 #[.slice A n c, .slice A' n' c'] w fun e w' => e = .returned (.bool ok) ∧ Below w.heap.size w w' := by
  subst e1; exact (ints_any A A' n c n' c' xs ys w h h' (by unfold maxLen; omega) (by unfold maxLen; omega)).mono fun _ _ ⟨he, m, hm⟩ => ⟨he, hm ▸ drewN_below _ _ _⟩

set_option maxRecDepth 100000 in
set_option maxHeartbeats 1000000 in
theorem head_any (w : World) : Calls Try.prog 9 #[] w fun e w' => e = .returned (.bool true) ∧ Below w.heap.size w w' := by
  have rs0 : RI (w.alloc (.cells #[.int .i64 1, .int .i64 2, .int .i64 3] 3)) (w.alloc (.cells #[.int .i64 1, .int .i64 2, .int .i64 3] 3)).heap.size (some ⟨w.heap.size, 0, none⟩) 3 [1, 2, 3] := RI.lit w [1, 2, 3] 3 3 rfl
  have b0 : Below w.heap.size w (w.alloc (.cells #[.int .i64 1, .int .i64 2, .int .i64 3] 3)) := (Below.refl _ _).alloc (Nat.le_refl _) _
  have RS := hide (And.intro rs0 b0)
  clear rs0 b0
  go_enter Try.func9, Try.ntmps9
  go_wp2_with fail
  refine (all_lit _ _ 3 3 3 3 [1, 2, 3] [6, 0, 0] [-30, 12, 18] true (by decide +kernel) (by decide +kernel) _ (by exact RS.out.1.allocs _) (by simpa [ints] using RI.lit (w.alloc (.cells #[.int .i64 1, .int .i64 2, .int .i64 3] 3)) [6, 0, 0] 3 3 rfl) (by omega) (by omega)).mono ?_
  rintro e w1 ⟨A1, c1, rfl, r1, hb1⟩
  have RS1 := hide (And.intro ((RS.out.1.allocs _).next hb1) ((RS.out.2.alloc (by simp) _).trans (hb1.mono (by simp; omega))))
  clear RS
  go_wp2_with fail
  refine (all_lit _ _ 3 3 3 3 [1, 2, 3] [2, 4, 6] [0, 0, 0] true (by decide +kernel) (by decide +kernel) _ (by exact RS1.out.1.allocs _) (by exact RI.lit w1 [2, 4, 6] 3 3 rfl) (by omega) (by omega)).mono ?_
  rintro e w2 ⟨A2, c2, rfl, r2, hb2⟩
  have R2 := hide (And.intro ((r1.allocs _).next hb2) r2)
  clear r1 r2
  have RS2 := hide (And.intro ((RS1.out.1.allocs _).next hb2) ((RS1.out.2.alloc (RS1.out.2.size) _).trans (hb2.mono (by simp; exact Nat.le_succ_of_le RS1.out.2.size))))
  clear RS1
  go_wp2_with fail
  refine (charge_lit _ _ 3 3 3 3 [1, 2, 3] [6, 0, 0] 1 5 [6, 5, 0] 0 (by decide +kernel) (by decide +kernel) _ (by exact RS2.out.1.allocs _) (by exact RI.lit w2 [6, 0, 0] 3 3 rfl) (by omega) (by omega)).mono ?_
  rintro e w3 ⟨A3, c3, rfl, r3, hb3⟩
  have R3 := hide (And.intro ((R2.out.1.allocs _).next hb3) (And.intro ((R2.out.2.allocs _).next hb3) r3))
  clear r3 R2
  have RS3 := hide (And.intro ((RS2.out.1.allocs _).next hb3) ((RS2.out.2.alloc (RS2.out.2.size) _).trans (hb3.mono (by simp; exact Nat.le_succ_of_le RS2.out.2.size))))
  clear RS2
  go_wp2_with fail
  refine (balance_lit _ _ 3 3 3 3 [1, 2, 3] [6, 0, 0] 3 (.tuple #[.int .i64 0, .int .i64 1]) (by rfl) _ (by exact RS3.out.1.allocs _) (by exact RI.lit w3 [6, 0, 0] 3 3 rfl) (by omega) (by omega)).mono ?_
  rintro e w4 ⟨rfl, hb4⟩
  have R4 := hide (And.intro ((R3.out.1.allocs _).next hb4) (And.intro ((R3.out.2.1.allocs _).next hb4) ((R3.out.2.2.allocs _).next hb4)))
  have RS4 := hide (And.intro ((RS3.out.1.allocs _).next hb4) ((RS3.out.2.alloc (RS3.out.2.size) _).trans (hb4.mono (by simp; exact Nat.le_succ_of_le RS3.out.2.size))))
  clear R3 RS3
  go_wp2_with fail
  refine (balance_lit _ _ 3 3 2 2 [1, 2, 3] [6, 0] 0 (.tuple #[.int .i64 0, .int .i64 1]) (by rfl) _ (by exact RS4.out.1.allocs _) (by exact RI.lit w4 [6, 0] 2 3 rfl) (by omega) (by omega)).mono ?_
  rintro e w5 ⟨rfl, hb5⟩
  have R5 := hide (And.intro ((R4.out.1.allocs _).next hb5) (And.intro ((R4.out.2.1.allocs _).next hb5) ((R4.out.2.2.allocs _).next hb5)))
  have RS5 := hide (And.intro ((RS4.out.1.allocs _).next hb5) ((RS4.out.2.alloc (RS4.out.2.size) _).trans (hb5.mono (by simp; exact Nat.le_succ_of_le RS4.out.2.size))))
  clear R4 RS4
  go_wp2_with fail
  refine (ints_lit _ _ 3 c1 3 3 [-30, 12, 18] [-30, 12, 18] true (by decide +kernel) _ (by exact R5.out.1.allocs _) (by exact RI.lit w5 [-30, 12, 18] 3 3 rfl) (by omega) (by omega)).mono ?_
  rintro e w6 ⟨rfl, hb6⟩
  have R6 := hide (And.intro ((R5.out.1.allocs _).next hb6) (And.intro ((R5.out.2.1.allocs _).next hb6) ((R5.out.2.2.allocs _).next hb6)))
  have RS6 := hide (And.intro ((RS5.out.1.allocs _).next hb6) ((RS5.out.2.alloc (RS5.out.2.size) _).trans (hb6.mono (by simp; exact Nat.le_succ_of_le RS5.out.2.size))))
  clear R5 RS5
  go_wp2_with fail
  refine (ints_lit _ _ 3 c2 3 3 [0, 0, 0] [0, 0, 0] true (by decide +kernel) _ (by exact R6.out.2.1.allocs _) (by exact RI.lit w6 [0, 0, 0] 3 3 rfl) (by omega) (by omega)).mono ?_
  rintro e w7 ⟨rfl, hb7⟩
  have R7 := hide (And.intro ((R6.out.1.allocs _).next hb7) (And.intro ((R6.out.2.1.allocs _).next hb7) ((R6.out.2.2.allocs _).next hb7)))
  have RS7 := hide (And.intro ((RS6.out.1.allocs _).next hb7) ((RS6.out.2.alloc (RS6.out.2.size) _).trans (hb7.mono (by simp; exact Nat.le_succ_of_le RS6.out.2.size))))
  clear R6 RS6
  go_wp2_with fail
  refine (ints_lit _ _ 3 c3 3 3 [6, 5, 0] [6, 5, 0] true (by decide +kernel) _ (by exact R7.out.2.2.allocs _) (by exact RI.lit w7 [6, 5, 0] 3 3 rfl) (by omega) (by omega)).mono ?_
  rintro e w8 ⟨rfl, hb8⟩
  have R8 := hide (And.intro ((R7.out.1.allocs _).next hb8) (And.intro ((R7.out.2.1.allocs _).next hb8) ((R7.out.2.2.allocs _).next hb8)))
  have RS8 := hide (And.intro ((RS7.out.1.allocs _).next hb8) ((RS7.out.2.alloc (RS7.out.2.size) _).trans (hb8.mono (by simp; exact Nat.le_succ_of_le RS7.out.2.size))))
  clear R7 RS7
  go_wp2_with fail
  refine (valid_lit _ _ 3 3 3 3 [1, 2, 3] [6, 0, 0] true (by decide +kernel) _ (by exact RS8.out.1.allocs _) (by exact RI.lit w8 [6, 0, 0] 3 3 rfl) (by omega) (by omega)).mono ?_
  rintro e w9 ⟨rfl, hb9⟩
  have R9 := hide (And.intro ((R8.out.1.allocs _).next hb9) (And.intro ((R8.out.2.1.allocs _).next hb9) ((R8.out.2.2.allocs _).next hb9)))
  have RS9 := hide (And.intro ((RS8.out.1.allocs _).next hb9) ((RS8.out.2.alloc (RS8.out.2.size) _).trans (hb9.mono (by simp; exact Nat.le_succ_of_le RS8.out.2.size))))
  clear R8 RS8
  go_wp2_with fail
  refine (valid_lit _ _ 0 0 0 0 [] [] false (by decide +kernel) _ RI.none_ RI.none_ (by omega) (by omega)).mono ?_
  rintro e w10 ⟨rfl, hb10⟩
  have R10 := hide (And.intro (R9.out.1.next hb10) (And.intro (R9.out.2.1.next hb10) (R9.out.2.2.next hb10)))
  have RS10 := hide (And.intro (RS9.out.1.next hb10) (RS9.out.2.trans (hb10.mono RS9.out.2.size)))
  clear R9 RS9
  go_wp2
  go_ret
  exact ⟨rfl, RS10.out.2⟩
end Go.Proofs.Ytamcnobdopcjgaa
