/-
  Chapter 26: 'all' and 'times' of the statements' package.
-/
import Derived.Test.YtamcnobdopcjgaaCharge
namespace Go.Proofs.Ytamcnobdopcjgaa
open Go.RowKit

def timesL (xs : List Int) (k : Int) : List Int := xs.map (fun x => wrap64 (x * k))
theorem timesL_snoc (xs : List Int) (k : Int) (i : Nat) (h : i < xs.length) : timesL (xs.take (i + 1)) k = timesL (xs.take i) k ++ [wrap64 (nth xs i * k)] := by
  rw [nth_take h]; simp [timesL]
theorem timesL_len (xs : List Int) (k : Int) : (timesL xs k).length = xs.length := by simp [timesL]

/-- What a function that returns numbers leaves. -/
def RetL (w : World) (zs : List Int) (e : Ending) (w' : World) : Prop :=
  ∃ A c, e = .returned (.slice A zs.length c) ∧ RI w' w'.heap.size A zs.length zs ∧ Below w.heap.size w w'

set_option maxHeartbeats 1000000 in
theorem times_any (A : Option Addr) (n c : Nat) (xs : List Int) (f : Int) (w : World) (h : RI w w.heap.size A n xs) (hn : n ≤ 1000) :
    Calls Try.prog 19 #[.slice A n c, .int .i64 f] w (RetL w (timesL xs f)) := by
  have HL : Hid (xs.length = n) := h.len
  go_enter Try.func19, Try.ntmps19
  go_wp2
  go_loopw [5, 6] (fun o i wr => ∃ (k : Nat) (A2 : Option Addr) (c2 : Nat), k ≤ n ∧ i = .int .i64 k ∧ o = .slice A2 k c2 ∧ Own wr w.heap.size 3 1 A2 k c2 (ints (timesL (xs.take k) f)) ∧ Below w.heap.size w wr) (fun _ i _ => n - (intOf i).toNat)
  case atStart => exact ⟨0, none, 0, Nat.zero_le _, rfl, rfl, Own.nil _ _ _ _, Below.refl _ _⟩
  case round =>
    obtain ⟨k, A2, c2, hk, rfl, rfl, own, hb⟩ := hrel
    by_cases hlt : k < n
    · obtain ⟨b, off, rfl, hbl, hc⟩ := h.at_ hlt
      have hc' := (hb.cell (p := ⟨b, off + k, none⟩) hbl).trans hc
      clear hc
      have HS := hide (timesL_snoc xs f k (by rw [HL.out]; exact hlt))
      go_wp2_with ((
        at_builtin
        refine wpList_app rfl (.tmp 13) (.tmp 20) _ rfl w.heap.size 3 _ 1 8 Try.underlying22 int_info rfl (by omega) A2 k c2 _ rfl (own.alloc _) (wr.heap.size + 1) (some ⟨wr.heap.size, 0, none⟩) 1 1 [.int .i64 (wrap64 (nth xs k * f))] rfl (reads_new wr #[.int .i64 (wrap64 (nth xs k * f))] 3 1 1 rfl) (by simp [Value.oneCell']) (by unfold maxLen; omega) (by omega) (by simp; exact Nat.le_succ_of_le hb.size) ?_
        intro A3 c3 w4 own4 hb4 _
        rw [← ints_one, ← ints_append, ← HS.out] at own4
        have Own4 := hide own4
        clear own4))
      go_roundw
      case rel => exact ⟨k + 1, A3, c3, by omega, by go_num, rfl, Own4.out, (hb.alloc hb.size _).trans hb4⟩
      case measure => simp [intOf]; omega
    · obtain rfl : k = n := by omega
      go_wp2
      go_ret
      have e1 : xs.take k = xs := List.take_of_length_le (by rw [HL.out]; omega)
      rw [e1] at own
      have e2 : (timesL xs f).length = k := by rw [timesL_len, HL.out]
      exact ⟨A2, c2, by rw [e2]; rfl, by rw [e2]; exact own.ri, hb⟩

/-- All balances. -/
def allL (xs ys : List Int) (k : Nat) : List Int := (List.range k).map fun (i : Nat) => balN xs ys (i : Int)
theorem allL_succ (xs ys : List Int) (k : Nat) : allL xs ys (k + 1) = allL xs ys k ++ [balN xs ys (k : Int)] := by simp [allL, List.range_succ]
theorem allL_len (xs ys : List Int) (k : Nat) : (allL xs ys k).length = k := by simp [allL]
/-- 'all' has no error. -/
def allB (xs ys : List Int) : Bool := xs.isEmpty || vldB xs ys
def allV (xs ys : List Int) : List Int := if vldB xs ys then allL xs ys xs.length else []

/-- What a function that returns numbers and a bool leaves. -/
def RetLB (w : World) (zs : List Int) (ok : Bool) (e : Ending) (w' : World) : Prop :=
  ∃ A c, e = .returned (.tuple #[.slice A zs.length c, .bool ok]) ∧ RI w' w'.heap.size A zs.length zs ∧ Below w.heap.size w w'

theorem balF_ok {xs ys : List Int} {k : Nat} (h : vldB xs ys = true) (hk : k < xs.length) : balF xs ys (k : Int) = .tuple #[.int .i64 (balN xs ys (k : Int)), .int .i64 0] := by
  have : (k : Int) < xs.length := by omega
  simp [balF, balOk, h, this]
theorem balF_no {xs ys : List Int} {p : Int} (h : vldB xs ys = false) : balF xs ys p = .tuple #[.int .i64 0, .int .i64 1] := by simp [balF, balOk, h]

set_option maxHeartbeats 1000000 in
theorem all_any (A A' : Option Addr) (n c n' c' : Nat) (xs ys : List Int) (w : World) (h : RI w w.heap.size A n xs) (h' : RI w w.heap.size A' n' ys) (hn : n ≤ 1000) (hn' : n' ≤ 1000) :
    Calls Try.prog 18 #[.slice A n c, .slice A' n' c'] w (RetLB w (allV xs ys) (allB xs ys)) := by
  have HL : Hid (xs.length = n) := h.len
  have HN : Hid (n ≤ maxLen) := by show _ ≤ _; unfold maxLen; omega
  have HN' : Hid (n' ≤ maxLen) := by show _ ≤ _; unfold maxLen; omega
  cases hv : vldB xs ys
  · have HV := hide hv
    clear hv
    by_cases h0 : n = 0
    · subst h0
      have HX : Hid (xs = []) := List.eq_nil_of_length_eq_zero HL.out
      go_enter Try.func18, Try.ntmps18
      go_wp2
      refine wp_loop_rounds 1 ?_
      rw [rounds_succ]
      go_wp2
      go_ret2
      refine ⟨none, 0, ?_, ?_, Below.refl _ _⟩
      · simp only [allV, allB, HX.out]; rfl
      · simp [allV, HV.out]; exact RI.none_
    · have hpos : 0 < n := by omega
      go_enter Try.func18, Try.ntmps18
      go_wp2
      refine wp_loop_rounds 1 ?_
      rw [rounds_succ]
      go_wp2_with ((
        go_at_call 11
        (with_reducible refine (balance_any A A' n c n' c' xs ys 0 w h h' HN.out HN'.out).mono ?_)
        rw [balF_no HV.out]
        rintro e w1 ⟨rfl, hb1⟩))
      go_ret2
      refine ⟨none, 0, ?_, ?_, hb1⟩
      · have : xs.isEmpty = false := by
          cases xs with
          | nil => have := HL.out; simp at this; omega
          | cons => rfl
        simp [allV, allB, HV.out, this]
      · simp [allV, HV.out]; exact RI.none_
  · have HV := hide hv
    clear hv
    go_enter Try.func18, Try.ntmps18
    go_wp2
    go_loopw [6, 7] (fun o i wr => ∃ (k : Nat) (A2 : Option Addr) (c2 : Nat), k ≤ n ∧ i = .int .i64 k ∧ o = .slice A2 k c2 ∧ Own wr w.heap.size 3 1 A2 k c2 (ints (allL xs ys k)) ∧ Below w.heap.size w wr) (fun _ i _ => n - (intOf i).toNat)
    case atStart => exact ⟨0, none, 0, Nat.zero_le _, rfl, rfl, Own.nil _ _ _ _, Below.refl _ _⟩
    case round =>
      obtain ⟨k, A2, c2, hk, rfl, rfl, own, hb⟩ := hrel
      by_cases hlt : k < n
      · have HS := hide (allL_succ xs ys k)
        have HB := hide (balF_ok (k := k) HV.out (by rw [HL.out]; exact hlt))
        have r := h.next hb
        have r' := h'.next hb
        go_wp2_with fail
        (with_reducible refine (balance_any A A' n c n' c' xs ys (k : Int) wr r r' HN.out HN'.out).mono ?_)
        rw [HB.out]
        rintro e w1 ⟨rfl, hb1⟩
        have own1 := own.below hb1
        go_wp2_with ((
          at_builtin
          refine wpList_app rfl (.tmp 25) (.tmp 27) _ rfl w.heap.size 3 _ 1 8 Try.underlying22 int_info rfl (by omega) A2 k c2 _ rfl (own1.alloc _) (w1.heap.size + 1) (some ⟨w1.heap.size, 0, none⟩) 1 1 [.int .i64 (balN xs ys (k : Int))] rfl (reads_new w1 #[.int .i64 (balN xs ys (k : Int))] 3 1 1 rfl) (by simp [Value.oneCell']) (by unfold maxLen; omega) (by omega) (by simp; exact Nat.le_succ_of_le (Nat.le_trans hb.size hb1.size)) ?_
          intro A3 c3 w4 own4 hb4 _
          rw [← ints_one, ← ints_append, ← HS.out] at own4
          have Own4 := hide own4
          clear own4))
        go_roundw
        case rel => exact ⟨k + 1, A3, c3, by omega, by go_num, rfl, Own4.out, ((hb.trans (hb1.mono hb.size)).alloc (Nat.le_trans hb.size hb1.size) _).trans hb4⟩
        case measure => simp [intOf]; omega
      · obtain rfl : k = n := by omega
        go_wp2
        go_ret2
        have e2 : allV xs ys = allL xs ys k := by simp [allV, HV.out, HL.out]
        refine ⟨A2, c2, ?_, by rw [e2, allL_len]; exact own.ri, hb⟩
        rw [e2, allL_len]
        simp [allB, HV.out]
end Go.Proofs.Ytamcnobdopcjgaa
