/-
  Chapter 54: the walk of NetNil.
-/
import Derived.Test.YtnoihbbfodkejaaPair
import Derived.Test.YtnoihbbfodkejaaMore
import Derived.Laws.BytesArg
namespace Go.Proofs.Ytnoihbbfodkejaa
open Go.RowKit Go.Maps Go

/-- The length 20000, and the text of as many zero bytes, behind names. -/
def L20 : Nat := 20000
def Z20 : Array Value := Array.replicate L20 (.int .u8 0)
theorem z20_size : Z20.size = L20 := by simp [Z20]
def I20 : List Int := List.replicate L20 0
theorem z20_list : Z20.toList = intsK .u8 I20 := by simp [Z20, intsK, I20]
theorem u8_info : (Try.prog.info? 5).map (fun i => (i.zero, i.size, i.bytes)) = some (some (.int .u8 0), 1, 1) := by kernel_rfl
theorem make20 (w : World) : (Instr.makeSlice 50 (.int .i64 20000) (.int .i64 20000)).run Try.prog w = .ok (.slice (some ⟨w.heap.size, 0, none⟩) L20 L20) (w.alloc (.cells Z20 5)) :=
  make_run 50 5 (.int .u8 0) 1 Try.underlying50 u8_info rfl L20 (by unfold L20; omega) (by unfold L20; omega) w
theorem conv_of_own {w : World} {base : Nat} {A : Option Addr} {n c : Nat} {xs : List Int} (h : Own w base 5 1 A n c (intsK .u8 xs)) (hn : 0 < n) :
    (convert 50 9 (.slice A n c)).run Try.prog w = .ok (.string (strOfNums xs)) w := by
  have hr : RK .u8 w w.heap.size A n xs := Own.reads h
  obtain ⟨b, off, rfl, _, _⟩ := hr.at_ hn
  refine run_convert_bytes_arg w 50 5 Try.underlying50 Try.underlying5 b off n c xs hr.len (fun i hi => ?_) 9 Try.underlying9
  obtain ⟨b', off', e, _, hc⟩ := hr.at_ hi
  injection e with e
  injection e with e1 e2
  subst e1 e2
  exact hc
theorem strOfNums_size (xs : List Int) : (strOfNums xs).size = xs.length := by
  unfold strOfNums
  simp [ByteArray.size]

def S20 : ByteArray := strOfNums I20
theorem s20_size : S20.size = 20000 := by unfold S20; rw [strOfNums_size]; unfold I20; rw [List.length_replicate]; rfl
theorem s20_err : (qs 2 (0, 1) []).sendErr 0 1 S20 = 0 := by rw [qs_err 2 0 1 _ _ (by decide) (by rw [s20_size]; omega)]; simp
theorem s20_send : (qs 2 (0, 1) []).send 0 1 S20 = qs 2 (0, 1) [S20] := by rw [qs_send 2 0 1 _ _ (by decide) (by rw [s20_size]; omega) (by simp)]; rfl
theorem s21_err (l : List ByteArray) (t : ByteArray) (h : t.size = 20001) : (qs 2 (0, 1) l).sendErr 0 1 t = 1 := by
  unfold NS.sendErr
  rw [if_pos (.inr (by omega))]
theorem s21_send (l : List ByteArray) (t : ByteArray) (h : t.size = 20001) : (qs 2 (0, 1) l).send 0 1 t = qs 2 (0, 1) l := by
  unfold NS.send
  rw [if_neg (by rw [s21_err l t h]; decide)]

set_option maxHeartbeats 4000000 in
theorem law5_walk (a b : Int) (lost again : Bool) (t : ByteArray) (w : World) (ha : (Lit.int .i64 a).wf = true) (hb : (Lit.int .i64 b).wf = true) (ht : t.size ≤ maxLen) :
    Calls Try.prog 7 #[.int .i64 a, .int .i64 b, .bool lost, .bool again, .string t] w fun e w' => e = .returned (.bool true) ∧ Below w.heap.size w w' := by
  clear ht ha hb
  go_enter Try.func7, Try.ntmps7
  go_wp2_with fail
  refine (head_any w).mono ?_
  rintro e w0 ⟨rfl, b0⟩
  have B0 := hide b0
  clear b0
  go_wp2_with fail
  refine (deliver_nil a b 0 lost again w0).mono ?_
  rintro e w1 ⟨rfl, b1⟩
  have B1 := hide (B0.out.trans (b1.mono B0.out.size))
  clear b1 B0
  go_wp2_with fail
  refine (send_nil a b t w1).mono ?_
  rintro e w2 ⟨rfl, b2⟩
  have B2 := hide (B1.out.trans (b2.mono B1.out.size))
  clear b2 B1
  go_wp2_with fail
  refine (waiting_nil a b w2).mono ?_
  rintro e w3 ⟨A, c, rfl, _, b3⟩
  have B3 := hide (B2.out.trans (b3.mono B2.out.size))
  clear b3 B2
  go_wp2_with fail
  refine (cut_nil a b w3).mono ?_
  rintro e w4 ⟨rfl, b4⟩
  have B4 := hide (B3.out.trans (b4.mono B3.out.size))
  clear b4 B3
  go_wp2_with fail
  refine (heal_nil a b w4).mono ?_
  rintro e w5 ⟨rfl, b5⟩
  have B5 := hide (B4.out.trans (b5.mono B4.out.size))
  clear b5 B4
  go_wp2_with fail
  refine (new_ok 2 w5 (by omega)).mono ?_
  rintro e w6 ⟨p, F, rfl, n6, l6, b6⟩
  have B6 := hide (B5.out.trans (b6.mono B5.out.size))
  have N6 : Hid (NetAt w6 p 0 (qs 2 (0, 1) []) F) := by rw [qs_new 2 (0, 1)] at n6; exact n6
  have L6 : Hid (∀ k, F k → w.heap.size ≤ k) := fun k hk => Nat.le_trans B5.out.size (l6 k hk)
  clear b6 B5 n6 l6
  have hmk := make20 w6
  have ho : Own (w6.alloc (.cells Z20 5)) w6.heap.size 5 1 (some ⟨w6.heap.size, 0, none⟩) L20 L20 (intsK .u8 I20) := by
    have := Own.of_lit (e := 5) (base := w6.heap.size) (size := 1) w6 Z20 L20 (Nat.le_refl _) (by unfold maxLen L20; omega) (by rw [z20_size, Nat.mul_one])
    rw [z20_list] at this
    exact this
  have hcv : (convert 50 9 (.slice (some ⟨w6.heap.size, 0, none⟩) L20 L20)).run Try.prog (w6.alloc (.cells Z20 5)) = .ok (.string S20) (w6.alloc (.cells Z20 5)) := conv_of_own ho (by unfold L20; omega)
  have PP : Hid (Pair w p 0 (qs 2 (0, 1) []) F 5 1 (some ⟨w6.heap.size, 0, none⟩) L20 L20 (intsK .u8 I20) (w6.alloc (.cells Z20 5))) :=
    ⟨ho.base B6.out.size, N6.out.below ((Below.refl _ _).alloc (Nat.le_refl _) _), L6.out, fun g hg hf => by
      injection hg with hg
      have := N6.out.lt g hf
      have hg' : w6.heap.size = g := hg
      omega, B6.out.trans ((Below.refl _ _).alloc B6.out.size _)⟩
  clear ho N6 L6 B6
  go_wp2_with fail
  refine (send_any p 0 _ F 0 1 S20 _ PP.out.net (by decide) (by decide) (by unfold maxLen; omega)).mono ?_
  rw [s20_err, s20_send]
  rintro e w7 ⟨rfl, F7, n7, g7⟩
  have P7 := hide (PP.out.step n7 g7)
  clear n7 g7 PP hcv hmk
  have R8 : Hid (Reads (w7.alloc (.cells #[.int .u8 120] 5)) (w7.heap.size + 1) 1 (some ⟨w7.heap.size, 0, none⟩) 1 (intsK .u8 [120])) := reads_new w7 #[.int .u8 120] 5 1 1 rfl
  have P8 := hide (P7.out.below ((Below.refl _ _).alloc (Nat.le_refl _) (.cells #[.int .u8 120] 5)))
  clear P7
  go_wp2_with (at_builtin; refine wpList_app_pair rfl (.tmp 83) (.tmp 84) 50 rfl (.int .u8 0) 1 Try.underlying50 u8_info rfl (by omega) rfl P8.out _ _ 1 _ (intsK .u8 [120]) rfl R8.out (by simp [intsK, Value.oneCell']) (by unfold maxLen L20; omega) (by unfold L20; omega) ?_; intro A2 c2 w8 hp8 _; have hq8 : Pair w p 1 (qs 2 (0, 1) [S20]) F7 5 1 A2 (L20 + 1) c2 (intsK .u8 (I20 ++ [120])) w8 := (by have := hp8; rw [show intsK .u8 I20 ++ intsK .u8 [120] = intsK .u8 (I20 ++ [120]) by simp [intsK]] at this; exact this); have hcv8 := conv_of_own hq8.own (by omega); have P9 := hide hq8; clear hp8 hq8)
  have h21 : (strOfNums (I20 ++ [120])).size = 20001 := by rw [strOfNums_size, List.length_append]; unfold I20; rw [List.length_replicate]; rfl
  have hs21 := s21_send [S20] _ h21
  have he21 := s21_err [S20] _ h21
  refine (send_any p 1 _ F7 0 1 (strOfNums (I20 ++ [120])) _ P9.out.net (by decide) (by decide) (by unfold maxLen; omega)).mono ?_
  rw [hs21, he21]
  rintro e w9 ⟨rfl, F9, n9, g9⟩
  have P10 := hide (P9.out.step n9 g9)
  clear n9 g9 P9 hcv8 P8 R8 h21 hs21 he21
  go_wp2_with fail
  refine (waiting_any p 2 _ F9 0 1 w9 P10.out.net (by decide) (by decide) (qs_small _ _ _ (by simp))).mono ?_
  rw [qs_waiting 2 0 1 _ (by decide)]
  rintro e w10 ⟨A3, c3, rfl, _, hb10⟩
  have B10 := hide (P10.out.bel.trans (hb10.mono P10.out.bel.size))
  clear hb10 P10
  go_wp2
  go_ret
  exact ⟨rfl, B10.out⟩
end Go.Proofs.Ytnoihbbfodkejaa
