/-
  NoiseShifts: the walk without a distribution.
-/
import Derived.Test.YtlkgoljpjeieiaaGreatDoorShiA
set_option linter.unusedVariables false
set_option linter.unusedSimpArgs false
namespace Go.Proofs.YtlkgoljpjeieiaaGreatDoor
open Go.RowKit Go.Deep Go.Maps

set_option maxHeartbeats 4000000 in
set_option maxRecDepth 100000 in
theorem shifts_err (A : Option Addr) (ca : Nat) (tape : List Int) (n z : Int) (w : World) (h : RI w w.heap.size A tape.length tape) (hm : tape.length ≤ maxLen) (hp : Pow w) (hf : few17 tape.length n = true) (hv : valid17 tape = true) (hz1 : -100 ≤ z) (hz2 : z ≤ 100) (herr : n < 0 ∨ 40 < n) :
    Calls Tryz.prog 4 #[.slice A tape.length ca, .int .i64 n, .int .i64 z] w fun en w' => en = .returned (.bool true) ∧ Below w.heap.size w w' := by
  have H := hide h
  have HP := hide hp
  have HM := hide hm
  unfold maxLen at hm
  clear h hp
  go_enter Tryz.func4, Tryz.ntmps4
  go_wp2_with fail
  refine (head17_any w HP.out).mono ?_
  rintro en w1 ⟨rfl, hb1⟩
  have HB1 := hide hb1
  have HP1 := hide (HP.out.below hb1 HP.out.lt)
  have H1 := hide (H.out.next hb1)
  clear hb1 H HP
  go_wp2_with fail
  refine (few17_any A ca tape.length n w1 HM.out).mono ?_
  rintro en w' ⟨rfl, hw⟩
  subst hw
  rw [hf]
  go_wp2_with fail
  refine (nv17_any A ca tape w' H1.out HM.out).mono ?_
  rintro en wv ⟨rfl, hw⟩
  subst hw
  rw [hv]
  obtain ⟨t1, t9, ht⟩ := valid17_ok hv
  have HF := hide hf
  have HV := hide hv
  have HT := hide ht
  obtain ⟨L, hL⟩ : ∃ L, L = tape.length := ⟨_, rfl⟩
  have HL := hide hL
  rw [← hL] at H1 t1 t9 hm ⊢
  clear hL hf hv ht
  go_wp2
  go_loopw [8, 9, 10, 11] (fun t8 t9 t10 t11 wr => ∃ (k : Nat) (q : Int) (A8 : Option Addr) (c8 : Nat) (A9 : Option Addr) (c9 : Nat) (At : Option Addr) (ct : Nat), k ≤ L ∧ q = (L : Int) - 1 - k ∧ t11 = .int .i64 q ∧ t8 = .slice A8 k c8 ∧ t9 = .slice A9 k c9 ∧ t10 = .slice At k ct ∧
    Rows3 wr wv.heap.size A8 c8 k A9 c9 k At ct k (tape.reverse.take k |>.map (· + z)) (tape.reverse.take k |>.map (- ·)) (tape.reverse.take k) ∧ Below wv.heap.size wv wr) (fun _ _ _ t11 _ => (intOf t11 + 1).toNat)
  case atStart => exact ⟨0, _, none, 0, none, 0, none, 0, Nat.zero_le _, rfl, by go_num, rfl, rfl, rfl, ⟨Own.nil _ _ _ _, Own.nil _ _ _ _, Own.nil _ _ _ _, Apart.none_left _, Apart.none_left _, Apart.none_left _⟩, Below.refl _ _⟩
  case round =>
    obtain ⟨k, q, A8, c8, A9, c9, At, ct, hk, hq, rfl, rfl, rfl, rfl, hrows, hbr⟩ := hrel
    have HR := hide hrows
    have HB := hide hbr
    clear hrows hbr
    by_cases hkL : k < L
    · obtain ⟨j, hj⟩ : ∃ j : Nat, j = L - 1 - k := ⟨_, rfl⟩
      obtain rfl : q = (j : Int) := by omega
      obtain ⟨b, o, rfl, hb, x0⟩ := H1.out.at_ (k := j) (by omega)
      have htb : -50 ≤ nth tape j ∧ nth tape j ≤ 50 := nth_in HT.out (by rw [← HL.out]; omega)
      have x0 : wr.cell? ⟨b, o + j, none⟩ = some (.int .i64 (nth tape j)) := (HB.out.cell (p := ⟨b, o + j, none⟩) hb).trans x0
      have HTK : Hid (tape.reverse.take (k + 1) = tape.reverse.take k ++ [nth tape j]) := hide (by
        have := rev_nth (tape := tape) (k := k) (by rw [← HL.out]; exact hkL)
        rw [← HL.out, ← hj] at this
        exact this)
      generalize nth tape j = t at x0 htb HTK
      have HSZ := hide HB.out.size
      have CELL : Hid (∀ W, Below wv.heap.size wr W → W.cell? ⟨b, o + j, none⟩ = some (.int .i64 t)) := hide (fun W hW => (hW.cell (p := ⟨b, o + j, none⟩) hb).trans x0)
      have hjL : j < L := by omega
      have HQJ := hide hq
      clear hj hq
      go_wp2_with (first
        | (at_builtin; refine wpList_app_at rfl (.tmp 47) (.tmp 54) 22 rfl wv.heap.size 3 (.int .i64 0) 1 8 Tryz.underlying22 int_info rfl (by omega) A8 k c8 _ rfl (HR.out.alloc _).o8 _ _ 1 _ [.int .i64 (t + z)] rfl (reads_new wr #[.int .i64 (t + z)] 3 1 1 rfl) (by simp [Value.oneCell']) (by unfold maxLen; omega) (by omega) (Nat.le_trans HSZ.out (by simp)) ?_; intro A8' c8' w8 hown8 hb8 hg8 hat8; rw [← ints_one, ← ints_append] at hown8; have HR8 := hide ((HR.out.alloc _).s8 hown8 hg8 hat8); have HB8 := hide (((Below.refl wv.heap.size wr).alloc HSZ.out _).trans hb8); clear hown8 hb8 hg8 hat8; have x0 := CELL.out w8 HB8.out; have HSZ8 := hide (Nat.le_trans HSZ.out HB8.out.size))
        | (at_builtin; refine wpList_app_at rfl (.tmp 56) (.tmp 62) 22 rfl wv.heap.size 3 (.int .i64 0) 1 8 Tryz.underlying22 int_info rfl (by omega) A9 k c9 _ rfl (HR8.out.alloc _).o9 _ _ 1 _ [.int .i64 (-t)] rfl (reads_new w8 #[.int .i64 (-t)] 3 1 1 rfl) (by simp [Value.oneCell']) (by unfold maxLen; omega) (by omega) (Nat.le_trans HSZ8.out (by simp)) ?_; intro A9' c9' w9 hown9 hb9 hg9 hat9; rw [← ints_one, ← ints_append] at hown9; have HR9 := hide ((HR8.out.alloc _).s9 hown9 hg9 hat9); have HB9 := hide (HB8.out.trans (((Below.refl wv.heap.size w8).alloc HSZ8.out _).trans hb9)); clear hown9 hb9 hg9 hat9; have x0 := CELL.out w9 HB9.out; have HSZ9 := hide (Nat.le_trans HSZ.out HB9.out.size))
        | (at_builtin; refine wpList_app_at rfl (.tmp 64) (.tmp 69) 22 rfl wv.heap.size 3 (.int .i64 0) 1 8 Tryz.underlying22 int_info rfl (by omega) At k ct _ rfl (HR9.out.alloc _).ot _ _ 1 _ [.int .i64 t] rfl (reads_new w9 #[.int .i64 t] 3 1 1 rfl) (by simp [Value.oneCell']) (by unfold maxLen; omega) (by omega) (Nat.le_trans HSZ9.out (by simp)) ?_; intro At' ct' w10 hownt hbt hgt hatt; rw [← ints_one, ← ints_append] at hownt; have HRt := hide ((HR9.out.alloc _).st hownt hgt hatt); have HBt := hide (HB9.out.trans (((Below.refl wv.heap.size w9).alloc HSZ9.out _).trans hbt)); clear hownt hbt hgt hatt))
      go_roundw
      case rel =>
        have hqj := HQJ.out
        exact ⟨k + 1, _, A8', c8', A9', c9', At', ct', by omega, rfl, by go_num, rfl, rfl, rfl, by rw [HTK.out, List.map_append, List.map_append]; exact HRt.out, HB.out.trans HBt.out⟩
      case measure => simp [intOf] <;> omega
    · obtain rfl : k = L := by omega
      have hq0 : q < 0 := by omega
      have d1 : decide ((0 : Int) ≤ q) = false := decide_eq_false (by omega)
      have htk : tape.reverse.take k = tape.reverse := List.take_of_length_le (by rw [List.length_reverse, HL.out]; exact Nat.le_refl _)
      have hr := HR.out
      rw [htk] at hr
      have R8 := hide hr.o8.ri
      have R9 := hide hr.o9.ri
      have Rt := hide hr.ot.ri
      have RT := hide (H1.out.next HB.out)
      have HB2 := hide (HB1.out.trans (HB.out.mono HB1.out.size))
      have HP2 := hide (HP1.out.below HB.out HP1.out.lt)
      have VB := hide (valid_back HV.out)
      have VC := hide (valid_changed HV.out)
      have LL : Hid ((tape.reverse.map (· + z)).length = k) := hide (by rw [List.length_map, List.length_reverse, HL.out])
      have LC : Hid ((tape.reverse.map (- ·)).length = k) := hide (by rw [List.length_map, List.length_reverse, HL.out])
      have LT : Hid (tape.reverse.length = k) := hide (by rw [List.length_reverse, HL.out])
      clear hr htk HR HB HP1 H1 hq hkL hk
      have D1 := hide (fun (W : World) (h : RI W W.heap.size A k tape) => by
        have := dist_err A ca tape n W (by rw [← HL.out]; exact h) (by rw [← HL.out]; exact (by unfold maxLen; omega)) (.inr herr)
        rw [← HL.out] at this
        exact this)
      have D2 := hide (fun (W : World) (h : RI W W.heap.size A8 k (tape.reverse.map (· + z))) => by
        have := dist_err A8 c8 (tape.reverse.map (· + z)) n W (by rw [LL.out]; exact h) (by rw [LL.out]; exact (by unfold maxLen; omega)) (.inr herr)
        rw [LL.out] at this
        exact this)
      have D3 := hide (fun (W : World) (h : RI W W.heap.size A9 k (tape.reverse.map (- ·))) => by
        have := dist_err A9 c9 (tape.reverse.map (- ·)) n W (by rw [LC.out]; exact h) (by rw [LC.out]; exact (by unfold maxLen; omega)) (.inr herr)
        rw [LC.out] at this
        exact this)
      have D4 := hide (fun (W : World) (h : RI W W.heap.size At k tape.reverse) => by
        have := dist_err At ct tape.reverse n W (by rw [LT.out]; exact h) (by rw [LT.out]; exact (by unfold maxLen; omega)) (.inr herr)
        rw [LT.out] at this
        exact this)
      clear herr HF HV HT VB VC LL LC LT HP2
      go_wp2_with fail
      refine (D1.out _ RT.out).mono ?_
      rintro en w4 ⟨rfl, hb4⟩
      have HB4 := hide (HB2.out.trans (hb4.mono HB2.out.size))
      have R8b := hide (R8.out.next hb4)
      have R9b := hide (R9.out.next hb4)
      have Rtb := hide (Rt.out.next hb4)
      clear hb4 D1 RT HB2 R8 R9 Rt
      go_wp2_with fail
      refine (D2.out _ R8b.out).mono ?_
      rintro en w5 ⟨rfl, hb5⟩
      have HB5 := hide (HB4.out.trans (hb5.mono HB4.out.size))
      have R9c := hide (R9b.out.next hb5)
      have Rtc := hide (Rtb.out.next hb5)
      clear hb5 D2 HB4 R8b R9b Rtb
      go_wp2_with fail
      refine (D3.out _ R9c.out).mono ?_
      rintro en w6 ⟨rfl, hb6⟩
      have HB6 := hide (HB5.out.trans (hb6.mono HB5.out.size))
      have Rtd := hide (Rtc.out.next hb6)
      clear hb6 D3 HB5 R9c Rtc
      go_wp2_with fail
      refine (D4.out _ Rtd.out).mono ?_
      rintro en w7 ⟨rfl, hb7⟩
      have HB7 := hide (HB6.out.trans (hb7.mono HB6.out.size))
      clear hb7 D4 HB6 Rtd
      go_wp2
      go_ret
      exact ⟨rfl, HB7.out⟩
end Go.Proofs.YtlkgoljpjeieiaaGreatDoor
