/-
  NoiseShifts: the walk, the moved tape valid.
-/
import Derived.Test.YtlkgoljpjeieiaaGreatDoorShiA
set_option linter.unusedVariables false
set_option linter.unusedSimpArgs false
namespace Go.Proofs.YtlkgoljpjeieiaaGreatDoor
open Go.RowKit Go.Deep Go.Maps

set_option maxHeartbeats 4000000 in
set_option maxRecDepth 100000 in
theorem shifts_val (A : Option Addr) (ca : Nat) (tape : List Int) (n z : Int) (w : World) (h : RI w w.heap.size A tape.length tape) (hm : tape.length ≤ maxLen) (hp : Pow w) (hf : few17 tape.length n = true) (hv : valid17 tape = true) (hz1 : -100 ≤ z) (hz2 : z ≤ 100) (h0 : 0 ≤ n) (h40 : n ≤ 40) (hvm : valid17 (tape.reverse.map (· + z)) = true) :
    Calls Tryz.prog 4 #[.slice A tape.length ca, .int .i64 n, .int .i64 z] w fun en w' => en = .returned (.bool true) ∧ Below w.heap.size w w' := by
  have H := hide h
  have HP := hide hp
  have HM := hide hm
  unfold maxLen at hm
  clear h hp
  go_enter Tryz.func4, Tryz.ntmps4
  go_wp2_with fail
  refine (head17_any w HP.out).mono ?_
  rintro en w1 ⟨rfl, hb1⟩
  have HB1 := hide hb1
  have HP1 := hide (HP.out.below hb1 HP.out.lt)
  have H1 := hide (H.out.next hb1)
  clear hb1 H HP
  go_wp2_with fail
  refine (few17_any A ca tape.length n w1 HM.out).mono ?_
  rintro en w' ⟨rfl, hw⟩
  subst hw
  rw [hf]
  go_wp2_with fail
  refine (nv17_any A ca tape w' H1.out HM.out).mono ?_
  rintro en wv ⟨rfl, hw⟩
  subst hw
  rw [hv]
  obtain ⟨t1, t9, ht⟩ := valid17_ok hv
  have HF := hide hf
  have HV := hide hv
  have HT := hide ht
  obtain ⟨L, hL⟩ : ∃ L, L = tape.length := ⟨_, rfl⟩
  have HL := hide hL
  rw [← hL] at H1 t1 t9 hm ⊢
  clear hL hf hv ht
  go_wp2
  go_loopw [8, 9, 10, 11] (fun t8 t9 t10 t11 wr => ∃ (k : Nat) (q : Int) (A8 : Option Addr) (c8 : Nat) (A9 : Option Addr) (c9 : Nat) (At : Option Addr) (ct : Nat), k ≤ L ∧ q = (L : Int) - 1 - k ∧ t11 = .int .i64 q ∧ t8 = .slice A8 k c8 ∧ t9 = .slice A9 k c9 ∧ t10 = .slice At k ct ∧
    Rows3 wr wv.heap.size A8 c8 k A9 c9 k At ct k (tape.reverse.take k |>.map (· + z)) (tape.reverse.take k |>.map (- ·)) (tape.reverse.take k) ∧ Below wv.heap.size wv wr) (fun _ _ _ t11 _ => (intOf t11 + 1).toNat)
  case atStart => exact ⟨0, _, none, 0, none, 0, none, 0, Nat.zero_le _, rfl, by go_num, rfl, rfl, rfl, ⟨Own.nil _ _ _ _, Own.nil _ _ _ _, Own.nil _ _ _ _, Apart.none_left _, Apart.none_left _, Apart.none_left _⟩, Below.refl _ _⟩
  case round =>
    obtain ⟨k, q, A8, c8, A9, c9, At, ct, hk, hq, rfl, rfl, rfl, rfl, hrows, hbr⟩ := hrel
    have HR := hide hrows
    have HB := hide hbr
    clear hrows hbr
    by_cases hkL : k < L
    · obtain ⟨j, hj⟩ : ∃ j : Nat, j = L - 1 - k := ⟨_, rfl⟩
      obtain rfl : q = (j : Int) := by omega
      obtain ⟨b, o, rfl, hb, x0⟩ := H1.out.at_ (k := j) (by omega)
      have htb : -50 ≤ nth tape j ∧ nth tape j ≤ 50 := nth_in HT.out (by rw [← HL.out]; omega)
      have x0 : wr.cell? ⟨b, o + j, none⟩ = some (.int .i64 (nth tape j)) := (HB.out.cell (p := ⟨b, o + j, none⟩) hb).trans x0
      have HTK : Hid (tape.reverse.take (k + 1) = tape.reverse.take k ++ [nth tape j]) := hide (by
        have := rev_nth (tape := tape) (k := k) (by rw [← HL.out]; exact hkL)
        rw [← HL.out, ← hj] at this
        exact this)
      generalize nth tape j = t at x0 htb HTK
      have HSZ := hide HB.out.size
      have CELL : Hid (∀ W, Below wv.heap.size wr W → W.cell? ⟨b, o + j, none⟩ = some (.int .i64 t)) := hide (fun W hW => (hW.cell (p := ⟨b, o + j, none⟩) hb).trans x0)
      have hjL : j < L := by omega
      have HQJ := hide hq
      clear hj hq
      go_wp2_with (first
        | (at_builtin; refine wpList_app_at rfl (.tmp 47) (.tmp 54) 22 rfl wv.heap.size 3 (.int .i64 0) 1 8 Tryz.underlying22 int_info rfl (by omega) A8 k c8 _ rfl (HR.out.alloc _).o8 _ _ 1 _ [.int .i64 (t + z)] rfl (reads_new wr #[.int .i64 (t + z)] 3 1 1 rfl) (by simp [Value.oneCell']) (by unfold maxLen; omega) (by omega) (Nat.le_trans HSZ.out (by simp)) ?_; intro A8' c8' w8 hown8 hb8 hg8 hat8; rw [← ints_one, ← ints_append] at hown8; have HR8 := hide ((HR.out.alloc _).s8 hown8 hg8 hat8); have HB8 := hide (((Below.refl wv.heap.size wr).alloc HSZ.out _).trans hb8); clear hown8 hb8 hg8 hat8; have x0 := CELL.out w8 HB8.out; have HSZ8 := hide (Nat.le_trans HSZ.out HB8.out.size))
        | (at_builtin; refine wpList_app_at rfl (.tmp 56) (.tmp 62) 22 rfl wv.heap.size 3 (.int .i64 0) 1 8 Tryz.underlying22 int_info rfl (by omega) A9 k c9 _ rfl (HR8.out.alloc _).o9 _ _ 1 _ [.int .i64 (-t)] rfl (reads_new w8 #[.int .i64 (-t)] 3 1 1 rfl) (by simp [Value.oneCell']) (by unfold maxLen; omega) (by omega) (Nat.le_trans HSZ8.out (by simp)) ?_; intro A9' c9' w9 hown9 hb9 hg9 hat9; rw [← ints_one, ← ints_append] at hown9; have HR9 := hide ((HR8.out.alloc _).s9 hown9 hg9 hat9); have HB9 := hide (HB8.out.trans (((Below.refl wv.heap.size w8).alloc HSZ8.out _).trans hb9)); clear hown9 hb9 hg9 hat9; have x0 := CELL.out w9 HB9.out; have HSZ9 := hide (Nat.le_trans HSZ.out HB9.out.size))
        | (at_builtin; refine wpList_app_at rfl (.tmp 64) (.tmp 69) 22 rfl wv.heap.size 3 (.int .i64 0) 1 8 Tryz.underlying22 int_info rfl (by omega) At k ct _ rfl (HR9.out.alloc _).ot _ _ 1 _ [.int .i64 t] rfl (reads_new w9 #[.int .i64 t] 3 1 1 rfl) (by simp [Value.oneCell']) (by unfold maxLen; omega) (by omega) (Nat.le_trans HSZ9.out (by simp)) ?_; intro At' ct' w10 hownt hbt hgt hatt; rw [← ints_one, ← ints_append] at hownt; have HRt := hide ((HR9.out.alloc _).st hownt hgt hatt); have HBt := hide (HB9.out.trans (((Below.refl wv.heap.size w9).alloc HSZ9.out _).trans hbt)); clear hownt hbt hgt hatt))
      go_roundw
      case rel =>
        have hqj := HQJ.out
        exact ⟨k + 1, _, A8', c8', A9', c9', At', ct', by omega, rfl, by go_num, rfl, rfl, rfl, by rw [HTK.out, List.map_append, List.map_append]; exact HRt.out, HB.out.trans HBt.out⟩
      case measure => simp [intOf] <;> omega
    · obtain rfl : k = L := by omega
      have hq0 : q < 0 := by omega
      have d1 : decide ((0 : Int) ≤ q) = false := decide_eq_false (by omega)
      have htk : tape.reverse.take k = tape.reverse := List.take_of_length_le (by rw [List.length_reverse, HL.out]; exact Nat.le_refl _)
      have hr := HR.out
      rw [htk] at hr
      have R8 := hide hr.o8.ri
      have R9 := hide hr.o9.ri
      have Rt := hide hr.ot.ri
      have RT := hide (H1.out.next HB.out)
      have HB2 := hide (HB1.out.trans (HB.out.mono HB1.out.size))
      have HP2 := hide (HP1.out.below HB.out HP1.out.lt)
      have VB := hide (valid_back HV.out)
      have VC := hide (valid_changed HV.out)
      have LL : Hid ((tape.reverse.map (· + z)).length = k) := hide (by rw [List.length_map, List.length_reverse, HL.out])
      have LC : Hid ((tape.reverse.map (- ·)).length = k) := hide (by rw [List.length_map, List.length_reverse, HL.out])
      have LT : Hid (tape.reverse.length = k) := hide (by rw [List.length_reverse, HL.out])
      clear hr htk HR HB HP1 H1 hq hkL hk
      have hn6 : n ≤ 6 := by
        have hf := HF.out
        unfold few17 at hf
        simp only [Bool.and_eq_true, Bool.or_eq_true, decide_eq_true_eq] at hf
        omega
      obtain ⟨m, rfl⟩ : ∃ m : Nat, n = m := ⟨n.toNat, by omega⟩
      have hm6 : m ≤ 6 := by omega
      clear h0 h40 hn6 HF
      have D1 := hide (fun (W : World) (h : RI W W.heap.size A k tape) (hp : Pow W) => by
        have := dist_ok A ca tape m W (by rw [← HL.out]; exact h) HV.out hm6 hp
        rw [← HL.out] at this
        exact this)
      have D3 := hide (fun (W : World) (h : RI W W.heap.size A9 k (tape.reverse.map (- ·))) (hp : Pow W) => by
        have := dist_ok A9 c9 (tape.reverse.map (- ·)) m W (by rw [LC.out]; exact h) VC.out hm6 hp
        unfold DistPost at this
        rw [LC.out, changed_dist HT.out] at this
        exact this)
      have D4 := hide (fun (W : World) (h : RI W W.heap.size At k tape.reverse) (hp : Pow W) => by
        have := dist_ok At ct tape.reverse m W (by rw [LT.out]; exact h) VB.out hm6 hp
        unfold DistPost at this
        rw [LT.out, back_dist HT.out] at this
        exact this)
      have V2 := hide (fun (W : World) (h : RI W W.heap.size A8 k (tape.reverse.map (· + z))) => by
        have := nv17_any A8 c8 (tape.reverse.map (· + z)) W (by rw [LL.out]; exact h) (by rw [LL.out]; exact (by unfold maxLen; omega))
        rw [LL.out] at this
        exact this)
      unfold DistPost at D1
      have LA := dist_len_le tape (n := m) hm6
      have CA := hide (dist_cnt_bd HT.out (by rw [← HL.out]; exact t9) (n := m) hm6)
      have VA := hide (fun i (hi : i < (dist17 tape m).length) => dist_val_bd HT.out (n := m) hm6 hi)
      have zb := shift_bd (n := m) (z := z) hm6 (by omega)
      have HVM := hide hvm
      have D2 := hide (fun (W : World) (h : RI W W.heap.size A8 k (tape.reverse.map (· + z))) (hp : Pow W) => by
        have := dist_ok A8 c8 (tape.reverse.map (· + z)) m W (by rw [LL.out]; exact h) HVM.out hm6 hp
        unfold DistPost at this
        rw [LL.out, moved_dist HT.out (valid17_ok HVM.out).2.2] at this
        exact this)
      rw [HVM.out] at V2
      obtain ⟨l, hl⟩ : ∃ l, l = dist17 tape m := ⟨_, rfl⟩
      rw [← hl] at D1 D3 D4 LA CA VA D2
      obtain ⟨N, hN⟩ : ∃ N, N = l.length := ⟨_, rfl⟩
      have HN := hide hN
      clear hl hvm HV HT VB VC LL LC LT
      go_wp2_with fail
      refine (D1.out _ RT.out HP2.out).mono ?_
      rintro en w4 ⟨Al, cl, rfl, hrd, hb4⟩
      have RL := hide hrd
      have HB4 := hide (HB2.out.trans (hb4.mono HB2.out.size))
      have HP4 := hide (HP2.out.below hb4 HP2.out.lt)
      have R8b := hide (R8.out.next hb4)
      have R9b := hide (R9.out.next hb4)
      have Rtb := hide (Rt.out.next hb4)
      clear hrd hb4 D1 RT HP2 HB2 R8 R9 Rt
      go_wp2_with fail
      refine (D2.out _ R8b.out HP4.out).mono ?_
      rintro en w5 ⟨Aa, ca5, rfl, hrd, hb5⟩
      have RA := hide hrd
      clear hrd
      have HB5 := hide (HB4.out.trans (hb5.mono HB4.out.size))
      have HP5 := hide (HP4.out.below hb5 HP4.out.lt)
      have R8c := hide (R8b.out.next hb5)
      have R9c := hide (R9b.out.next hb5)
      have Rtc := hide (Rtb.out.next hb5)
      have RLb := hide (RL.out.next hb5)
      clear hb5 D2 HP4 HB4 R8b R9b Rtb RL
      go_wp2_with fail
      refine (D3.out _ R9c.out HP5.out).mono ?_
      rintro en w6 ⟨Ab, cb, rfl, hrd, hb6⟩
      have RB := hide hrd
      have HB6 := hide (HB5.out.trans (hb6.mono HB5.out.size))
      have HP6 := hide (HP5.out.below hb6 HP5.out.lt)
      have R8d := hide (R8c.out.next hb6)
      have Rtd := hide (Rtc.out.next hb6)
      have RLc := hide (RLb.out.next hb6)
      have RAb := hide (RA.out.next hb6)
      clear RA
      clear hrd hb6 D3 HP5 HB5 R8c R9c Rtc RLb
      go_wp2_with fail
      refine (D4.out _ Rtd.out HP6.out).mono ?_
      rintro en w7 ⟨Ac, cc, rfl, hrd, hb7⟩
      have RC := hide hrd
      have HB7 := hide (HB6.out.trans (hb7.mono HB6.out.size))
      have R8e := hide (R8d.out.next hb7)
      have RLd := hide (RLc.out.next hb7)
      have RBb := hide (RB.out.next hb7)
      have RAc := hide (RAb.out.next hb7)
      clear RAb
      clear hrd hb7 D4 HP6 HB6 R8d Rtd RLc RB
      have hlb : (l.map fun p => (-p.1, p.2)).reverse.length = N := by rw [List.length_reverse, List.length_map, hN]
      rw [hlb] at RBb
      have hla : (l.map fun p => (p.1 + (m : Int) * z, p.2)).length = N := by rw [List.length_map, hN]
      rw [hla] at RAc
      rw [← hN] at RLd RC LA VA ⊢
      clear hlb hN hla
      go_wp2_with fail
      refine (same17_any Ac Al cc cl N l w7 RC.out RLd.out (by omega) CA.out).mono ?_
      rintro en w8 ⟨rfl, m8, h8⟩
      have R8f := hide (show RI w8 w8.heap.size A8 k (tape.reverse.map (· + z)) by rw [h8]; exact R8e.out.drewNs m8)
      have HB8 : Hid (Below w7.heap.size w7 w8) := hide (by rw [h8]; exact below_drewN (Below.refl _ _) m8)
      clear h8 R8e RC
      go_wp2_with fail
      refine (V2.out w8 R8f.out).mono ?_
      rintro en w9 ⟨rfl, h9⟩
      subst h9
      have HB9 := hide (HB7.out.trans (HB8.out.mono HB7.out.size))
      have RLe := hide (RLd.out.next HB8.out)
      have RBc := hide (RBb.out.next HB8.out)
      have RAd := hide (RAc.out.next HB8.out)
      clear RAc
      clear RLd RBb HB8 HB7 R8f V2
      go_wp2
      go_loopw [20] (fun t20 wq => ∃ i : Nat, i ≤ N ∧ t20 = .int .i64 i ∧ ∃ q, wq = w9.drewN q) (fun t20 _ => N - (intOf t20).toNat)
      case atStart => exact ⟨0, Nat.zero_le _, rfl, 0, rfl⟩
      case round =>
        obtain ⟨i, hi, rfl, q, hwq⟩ := hrel
        have HW := hide hwq
        clear hwq
        by_cases hiN : i < N
        · obtain ⟨b1, o1, rfl, _, x0, x1⟩ := RLe.out.at_ hiN
          obtain ⟨j, hj⟩ : ∃ j : Nat, j = N - 1 - i := ⟨_, rfl⟩
          obtain ⟨b2, o2, rfl, _, y0, y1⟩ := RBc.out.at_ (i := j) (by omega)
          have hbv : dAt (l.map fun p => (-p.1, p.2)).reverse j = (-(dAt l i).1, (dAt l i).2) := by
            rw [hj, HN.out]
            exact dAt_rev (fun p => (-p.1, p.2)) (by rw [← HN.out]; exact hiN)
          rw [hbv] at y0 y1
          have hvb := VA.out i hiN
          have hsz := (ns_small (show (dAt l i).2 < 1000000000 from CA.out _ (List.mem_of_getElem? (dAt_get (by rw [← HN.out]; exact hiN))))).2
          obtain ⟨b3, o3, rfl, _, z0, z1⟩ := RAd.out.at_ hiN
          have hav : dAt (l.map fun p => (p.1 + (m : Int) * z, p.2)) i = ((dAt l i).1 + (m : Int) * z, (dAt l i).2) := dAt_map (fun p => (p.1 + (m : Int) * z, p.2)) (by rw [← HN.out]; exact hiN)
          rw [hav] at z0 z1
          clear hav
          have z0 : wr.cell? ⟨b3, o3 + i * 2, none⟩ = some (.int .i64 ((dAt l i).1 + (m : Int) * z)) := by rw [HW.out]; exact z0
          have z1 : wr.cell? ⟨b3, o3 + i * 2 + 1, none⟩ = some (.string (NS (dAt l i).2)) := by rw [HW.out]; exact z1
          have x0 : wr.cell? ⟨b1, o1 + i * 2, none⟩ = some (.int .i64 (dAt l i).1) := by rw [HW.out]; exact x0
          have x1 : wr.cell? ⟨b1, o1 + i * 2 + 1, none⟩ = some (.string (NS (dAt l i).2)) := by rw [HW.out]; exact x1
          have y0 : wr.cell? ⟨b2, o2 + j * 2, none⟩ = some (.int .i64 (-(dAt l i).1)) := by rw [HW.out]; exact y0
          have y1 : wr.cell? ⟨b2, o2 + j * 2 + 1, none⟩ = some (.string (NS (dAt l i).2)) := by rw [HW.out]; exact y1
          have ej : (N : Int) - 1 - (i : Int) = (j : Int) := by omega
          have hjN : j < N := by omega
          generalize NS (dAt l i).2 = sv at x1 y1 hsz z1
          generalize (dAt l i).1 = v at x0 y0 hvb z0
          have hwn : IntKind.i64.wrap (-v) = -v := IntWalk.i64_in _ (by omega)
          have hw1 : IntKind.i64.wrap ((N : Int) - 1) = (N : Int) - 1 := IntWalk.i64_in _ (by omega)
          have hw2 : IntKind.i64.wrap ((N : Int) - 1 - (i : Int)) = (j : Int) := by rw [ej]; exact IntWalk.i64_in _ (by omega)
          obtain ⟨pz, hpz⟩ : ∃ pz, pz = (m : Int) * z := ⟨_, rfl⟩
          have hmul : (m : Int) * z = pz := hpz.symm
          have hzb : -600 ≤ pz ∧ pz ≤ 600 := by rw [hpz]; exact zb
          rw [hmul] at z0
          have hw3 : IntKind.i64.wrap ((m : Int) * z) = pz := by rw [hmul]; exact IntWalk.i64_in _ (by omega)
          have hw4 : IntKind.i64.wrap (v + pz) = v + pz := IntWalk.i64_in _ (by omega)
          clear hpz zb
          have g1 : (0 : Int) ≤ (i : Int) := by omega
          have g2 : (i : Int) < (N : Int) := by omega
          have g3 : (0 : Int) ≤ (j : Int) := by omega
          have g4 : (j : Int) < (N : Int) := by omega
          clear hbv hj RLe RBc VA CA HN HL HM RAd
          go_upto_region 22 with (fail)
          go_big_quiet (fail)
          go_wp2
          go_roundw
          case rel => exact ⟨i + 1, by omega, by go_num, q + nq, by rw [HW.out, World.drewN_drewN]⟩
          case measure => simp [intOf] <;> omega
        · obtain rfl : i = N := by omega
          have HFIN : Hid (Below w.heap.size w wr) := hide (by rw [HW.out]; exact below_drewN HB9.out q)
          have d1 : decide ((i : Int) < (i : Int)) = false := decide_eq_false (by omega)
          go_wp2
          go_ret
          exact ⟨rfl, HFIN.out⟩
end Go.Proofs.YtlkgoljpjeieiaaGreatDoor
