/-
  NoiseConvolves: the walk.
-/
import Derived.Test.YtlkgoljpjeieiaaGreatDoorConP
set_option linter.unusedVariables false
set_option linter.unusedSimpArgs false
namespace Go.Proofs.YtlkgoljpjeieiaaGreatDoor
open Go.RowKit Go.Deep Go.Maps

set_option maxHeartbeats 4000000 in
set_option maxRecDepth 100000 in
theorem conv_any (A : Option Addr) (ca : Nat) (tape : List Int) (r s : Nat) (w : World) (h : RI w w.heap.size A tape.length tape) (hm : tape.length ≤ maxLen) (hr : r ≤ 255) (hs : s ≤ 255) (hp : Pow w) :
    Calls Tryz.prog 6 #[.slice A tape.length ca, .int .u8 r, .int .u8 s] w fun en w' => en = .returned (.bool true) ∧ Below w.heap.size w w' := by
  have H := hide h
  have HP := hide hp
  have HM := hide hm
  unfold maxLen at hm
  obtain ⟨n, hn⟩ : ∃ n, n = r % 4 := ⟨_, rfl⟩
  obtain ⟨m, hmm⟩ : ∃ n, n = s % 4 := ⟨_, rfl⟩
  have hn4 : n ≤ 3 := by omega
  have hm4 : m ≤ 3 := by omega
  have en1 : (r : Int).tmod 4 = (n : Int) := by rw [Int.tmod_eq_emod_of_nonneg (by omega)]; omega
  have en2 : (r : Int) % 4 = (n : Int) := by omega
  have en3 : (s : Int).tmod 4 = (m : Int) := by rw [Int.tmod_eq_emod_of_nonneg (by omega)]; omega
  have en4 : (s : Int) % 4 = (m : Int) := by omega
  clear h hp hn hmm
  go_enter Tryz.func6, Tryz.ntmps6
  go_wp2_with fail
  refine (head17_any w HP.out).mono ?_
  rintro en w1 ⟨rfl, hb1⟩
  have HB1 := hide hb1
  have HP1 := hide (HP.out.below hb1 HP.out.lt)
  have H1 := hide (H.out.next hb1)
  clear hb1 H HP
  go_wp2_with fail
  refine (few17_any A ca tape.length ((n : Int) + (m : Int)) w1 HM.out).mono ?_
  rintro en w' ⟨rfl, hw⟩
  subst hw
  clear en1 en2 en3 en4
  cases hf : few17 tape.length ((n : Int) + (m : Int))
  · clear hf
    go_wp2
    go_ret
    exact ⟨rfl, HB1.out⟩
  clear hf
  go_wp2_with fail
  refine (nv17_any A ca tape w' H1.out HM.out).mono ?_
  rintro en wv ⟨rfl, hw⟩
  subst hw
  cases hv : valid17 tape
  · clear hv
    go_wp2
    go_ret
    exact ⟨rfl, HB1.out⟩
  obtain ⟨t1, t9, ht⟩ := valid17_ok hv
  have HD1 := hide (fun (W : World) (h : RI W W.heap.size A tape.length tape) (hp : Pow W) => dist_ok A ca tape n W h hv (by omega) hp)
  have HD2 := hide (fun (W : World) (h : RI W W.heap.size A tape.length tape) (hp : Pow W) => dist_ok A ca tape m W h hv (by omega) hp)
  have HD3 := hide (fun (W : World) (h : RI W W.heap.size A tape.length tape) (hp : Pow W) => by
    have := dist_ok A ca tape (n + m) W h hv (by omega) hp
    rw [Int.natCast_add] at this
    exact this)
  unfold DistPost at HD1 HD2 HD3
  have LA := dist_len_le tape (n := n) (by omega)
  have LB := dist_len_le tape (n := m) (by omega)
  have LC := dist_len_le tape (n := n + m) (by omega)
  have CA := hide (dist_cnt_bd ht t9 (n := n) (by omega))
  have CB := hide (dist_cnt_bd ht t9 (n := m) (by omega))
  have CC := hide (dist_cnt_bd ht t9 (n := n + m) (by omega))
  have VA := hide (fun k (hk : k < (dist17 tape n).length) => dist_val_bd ht (n := n) (by omega) hk)
  have VB := hide (fun k (hk : k < (dist17 tape m).length) => dist_val_bd ht (n := m) (by omega) hk)
  have VC := hide (fun k (hk : k < (dist17 tape (n + m)).length) => dist_val_bd ht (n := n + m) (by omega) hk)
  have POS := hide (fun i k (hi : i < (dist17 tape n).length) (hk : k < (dist17 tape m).length) => conv_pos ht hi hk)
  have SUM := hide (fun v => convL_all ht n m v)
  have SBD := hide (fun v i => conv_bd ht t9 (n := n) (m := m) (by omega) v i)
  obtain ⟨la, hla⟩ : ∃ l, l = dist17 tape n := ⟨_, rfl⟩
  obtain ⟨lb, hlb⟩ : ∃ l, l = dist17 tape m := ⟨_, rfl⟩
  obtain ⟨lc, hlc⟩ : ∃ l, l = dist17 tape (n + m) := ⟨_, rfl⟩
  rw [← hla] at HD1 LA CA VA POS SUM SBD
  rw [← hlb] at HD2 LB CB VB POS SUM SBD
  rw [← hlc] at HD3 LC CC VC POS SUM
  clear hla hlb hlc ht hv
  go_wp2_with fail
  refine (HD1.out _ H1.out HP1.out).mono ?_
  rintro en w2 ⟨A1, c1, rfl, hrd, hb2⟩
  have HR1 := hide hrd
  have HB2 := hide (HB1.out.trans (hb2.mono HB1.out.size))
  have HP2 := hide (HP1.out.below hb2 HP1.out.lt)
  have H2 := hide (H1.out.next hb2)
  clear hrd hb2 HD1 H1 HP1 HB1
  go_wp2_with fail
  refine (HD2.out _ H2.out HP2.out).mono ?_
  rintro en w3 ⟨A2, c2, rfl, hrd, hb2⟩
  have HR2 := hide hrd
  have HR1b := hide (HR1.out.next hb2)
  have HB3 := hide (HB2.out.trans (hb2.mono HB2.out.size))
  have HP3 := hide (HP2.out.below hb2 HP2.out.lt)
  have H3 := hide (H2.out.next hb2)
  clear hrd hb2 HD2 H2 HP2 HB2 HR1
  go_wp2_with fail
  refine (HD3.out _ H3.out HP3.out).mono ?_
  rintro en w4 ⟨A3, c3, rfl, hrd, hb2⟩
  have RC := hide hrd
  have RA := hide (HR1b.out.next hb2)
  have RB := hide (HR2.out.next hb2)
  have HB4 := hide (HB3.out.trans (hb2.mono HB3.out.size))
  clear hrd hb2 HD3 H3 HP3 HB3 HR1b HR2
  obtain ⟨N1, hN1⟩ : ∃ N, N = la.length := ⟨_, rfl⟩
  obtain ⟨N2, hN2⟩ : ∃ N, N = lb.length := ⟨_, rfl⟩
  obtain ⟨N3, hN3⟩ : ∃ N, N = lc.length := ⟨_, rfl⟩
  have HN1 := hide hN1
  rw [← hN1] at RA LA VA POS SUM ⊢
  rw [← hN2] at RB LB VB POS ⊢
  rw [← hN3] at RC LC VC ⊢
  clear hN1 hN2 hN3
  have CNA : Hid (∀ (v : Int) (W W' : World), Below w4.heap.size w4 W → Below W.heap.size W W' → Calls Tryz.prog 19 #[.slice A1 N1 c1, .int .i64 v] W' fun en w' => en = .returned (.int .i64 (cntL la v)) ∧ Below W.heap.size W w') := hide (fun v W W' hb hb' =>
    (count17_any A1 c1 N1 la v W' ((RA.out.next hb).next hb') (by omega) CA.out).mono fun en w' h => ⟨h.1, hb'.trans (h.2.mono hb'.size)⟩)
  have CNB : Hid (∀ (v : Int) (W W' : World), Below w4.heap.size w4 W → Below W.heap.size W W' → Calls Tryz.prog 19 #[.slice A2 N2 c2, .int .i64 v] W' fun en w' => en = .returned (.int .i64 (cntL lb v)) ∧ Below W.heap.size W w') := hide (fun v W W' hb hb' =>
    (count17_any A2 c2 N2 lb v W' ((RB.out.next hb).next hb') (by omega) CB.out).mono fun en w' h => ⟨h.1, hb'.trans (h.2.mono hb'.size)⟩)
  have CNC : Hid (∀ (v : Int) (W W' : World), Below w4.heap.size w4 W → Below W.heap.size W W' → Calls Tryz.prog 19 #[.slice A3 N3 c3, .int .i64 v] W' fun en w' => en = .returned (.int .i64 (cntL lc v)) ∧ Below W.heap.size W w') := hide (fun v W W' hb hb' =>
    (count17_any A3 c3 N3 lc v W' ((RC.out.next hb).next hb') (by omega) CC.out).mono fun en w' h => ⟨h.1, hb'.trans (h.2.mono hb'.size)⟩)
  clear CA CB CC hn4 hm4 t1 t9
  go_wp2
  go_loopw [16] (fun t16 wr => ∃ i : Nat, i ≤ N1 ∧ t16 = .int .i64 i ∧ Below w4.heap.size w4 wr) (fun t16 _ => N1 - (intOf t16).toNat)
  case atStart => exact ⟨0, Nat.zero_le _, rfl, Below.refl _ _⟩
  case round =>
    obtain ⟨i, hi, rfl, hbr⟩ := hrel
    have HBR := hide hbr
    clear hbr
    by_cases hiN : i < N1
    · obtain ⟨wo, hwo⟩ : ∃ wo : World, wo = wr := ⟨_, rfl⟩
      subst hwo
      go_wp2
      go_loopw [17] (fun t17 wq => ∃ k : Nat, k ≤ N2 ∧ t17 = .int .i64 k ∧ Below w4.heap.size w4 wq) (fun t17 _ => N2 - (intOf t17).toNat)
      case atStart => exact ⟨0, Nat.zero_le _, rfl, HBR.out⟩
      case round =>
        obtain ⟨k, hk, rfl, hbq⟩ := hrel
        have HBQ := hide hbq
        clear hbq
        by_cases hkN : k < N2
        · obtain ⟨b1, o1, rfl, hb1, x0, _⟩ := RA.out.at_ hiN
          obtain ⟨b2, o2, rfl, hb2, y0, _⟩ := RB.out.at_ hkN
          have hva := VA.out i hiN
          have hvb := VB.out k hkN
          have HPOS := hide (POS.out i k hiN hkN)
          have x0 := (HBQ.out.cell (p := ⟨b1, o1 + i * 2, none⟩) hb1).trans x0
          have y0 := (HBQ.out.cell (p := ⟨b2, o2 + k * 2, none⟩) hb2).trans y0
          have hb1' := Nat.lt_of_lt_of_le hb1 HBQ.out.size
          have hb2' := Nat.lt_of_lt_of_le hb2 HBQ.out.size
          generalize (dAt la i).1 = va at x0 hva HPOS
          generalize (dAt lb k).1 = vb at y0 hvb HPOS
          have KEEP : Hid (∀ w', Below wr.heap.size wr w' → (w'.cell? ⟨b1, o1 + i * 2, none⟩ = some (.int .i64 va) ∧ w'.cell? ⟨b2, o2 + k * 2, none⟩ = some (.int .i64 vb))) := hide (fun w' hb => ⟨(hb.cell (p := ⟨b1, o1 + i * 2, none⟩) hb1').trans x0, (hb.cell (p := ⟨b2, o2 + k * 2, none⟩) hb2').trans y0⟩)
          have HC := hide (CNC.out (va + vb) wr wr.drew HBQ.out (Below.drew (Below.refl _ _)))
          have K5 := hide (KEEP.out wr.drew (Below.drew (Below.refl _ _)))
          generalize hcn : cntL lc (va + vb) = cn at HC HPOS
          have q1 : ((cn : Int) == 0) = false := beq_eq_false_iff_ne.2 (by have := HPOS.out; omega)
          have hw : IntKind.i64.wrap (va + vb) = va + vb := IntWalk.i64_in _ (by omega)
          have g1 : (0 : Int) ≤ (i : Int) := by omega
          have g2 : (i : Int) < (N1 : Int) := by omega
          have g3 : (0 : Int) ≤ (k : Int) := by omega
          have g4 : (k : Int) < (N2 : Int) := by omega
          clear hcn HPOS POS VA VB VC SUM SBD CNA CNB CNC RA RB RC HN1 HB4 HBR HM hb1 hb2 hb1' hb2'
          go_upto_region 16 with (fail)
          go_region_held3 (fun w' => w'.cell? ⟨b1, o1 + i * 2, none⟩ = some (.int .i64 va) ∧ w'.cell? ⟨b2, o2 + k * 2, none⟩ = some (.int .i64 vb))
            (first | go_keep | exact K5.out | exact K6.out)
            (first
              | (go_at_call 19; refine HC.out.mono ?_; rintro en w6 ⟨rfl, b6⟩; have B6 := hide b6; have K6 := hide (KEEP.out w6 b6); clear b6))
          have HB6 := hide (HBQ.out.trans (B6.out.mono HBQ.out.size))
          clear K5 K6 B6 KEEP x0 y0
          go_wp2
          go_roundw
          case rel => exact ⟨k + 1, by omega, by go_num, HB6.out⟩
          case measure => simp [intOf] <;> omega
        · obtain rfl : k = N2 := by omega
          go_wp2
          go_roundw
          case rel => exact ⟨i + 1, by omega, by go_num, HBQ.out⟩
          case measure => simp [intOf] <;> omega
    · clear POS VB
      obtain ⟨wz, hwz⟩ : ∃ wo : World, wo = wr := ⟨_, rfl⟩
      subst hwz
      go_wp2
      go_loopw [18] (fun t18 wq => ∃ j : Nat, j ≤ N3 ∧ t18 = .int .i64 j ∧ Below w4.heap.size w4 wq) (fun t18 _ => N3 - (intOf t18).toNat)
      case atStart => exact ⟨0, Nat.zero_le _, rfl, HBR.out⟩
      case round =>
        obtain ⟨j, hj, rfl, hbq⟩ := hrel
        have HBQ := hide hbq
        clear hbq HBR hiN hi
        by_cases hjN : j < N3
        · obtain ⟨b3, o3, rfl, hb3, z0, _⟩ := RC.out.at_ hjN
          have hvc := VC.out j hjN
          have SUMV := hide (SUM.out (dAt lc j).1)
          have SBDV := hide (fun i => SBD.out (dAt lc j).1 i)
          have STEPV := hide (fun i (hi : i < N1) => convL_step (a := la) (b := lb) (v := (dAt lc j).1) (i := i) (by rw [← HN1.out]; exact hi))
          have HCC := hide (fun W hb => CNC.out (dAt lc j).1 W W.drew hb (Below.drew (Below.refl _ _)))
          have HCD := hide (fun W hb => CNC.out (dAt lc j).1 W W hb (Below.refl _ _))
          generalize (dAt lc j).1 = vc at z0 hvc SUMV SBDV STEPV HCC HCD
          obtain ⟨wo, hwo⟩ : ∃ wo : World, wo = wr := ⟨_, rfl⟩
          subst hwo
          go_wp2
          go_loopw [19, 20] (fun t19 t20 wq => ∃ k : Nat, k ≤ N1 ∧ t20 = .int .i64 k ∧ t19 = .int .i64 ((convL la lb vc k : Nat) : Int) ∧ Below w4.heap.size w4 wq) (fun _ t20 _ => N1 - (intOf t20).toNat)
          case atStart => exact ⟨0, Nat.zero_le _, rfl, rfl, HBQ.out⟩
          case round =>
            obtain ⟨k, hk, rfl, rfl, hbr⟩ := hrel
            have HBR := hide hbr
            clear hbr
            have hs0 := SBDV.out k
            by_cases hkN : k < N1
            · obtain ⟨b1, o1, rfl, hb1, x0, _⟩ := RA.out.at_ hkN
              have hva := VA.out k hkN
              have hst := STEPV.out k hkN
              have hs1 := SBDV.out (k + 1)
              have x0 := (HBR.out.cell (p := ⟨b1, o1 + k * 2, none⟩) hb1).trans x0
              have z1 := (HBR.out.cell (p := ⟨b3, o3 + j * 2, none⟩) hb3).trans z0
              have hb1' := Nat.lt_of_lt_of_le hb1 HBR.out.size
              have hb3' := Nat.lt_of_lt_of_le hb3 HBR.out.size
              generalize (dAt la k).1 = va at x0 hva hst
              have KEEP : Hid (∀ w', Below wr.heap.size wr w' → (w'.cell? ⟨b1, o1 + k * 2, none⟩ = some (.int .i64 va) ∧ w'.cell? ⟨b3, o3 + j * 2, none⟩ = some (.int .i64 vc))) := hide (fun w' hb => ⟨(hb.cell (p := ⟨b1, o1 + k * 2, none⟩) hb1').trans x0, (hb.cell (p := ⟨b3, o3 + j * 2, none⟩) hb3').trans z1⟩)
              have HC1 := hide (CNA.out va wr wr.drew HBR.out (Below.drew (Below.refl _ _)))
              have HC2 := hide (fun W hb => CNB.out (vc - va) wr W HBR.out hb)
              have K5 := hide (KEEP.out wr.drew (Below.drew (Below.refl _ _)))
              rw [hst] at hs1
              have HST := hide hst
              generalize cntL la va = ca1 at HC1 hs1 HST
              generalize cntL lb (vc - va) = cb1 at HC2 hs1 HST
              obtain ⟨pl, hpl⟩ : ∃ pl, pl = ca1 * cb1 := ⟨_, rfl⟩
              have hmul : (ca1 : Int) * (cb1 : Int) = (pl : Int) := by rw [hpl, Int.natCast_mul]
              rw [← hpl] at hs1 HST
              have hw1 : IntKind.i64.wrap (vc - va) = vc - va := IntWalk.i64_in _ (by omega)
              have hw2 : IntKind.i64.wrap ((ca1 : Int) * (cb1 : Int)) = (pl : Int) := by rw [hmul]; exact IntWalk.i64_in _ (by omega)
              generalize convL la lb vc k = cv at hs0 hs1 HST ⊢
              have hw3 : IntKind.i64.wrap ((cv : Int) + (pl : Int)) = (cv : Int) + (pl : Int) := IntWalk.i64_in _ (by omega)
              have hw4 : IntKind.i64.wrap (pl : Int) = (pl : Int) := IntWalk.i64_in _ (by omega)
              have g1 : (0 : Int) ≤ (k : Int) := by omega
              have g2 : (k : Int) < (N1 : Int) := by omega
              have g3 : (0 : Int) ≤ (j : Int) := by omega
              have g4 : (j : Int) < (N3 : Int) := by omega
              clear hpl hst VA VC SUM SBD CNA CNB CNC RA RB RC HN1 HB4 HM hb1 hb3 hb1' hb3' STEPV SBDV SUMV HCC HCD HBQ z0
              go_upto_region 25 with (fail)
              go_region_held3 (fun w' => w'.cell? ⟨b1, o1 + k * 2, none⟩ = some (.int .i64 va) ∧ w'.cell? ⟨b3, o3 + j * 2, none⟩ = some (.int .i64 vc))
                (first | go_keep | exact K5.out | exact K6.out | exact K7.out)
                (first
                  | (go_at_call 19; refine HC1.out.mono ?_; rintro en w6 ⟨rfl, b6⟩; have B6 := hide b6; have K6 := hide (KEEP.out w6 b6); clear b6 HC1)
                  | (go_at_call 19; refine (HC2.out w6 B6.out).mono ?_; rintro en w7 ⟨rfl, b7⟩; have B7 := hide b7; have K7 := hide (KEEP.out w7 b7); clear b7 HC2))
              have HB7 := hide (HBR.out.trans (B7.out.mono HBR.out.size))
              clear K5 K6 B6 K7 B7 KEEP x0 z1
              go_wp2
              go_roundw
              case rel => exact ⟨k + 1, by omega, by go_num, by rw [HST.out, Int.natCast_add], HB7.out⟩
              case measure => simp [intOf] <;> omega
            · obtain rfl : k = N1 := by omega
              have z1 := (HBR.out.cell (p := ⟨b3, o3 + j * 2, none⟩) hb3).trans z0
              rw [SUMV.out] at hs0 ⊢
              have HC := hide (HCD.out wr HBR.out)
              generalize cntL lc vc = cc at HC hs0 ⊢
              have q1 : ((cc : Int) != (cc : Int)) = false := by simp
              clear z0
              go_wp2_with fail
              refine HC.out.mono ?_
              rintro en w6 ⟨rfl, b6⟩
              have HB6 := hide (HBR.out.trans (b6.mono HBR.out.size))
              clear b6 z1
              go_wp2
              go_roundw
              case rel => exact ⟨j + 1, by omega, by go_num, HB6.out⟩
              case measure => simp [intOf] <;> omega
        · have HFIN : Hid (Below w.heap.size w wr) := hide (HB4.out.trans (HBQ.out.mono HB4.out.size))
          go_wp2
          go_ret
          exact ⟨rfl, HFIN.out⟩
end Go.Proofs.YtlkgoljpjeieiaaGreatDoor
