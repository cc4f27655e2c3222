/-
  NoiseTotals: the walk.
-/
import Derived.Test.YtlkgoljpjeieiaaGreatDoorHeadM
set_option linter.unusedVariables false
set_option linter.unusedSimpArgs false
namespace Go.Proofs.YtlkgoljpjeieiaaGreatDoor
open Go.RowKit Go.Deep Go.Maps

/-- The least and the greatest offset of the first ones. -/
theorem low_step (tape : List Int) (j : Nat) (hj : j < tape.length) (lo hi : Int) (h : (∀ t ∈ tape.take j, lo ≤ t ∧ t ≤ hi) ∧ lo ∈ tape ∧ hi ∈ tape) :
    (∀ t ∈ tape.take (j + 1), min lo (nth tape j) ≤ t ∧ t ≤ max hi (nth tape j)) ∧ min lo (nth tape j) ∈ tape ∧ max hi (nth tape j) ∈ tape := by
  have hg : tape[j] = nth tape j := by
    unfold nth
    rw [List.getD_eq_getElem?_getD, List.getElem?_eq_getElem hj]
    rfl
  have hm : nth tape j ∈ tape := by rw [← hg]; exact List.getElem_mem hj
  refine ⟨fun t ht => ?_, ?_, ?_⟩
  · rw [List.take_succ_eq_append_getElem hj, List.mem_append, List.mem_singleton, hg] at ht
    rcases ht with ht | rfl
    · have := h.1 t ht
      omega
    · omega
  · rcases Int.le_total lo (nth tape j) with h1 | h1
    · rw [Int.min_eq_left h1]; exact h.2.1
    · rw [Int.min_eq_right h1]; exact hm
  · rcases Int.le_total hi (nth tape j) with h1 | h1
    · rw [Int.max_eq_right h1]; exact hm
    · rw [Int.max_eq_left h1]; exact h.2.2
theorem dist_fst {tape : List Int} {n k : Nat} (hk : k < (dist17 tape n).length) : (dAt (dist17 tape n) k).1 = nth (supp17 tape n) k ∧ (dAt (dist17 tape n) k).2 = cnt17 tape n (nth (supp17 tape n) k) := by
  have hl : k < (supp17 tape n).length := by
    unfold dist17 at hk
    rw [List.length_map] at hk
    exact hk
  have h1 := dAt_get hk
  have hg : (supp17 tape n)[k] = nth (supp17 tape n) k := by
    unfold nth
    rw [List.getD_eq_getElem?_getD, List.getElem?_eq_getElem hl]
    rfl
  unfold dist17 at h1 ⊢
  rw [List.getElem?_map, List.getElem?_eq_getElem hl, hg] at h1
  have h2 := (Option.some.inj h1).symm
  rw [h2]
  exact ⟨rfl, rfl⟩
/-- The ends of the values. -/
theorem dist_ends {tape : List Int} (ht : ∀ t ∈ tape, -50 ≤ t ∧ t ≤ 50) (n : Nat) {lo hi : Int} (hb : ∀ t ∈ tape, lo ≤ t ∧ t ≤ hi) (hl : lo ∈ tape) (hh : hi ∈ tape) :
    nth (supp17 tape n) 0 = (n : Int) * lo ∧ nth (supp17 tape n) ((supp17 tape n).length - 1) = (n : Int) * hi :=
  ⟨incr_first (supp17_incr tape n) ((supp17_mem ht).2 (sums17_same hl n)) fun y hy => (sums17_bd hb n y ((supp17_mem ht).1 hy)).1,
   incr_last (supp17_incr tape n) ((supp17_mem ht).2 (sums17_same hh n)) fun y hy => (sums17_bd hb n y ((supp17_mem ht).1 hy)).2⟩
theorem supp_incr {tape : List Int} {n k : Nat} (hk : k + 1 < (supp17 tape n).length) : nth (supp17 tape n) k < nth (supp17 tape n) (k + 1) := by
  have := List.pairwise_iff_getElem.1 (supp17_incr tape n) k (k + 1) (by omega) hk (Nat.lt_succ_self k)
  unfold nth
  rw [List.getD_eq_getElem?_getD, List.getD_eq_getElem?_getD, List.getElem?_eq_getElem (by omega), List.getElem?_eq_getElem hk]
  exact this
theorem small_mul {m : Nat} {x : Int} (hm : m ≤ 6) (h : -50 ≤ x ∧ x ≤ 50) : -300 ≤ (m : Int) * x ∧ (m : Int) * x ≤ 300 := by
  have : m = 0 ∨ m = 1 ∨ m = 2 ∨ m = 3 ∨ m = 4 ∨ m = 5 ∨ m = 6 := by omega
  rcases this with rfl | rfl | rfl | rfl | rfl | rfl | rfl <;> omega
set_option maxHeartbeats 2000000 in
set_option maxRecDepth 100000 in
theorem totals_any (A : Option Addr) (ca : Nat) (tape : List Int) (n : Int) (w : World) (h : RI w w.heap.size A tape.length tape) (hm : tape.length ≤ maxLen) (hp : Pow w) :
    Calls Tryz.prog 5 #[.slice A tape.length ca, .int .i64 n] w fun en w' => en = .returned (.bool true) ∧ Below w.heap.size w w' := by
  have H := hide h
  have HP := hide hp
  have HM := hide hm
  unfold maxLen at hm
  clear h hp
  go_enter Tryz.func5, Tryz.ntmps5
  go_wp2_with fail
  refine (head17_any w HP.out).mono ?_
  rintro en w1 ⟨rfl, hb1⟩
  have HB1 := hide hb1
  have HP1 := hide (HP.out.below hb1 HP.out.lt)
  have H1 := hide (H.out.next hb1)
  clear hb1 H HP
  go_wp2_with fail
  refine (few17_any A ca tape.length n w1 HM.out).mono ?_
  rintro en w' ⟨rfl, hw⟩
  subst hw
  cases hf : few17 tape.length n
  · clear hf
    go_wp2
    go_ret
    exact ⟨rfl, HB1.out⟩
  · by_cases hok : valid17 tape = true ∧ 0 ≤ n ∧ n ≤ 40
    · obtain ⟨hv, h0, h40⟩ := hok
      have hn6 : n ≤ 6 := by
        unfold few17 at hf
        simp only [Bool.and_eq_true, Bool.or_eq_true, decide_eq_true_eq] at hf
        omega
      obtain ⟨m, rfl⟩ : ∃ m : Nat, n = m := ⟨n.toNat, by omega⟩
      have hD := dist_ok A ca tape m w' H1.out hv (by omega) HP1.out
      obtain ⟨t1, t9, ht⟩ := valid17_ok hv
      have hm6 : m ≤ 6 := by omega
      unfold DistPost at hD
      have hlen : (dist17 tape m).length = (supp17 tape m).length := by unfold dist17; rw [List.length_map]
      have hNpos : 1 ≤ (dist17 tape m).length := by
        rw [hlen]
        obtain ⟨x, hx⟩ := List.exists_mem_of_ne_nil _ (sums17_ne (tape := tape) (fun e => by rw [e] at t1; simp at t1) m)
        exact List.length_pos_of_mem ((supp17_mem ht).2 hx)
      have hNmax : (dist17 tape m).length ≤ 601 := by
        rw [hlen]
        unfold supp17
        refine Nat.le_trans (List.length_filter_le _ _) ?_
        rw [List.length_map, List.length_range]
        omega
      have PV : Hid (∀ k, k < (dist17 tape m).length → 1 ≤ (dAt (dist17 tape m) k).2 ∧ (dAt (dist17 tape m) k).2 ≤ 531441) := hide (fun k hk => by
        have hk2 : k < (supp17 tape m).length := by rw [← hlen]; exact hk
        rw [(dist_fst hk).2]
        refine ⟨List.count_pos_iff.2 ((supp17_mem ht).1 ?_), count_bd t9 hm6 _⟩
        unfold nth
        rw [List.getD_eq_getElem?_getD, List.getElem?_eq_getElem hk2]
        exact List.getElem_mem hk2)
      have INC : Hid (∀ k, k + 1 < (dist17 tape m).length → (dAt (dist17 tape m) k).1 < (dAt (dist17 tape m) (k + 1)).1) := hide (fun k hk => by
        rw [(dist_fst (by omega)).1, (dist_fst hk).1]
        exact supp_incr (by rw [← hlen]; exact hk))
      have ENDS : Hid (∀ lo hi : Int, (∀ t ∈ tape, lo ≤ t ∧ t ≤ hi) → lo ∈ tape → hi ∈ tape → (dAt (dist17 tape m) 0).1 = (m : Int) * lo ∧ (dAt (dist17 tape m) ((dist17 tape m).length - 1)).1 = (m : Int) * hi) := hide (fun lo hi h1 h2 h3 => by
        rw [(dist_fst (by omega)).1, (dist_fst (by omega)).1, hlen]
        exact dist_ends ht m h1 h2 h3)
      have TOT : Hid (allT (dist17 tape m) = tape.length ^ m) := hide (total17 ht m)
      have ALLB : Hid (∀ j, allT ((dist17 tape m).take j) ≤ 531441) := hide (fun j => Nat.le_trans (allT_le _ j) (allT_dist ht t1 t9 hm6).1)
      have POWB : Hid (∀ j, j ≤ 6 → tape.length ^ j ≤ 531441) := hide (fun j hj => Nat.le_trans (Nat.pow_le_pow_left t9 j) (Nat.le_trans (Nat.pow_le_pow_right (by omega) hj) (by decide)))
      have HT := hide ht
      have HD := hide hD
      obtain ⟨l, hl⟩ : ∃ l, l = dist17 tape m := ⟨_, rfl⟩
      rw [← hl] at HD PV INC ENDS TOT ALLB hNpos hNmax
      obtain ⟨N, hN⟩ : ∃ N, N = l.length := ⟨_, rfl⟩
      have HN := hide hN
      rw [← hN] at HD PV INC ENDS hNpos hNmax
      clear hD hlen hl hN ht hf hv h0 h40
      go_wp2_with fail
      refine HD.out.mono ?_
      rintro en w2 ⟨A2, c2, rfl, hrd, hb2⟩
      have HR := hide hrd
      have HB2 := hide (HB1.out.trans (hb2.mono HB1.out.size))
      have H2 := hide (H1.out.next hb2)
      clear hrd hb2 HD H1 HP1
      obtain ⟨bt, ot, rfl, hbt, g0⟩ := H2.out.at_ (k := 0) (by omega)
      have hin0 : nth tape 0 ∈ tape := by
        have : tape[0] = nth tape 0 := by
          unfold nth
          rw [List.getD_eq_getElem?_getD, List.getElem?_eq_getElem (by omega)]
          rfl
        rw [← this]
        exact List.getElem_mem (by omega)
      have HIN0 := hide hin0
      obtain ⟨T0, hT0⟩ : ∃ T0, T0 = nth tape 0 := ⟨_, rfl⟩
      have g0 : w2.cell? ⟨bt, ot, none⟩ = some (.int .i64 T0) := by rw [hT0]; exact g0
      rw [← hT0] at HIN0
      clear hin0 hT0
      have qn : ((N : Int) == 0) = false := beq_eq_false_iff_ne.2 (by omega)
      have qt : ((tape.length : Int) == 0) = false := beq_eq_false_iff_ne.2 (by omega)
      go_upto_region 9 with (fail)
      go_quiet (fail)
      go_wp2
      go_loopw [8, 9, 10] (fun t8 t9 t10 wr => ∃ (j : Nat) (lo hi : Int), j ≤ tape.length ∧ t10 = .int .i64 j ∧ t8 = .int .i64 lo ∧ t9 = .int .i64 hi ∧ ((∀ t ∈ tape.take j, lo ≤ t ∧ t ≤ hi) ∧ lo ∈ tape ∧ hi ∈ tape) ∧ ∃ q, wr = w2.drewN q) (fun _ _ t10 _ => tape.length - (intOf t10).toNat)
      case atStart => exact ⟨0, T0, T0, Nat.zero_le _, rfl, rfl, rfl, ⟨fun t ht => by simp at ht, HIN0.out, HIN0.out⟩, _, rfl⟩
      case round =>
        clear g0
        obtain ⟨j, lo, hi, hj, rfl, rfl, rfl, hall, q, hwq⟩ := hrel
        have HA := hide hall
        have HW := hide hwq
        clear hall hwq
        by_cases hjl : j < tape.length
        · obtain ⟨b', o', hA, _, g1⟩ := H2.out.at_ hjl
          injection hA with hA
          injection hA with e1 e2
          subst e1 e2
          have g1 : wr.cell? ⟨bt, ot + j, none⟩ = some (.int .i64 (nth tape j)) := by rw [HW.out]; exact g1
          have HS := hide (low_step tape j hjl lo hi HA.out)
          generalize nth tape j = t at g1 HS
          go_upto_region 13 with (fail)
          go_quiet (fail)
          go_wp2
          go_roundw
          case rel => exact ⟨j + 1, _, _, by omega, by go_num, rfl, rfl, HS.out, q + nq, by rw [HW.out, World.drewN_drewN]⟩
          case measure => simp [intOf] <;> omega
        · obtain rfl : j = tape.length := by omega
          have hall := HA.out
          rw [List.take_length] at hall
          obtain ⟨EL, EH⟩ := ENDS.out lo hi hall.1 hall.2.1 hall.2.2
          have HEL := hide EL
          have HEH := hide EH
          have HR3 := hide (HR.out.next (show Below w2.heap.size w2 wr by rw [HW.out]; exact below_drewN (Below.refl _ _) q))
          have HB3 : Hid (Below w.heap.size w wr) := hide (by rw [HW.out]; exact below_drewN HB2.out q)
          have hlo := HT.out lo hall.2.1
          have hhi := HT.out hi hall.2.2
          have hz1 := small_mul hm6 hlo
          have hz2 := small_mul hm6 hhi
          clear EL EH hall HA HW HR HB2 H2 ENDS
          go_wp2
          go_loopw [11, 12] (fun t11 t12 wq => ∃ i : Nat, i ≤ m ∧ t12 = .int .i64 i ∧ t11 = .int .i64 ((tape.length ^ i : Nat) : Int) ∧ wq = wr) (fun _ t12 _ => m - (intOf t12).toNat)
          case atStart => exact ⟨0, Nat.zero_le _, rfl, rfl, rfl⟩
          case round =>
            obtain ⟨i, hi', rfl, rfl, hwq⟩ := hrel
            subst hwq
            by_cases him : i < m
            · have hpw := POWB.out (i + 1) (by omega)
              have hpe : tape.length ^ (i + 1) = tape.length ^ i * tape.length := Nat.pow_succ ..
              rw [hpe] at hpw
              obtain ⟨p, hpq⟩ : ∃ p, p = tape.length ^ i := ⟨_, rfl⟩
              have HPQ : Hid (((tape.length ^ (i + 1) : Nat) : Int) = ((p * tape.length : Nat) : Int)) := hide (by rw [hpe, hpq])
              rw [← hpq] at hpw ⊢
              obtain ⟨pl, hpl⟩ : ∃ pl, pl = p * tape.length := ⟨_, rfl⟩
              have hmul : (p : Int) * (tape.length : Int) = (pl : Int) := by rw [hpl, Int.natCast_mul]
              rw [← hpl] at hpw HPQ
              clear hpe hpq hpl
              go_wp2
              go_roundw
              case rel => exact ⟨i + 1, by omega, by go_num, by rw [HPQ.out], trivial⟩
              case measure => simp [intOf] <;> omega
            · obtain rfl : i = m := by omega
              rw [← TOT.out]
              have htb := ALLB.out N
              have htl : l.take N = l := by rw [HN.out]; exact List.take_length
              rw [htl] at htb
              go_wp2
              go_loopw [13, 14] (fun t13 t14 wq => ∃ k : Nat, k ≤ N ∧ t14 = .int .i64 k ∧ t13 = .int .i64 ((allT (l.take k) : Nat) : Int) ∧ Below wr.heap.size wr wq) (fun _ t14 _ => N - (intOf t14).toNat)
              case atStart => exact ⟨0, Nat.zero_le _, rfl, by simp [allT], Below.refl _ _⟩
              case round =>
                obtain ⟨k, hk, rfl, rfl, hbq⟩ := hrel
                have HBQ := hide hbq
                clear hbq
                by_cases hkN : k < N
                · obtain ⟨b2, o2, rfl, hb2, x0, x1⟩ := HR3.out.at_ hkN
                  have x0 := (HBQ.out.cell (p := ⟨b2, o2 + k * 2, none⟩) hb2).trans x0
                  have x1 := (HBQ.out.cell (p := ⟨b2, o2 + k * 2 + 1, none⟩) hb2).trans x1
                  obtain ⟨p1, p2⟩ := PV.out k hkN
                  have htk := take_snocO (l := l) (j := k) (by rw [← HN.out]; exact hkN)
                  have hal := ALLB.out (k + 1)
                  have HAL : Hid (((allT (l.take (k + 1)) : Nat) : Int) = (allT (l.take k) : Int) + ((dAt l k).2 : Int)) := hide (by rw [htk, allT_snoc, Int.natCast_add])
                  rw [htk, allT_snoc] at hal
                  have HINT := hide (nint_any (dAt l k).2 wr (by omega))
                  by_cases hk0 : k = 0
                  · subst hk0
                    generalize (dAt l 0).2 = c at x1 p1 p2 hal HAL HINT
                    generalize allT (l.take 0) = al at hal HAL ⊢
                    clear htk
                    go_wp2_with fail
                    refine HINT.out.mono ?_
                    rintro en w6 ⟨rfl, hb6⟩
                    have HB6 := hide (HBQ.out.trans (hb6.mono HBQ.out.size))
                    clear hb6 x0 x1 HINT
                    have d0 : decide ((c : Int) < 1) = false := decide_eq_false (by omega)
                    go_upto_region 24 with (fail)
                    go_quiet (fail)
                    go_wp2
                    go_roundw
                    case rel => exact ⟨0 + 1, by omega, by go_num, by rw [HAL.out], below_drewN HB6.out _⟩
                    case measure => simp [intOf]; try omega
                  · obtain ⟨k', rfl⟩ : ∃ k', k = k' + 1 := ⟨k - 1, by omega⟩
                    have hinc := INC.out k' hkN
                    obtain ⟨b3, o3, hA, hb3, y0, _⟩ := HR3.out.at_ (i := k') (by omega)
                    injection hA with hA
                    injection hA with e1 e2
                    subst e1 e2
                    have Y0 := hide y0
                    have X0 := hide x0
                    generalize (dAt l (k' + 1)).2 = c at x1 p1 p2 hal HAL HINT
                    generalize (dAt l (k' + 1)).1 = v1 at X0 hinc
                    generalize (dAt l k').1 = v0 at Y0 hinc
                    generalize allT (l.take (k' + 1)) = al at hal HAL ⊢
                    have d1 : decide (v1 ≤ v0) = false := decide_eq_false (by omega)
                    clear htk x0 y0
                    go_wp2_with fail
                    refine HINT.out.mono ?_
                    rintro en w6 ⟨rfl, hb6⟩
                    have HB6 := hide (HBQ.out.trans (hb6.mono HBQ.out.size))
                    have z1 : w6.cell? ⟨b2, o2 + (k' + 1) * 2, none⟩ = some (.int .i64 v1) := (hb6.cell (p := ⟨b2, o2 + (k' + 1) * 2, none⟩) (Nat.lt_of_lt_of_le hb2 HBQ.out.size)).trans X0.out
                    have z0 : w6.cell? ⟨b2, o2 + k' * 2, none⟩ = some (.int .i64 v0) := (HB6.out.cell (p := ⟨b2, o2 + k' * 2, none⟩) hb2).trans Y0.out
                    clear hb6 x1 HINT
                    have d0 : decide ((c : Int) < 1) = false := decide_eq_false (by omega)
                    have d2 : decide ((0 : Int) < ((k' + 1 : Nat) : Int)) = true := decide_eq_true (by omega)
                    go_upto_region 24 with (fail)
                    go_quiet (fail)
                    go_wp2
                    go_roundw
                    case rel => exact ⟨k' + 1 + 1, by omega, by go_num, by rw [HAL.out], below_drewN HB6.out _⟩
                    case measure => simp [intOf]; try omega
                · obtain rfl : k = N := by omega
                  rw [htl]
                  obtain ⟨k', rfl⟩ : ∃ k', k = k' + 1 := ⟨k - 1, by omega⟩
                  obtain ⟨b2, o2, rfl, hb2, x0, _⟩ := HR3.out.at_ (i := 0) (by omega)
                  obtain ⟨b3, o3, hA, hb3, y0, _⟩ := HR3.out.at_ (i := k') (by omega)
                  injection hA with hA
                  injection hA with e1 e2
                  subst e1 e2
                  rw [HEL.out] at x0
                  have hey : (dAt l k').1 = (i : Int) * hi := HEH.out
                  rw [hey] at y0
                  have x0 : wr.cell? ⟨b2, o2, none⟩ = some (.int .i64 ((i : Int) * lo)) := (HBQ.out.cell (p := ⟨b2, o2, none⟩) hb2).trans x0
                  have y0 : wr.cell? ⟨b2, o2 + k' * 2, none⟩ = some (.int .i64 ((i : Int) * hi)) := (HBQ.out.cell (p := ⟨b2, o2 + k' * 2, none⟩) hb2).trans y0
                  have HFB : Hid (Below w.heap.size w wr) := hide (HB3.out.trans (HBQ.out.mono HB3.out.size))
                  go_wp2
                  go_ret
                  exact ⟨rfl, HFB.out⟩
    · have herr : valid17 tape = false ∨ n < 0 ∨ 40 < n := by
        cases hv : valid17 tape
        · exact .inl rfl
        · by_cases h0 : n < 0
          · exact .inr (.inl h0)
          · by_cases h40 : 40 < n
            · exact .inr (.inr h40)
            · exact absurd ⟨hv, by omega, by omega⟩ hok
      have HE := hide (dist_err A ca tape n w' H1.out HM.out herr)
      clear hf hok herr
      go_wp2_with fail
      refine HE.out.mono ?_
      rintro en w2 ⟨rfl, hb2⟩
      have HB2 := hide (HB1.out.trans (hb2.mono HB1.out.size))
      clear hb2 HE
      go_wp2
      go_ret
      exact ⟨rfl, HB2.out⟩
end Go.Proofs.YtlkgoljpjeieiaaGreatDoor
