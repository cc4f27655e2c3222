/-
  NoiseTails: the walk.
-/
import Derived.Test.YtlkgoljpjeieiaaGreatDoorRatD
import Derived.Test.YtlkgoljpjeieiaaGreatDoorConP
set_option linter.unusedVariables false
set_option linter.unusedSimpArgs false
namespace Go.Proofs.YtlkgoljpjeieiaaGreatDoor
open Go.RowKit Go.Deep Go.Maps

theorem someT_mono (l : List (Int × Nat)) (b : Int) : someT l (b + 1) ≤ someT l b := by
  induction l with
  | nil => simp [someT]
  | cons p l ih =>
    have hs : ∀ c : Int, someT (p :: l) c = (if c ≤ p.1 then p.2 else 0) + someT l c := fun c => by
      unfold someT
      by_cases h : c ≤ p.1 <;> simp [h]
    rw [hs, hs]
    by_cases h1 : b + 1 ≤ p.1
    · rw [if_pos h1, if_pos (by omega)]
      omega
    · rw [if_neg h1]
      omega
theorem low17_lt {s2 s1 a : Nat} (h : s2 < s1) (ha : 0 < a) : (low17 s2 a).1 * (low17 s1 a).2 < (low17 s1 a).1 * (low17 s2 a).2 := by
  have c1 := low17_cross (s := s1) ha
  have c2 := low17_cross (s := s2) ha
  have p1 := low17_den (s := s1) ha
  have p2 := low17_den (s := s2) ha
  generalize low17 s1 a = q1 at *
  generalize low17 s2 a = q2 at *
  apply Nat.lt_of_not_le
  intro hle
  have h1 : q1.1 * q2.2 * a ≤ q2.1 * q1.2 * a := Nat.mul_le_mul_right a hle
  have e1 : q1.1 * q2.2 * a = s1 * (q1.2 * q2.2) := by rw [Nat.mul_right_comm, c1, Nat.mul_assoc]
  have e2 : q2.1 * q1.2 * a = s2 * (q1.2 * q2.2) := by rw [Nat.mul_right_comm, c2, Nat.mul_assoc, Nat.mul_comm q2.2]
  rw [e1, e2] at h1
  have := Nat.le_of_mul_le_mul_right h1 (Nat.mul_pos p1 p2)
  omega
/-- Comparing the two tails. -/
theorem tails_cmp {s2 s1 a : Nat} (h : s2 ≤ s1) (hsa : s1 ≤ a) (ha : a < 1000000000) (h0 : a ≠ 0) : ∃ z : Int, z ≤ 0 ∧ ∀ W : World, Pow W →
    Calls Tryz.prog 21 #[RV false (low17 s2 a), RV false (low17 s1 a)] W fun en w' => en = .returned (.int .i64 z) ∧ Below W.heap.size W w' := by
  have g1 := low17_good hsa ha h0
  have g2 := low17_good (Nat.le_trans h hsa) ha h0
  by_cases e : s2 = s1
  · subst e
    exact ⟨0, by omega, fun W hp => rcmp_eq _ _ W g1 hp⟩
  · exact ⟨-1, by omega, fun W hp => rcmp_lt _ _ _ _ W g2 g1 (low17_lt (by omega) (by omega)) hp⟩
set_option maxHeartbeats 4000000 in
set_option maxRecDepth 100000 in
theorem tails_any (A : Option Addr) (ca : Nat) (tape : List Int) (n b : Int) (w : World) (h : RI w w.heap.size A tape.length tape) (hm : tape.length ≤ maxLen) (hp : Pow w) :
    Calls Tryz.prog 8 #[.slice A tape.length ca, .int .i64 n, .int .i64 b] w fun en w' => en = .returned (.bool true) ∧ Below w.heap.size w w' := by
  have H := hide h
  have HP := hide hp
  have HM := hide hm
  unfold maxLen at hm
  clear h hp
  go_enter Tryz.func8, Tryz.ntmps8
  go_wp2_with fail
  refine (head17_any w HP.out).mono ?_
  rintro en w1 ⟨rfl, hb1⟩
  have HB1 := hide hb1
  have HP1 := hide (HP.out.below hb1 HP.out.lt)
  have H1 := hide (H.out.next hb1)
  clear hb1 H HP
  go_wp2_with fail
  refine (few17_any A ca tape.length n w1 HM.out).mono ?_
  rintro en w' ⟨rfl, hw⟩
  subst hw
  cases hf : few17 tape.length n
  · clear hf
    go_wp2
    go_ret
    exact ⟨rfl, HB1.out⟩
  by_cases hz1 : b < -10000
  · clear hf
    go_wp2
    go_ret
    exact ⟨rfl, HB1.out⟩
  by_cases hz2 : 10000 < b
  · clear hf
    go_wp2
    go_ret
    exact ⟨rfl, HB1.out⟩
  by_cases hok : valid17 tape = true ∧ 0 ≤ n ∧ n ≤ 40
  · obtain ⟨hv, h0, h40⟩ := hok
    have hn6 : n ≤ 6 := by
      unfold few17 at hf
      simp only [Bool.and_eq_true, Bool.or_eq_true, decide_eq_true_eq] at hf
      omega
    obtain ⟨m, rfl⟩ : ∃ m : Nat, n = m := ⟨n.toNat, by omega⟩
    obtain ⟨t1, t9, ht⟩ := valid17_ok hv
    have hm6 : m ≤ 6 := by omega
    have D1 := hide (fun (W : World) (h : RI W W.heap.size A tape.length tape) (hp : Pow W) => dist_ok A ca tape m W h hv hm6 hp)
    have D2 := hide (fun (W : World) (h : RI W W.heap.size A tape.length tape) (hp : Pow W) => tail_ok A ca tape m b W h hv hm6 hp)
    have D3 := hide (fun (W : World) (h : RI W W.heap.size A tape.length tape) (hp : Pow W) => tail_ok A ca tape m (b + 1) W h hv hm6 hp)
    unfold DistPost at D1
    have LA := dist_len_le tape (n := m) hm6
    have CA := hide (dist_cnt_bd ht t9 (n := m) hm6)
    obtain ⟨ha1, ha2⟩ := allT_dist ht t1 t9 hm6
    obtain ⟨l, hl⟩ : ∃ l, l = dist17 tape m := ⟨_, rfl⟩
    rw [← hl] at D1 D2 D3 LA CA ha1 ha2
    have hs1 := someT_le l b
    have hs2 := someT_mono l b
    have ALLB : Hid (∀ j, allT (l.take j) ≤ 531441 ∧ someT (l.take j) b ≤ 531441) := hide (fun j => by
      have h1 := allT_le l j
      have h2 := someT_le (l.take j) b
      omega)
    obtain ⟨z, hz, hcmp⟩ := tails_cmp hs2 hs1 (by omega) ha2
    have HCMP := hide hcmp
    have HOF := hide (fun (W : World) (hp : Pow W) => rof_any (someT l b) (allT l) W (by omega) (by omega) ha2 hp)
    obtain ⟨x1, y1, e1⟩ : ∃ x y, low17 (someT l b) (allT l) = (x, y) := ⟨_, _, rfl⟩
    obtain ⟨x2, y2, e2⟩ : ∃ x y, low17 (someT l (b + 1)) (allT l) = (x, y) := ⟨_, _, rfl⟩
    rw [e1] at D2 HCMP HOF
    rw [e2] at D3 HCMP
    unfold RV at D2 D3 HCMP HOF
    clear e1 e2 hcmp hf h0 h40 hv ht t1 t9 hl hs1 hs2 ha1 ha2 hn6 hm6
    go_wp2_with fail
    refine (D1.out _ H1.out HP1.out).mono ?_
    rintro en w2 ⟨Al, cl, rfl, hrd, hb2⟩
    have RL := hide hrd
    have HB2 := hide (HB1.out.trans (hb2.mono HB1.out.size))
    have HP2 := hide (HP1.out.below hb2 HP1.out.lt)
    have H2 := hide (H1.out.next hb2)
    clear hrd hb2 D1 H1 HP1 HB1
    go_wp2_with fail
    refine (D2.out _ H2.out HP2.out).mono ?_
    rintro en w3 ⟨rfl, hb3⟩
    have hal : Below w3.heap.size w3 (w3.alloc (.cells #[.bool false, .string (NS x1), .string (NS y1)] 31)) := (Below.refl _ _).alloc (Nat.le_refl _) _
    have hb3' := hb3.trans (hal.mono hb3.size)
    have K3 := hide (Blk.new w3 31 #[.bool false, .string (NS x1), .string (NS y1)])
    have HB3 := hide (HB2.out.trans (hb3'.mono HB2.out.size))
    have HP3 := hide (HP2.out.below hb3' HP2.out.lt)
    have H3 := hide (H2.out.next hb3')
    have RL3 := hide (RL.out.next hb3')
    clear hb3 hal hb3' D2 H2 HP2 HB2 RL
    go_upto_region 6 with (fail)
    generalize w3.alloc (.cells #[.bool false, .string (NS x1), .string (NS y1)] 31) = w4 at K3 HB3 HP3 H3 RL3 ⊢
    generalize w3.heap.size = g3 at K3 ⊢
    go_wp2_with fail
    refine (D3.out _ H3.out HP3.out).mono ?_
    rintro en w5 ⟨rfl, hb5⟩
    have hal : Below w5.heap.size w5 (w5.alloc (.cells #[.bool false, .string (NS x2), .string (NS y2)] 31)) := (Below.refl _ _).alloc (Nat.le_refl _) _
    have hb5' := hb5.trans (hal.mono hb5.size)
    have K5 := hide (Blk.new w5 31 #[.bool false, .string (NS x2), .string (NS y2)])
    have K3b := hide (K3.out.below hb5' K3.out.lt)
    have HB5 := hide (HB3.out.trans (hb5'.mono HB3.out.size))
    have HP5 := hide (HP3.out.below hb5' HP3.out.lt)
    have RL5 := hide (RL3.out.next hb5')
    clear hb5 hal hb5' D3 H3 HP3 HB3 RL3 K3
    go_upto_region 7 with (fail)
    generalize w5.alloc (.cells #[.bool false, .string (NS x2), .string (NS y2)] 31) = w6 at K5 K3b HB5 HP5 RL5 ⊢
    generalize w5.heap.size = g5 at K5 ⊢
    obtain ⟨N, hN⟩ : ∃ N, N = l.length := ⟨_, rfl⟩
    have HN := hide hN
    rw [← hN] at RL5 LA ⊢
    clear hN
    go_wp2
    go_loopw [14, 15, 16] (fun t14 t15 t16 wr => ∃ j : Nat, j ≤ N ∧ t16 = .int .i64 j ∧ t14 = .int .i64 ((someT (l.take j) b : Nat) : Int) ∧ t15 = .int .i64 ((allT (l.take j) : Nat) : Int) ∧ Below w6.heap.size w6 wr) (fun _ _ t16 _ => N - (intOf t16).toNat)
    case atStart => exact ⟨0, Nat.zero_le _, rfl, rfl, rfl, Below.refl _ _⟩
    case round =>
      obtain ⟨j, hj, rfl, rfl, rfl, hbr⟩ := hrel
      have HBR := hide hbr
      clear hbr
      obtain ⟨hq1, hq2⟩ := ALLB.out j
      by_cases hjN : j < N
      · obtain ⟨b2, o2, rfl, hb2, y0, y1⟩ := RL5.out.at_ hjN
        have y0 := (HBR.out.cell (p := ⟨b2, o2 + j * 2, none⟩) hb2).trans y0
        have y1 := (HBR.out.cell (p := ⟨b2, o2 + j * 2 + 1, none⟩) hb2).trans y1
        have htk := take_snocO (l := l) (j := j) (by rw [← HN.out]; exact hjN)
        obtain ⟨hq3, hq4⟩ := ALLB.out (j + 1)
        have hcb : (dAt l j).2 < 1000000000 := CA.out _ (List.mem_of_getElem? (dAt_get (by rw [← HN.out]; exact hjN)))
        have HA2 : Hid (allT (l.take (j + 1)) = allT (l.take j) + (dAt l j).2 ∧ someT (l.take (j + 1)) b = someT (l.take j) b + if b ≤ (dAt l j).1 then (dAt l j).2 else 0) := hide (by rw [htk]; exact ⟨allT_snoc _ _, someT_snoc _ _ _⟩)
        rw [HA2.out.1] at hq3
        rw [HA2.out.2] at hq4
        have HINT := hide (nint_any (dAt l j).2 wr hcb)
        have KEEP : Hid (∀ W, Below wr.heap.size wr W → W.cell? ⟨b2, o2 + j * 2, none⟩ = some (.int .i64 (dAt l j).1)) := hide (fun W hW => (hW.cell (p := ⟨b2, o2 + j * 2, none⟩) (Nat.lt_of_lt_of_le hb2 HBR.out.size)).trans y0)
        generalize (dAt l j).2 = c at y1 hq3 hq4 hcb HINT HA2
        generalize (dAt l j).1 = v at y0 hq4 HA2 KEEP
        generalize allT (l.take j) = al at hq1 hq3 HA2 ⊢
        generalize someT (l.take j) b = so at hq2 hq4 HA2 ⊢
        clear htk y0
        go_wp2_with fail
        refine HINT.out.mono ?_
        rintro en w7 ⟨rfl, hb7⟩
        have y0 := KEEP.out w7 hb7
        have HB7 := hide (HBR.out.trans (hb7.mono HBR.out.size))
        clear hb7 y1 HINT KEEP
        by_cases hle : b ≤ v
        · rw [if_pos hle] at hq4 HA2
          go_wp2
          go_roundw
          case rel => exact ⟨j + 1, by omega, by go_num, by rw [HA2.out.2, Int.natCast_add], by rw [HA2.out.1, Int.natCast_add], HB7.out⟩
          case measure => simp [intOf] <;> omega
        · rw [if_neg hle] at hq4 HA2
          have d1 : decide (b ≤ v) = false := decide_eq_false hle
          go_wp2
          go_roundw
          case rel => exact ⟨j + 1, by omega, by go_num, by rw [HA2.out.2, Nat.add_zero], by rw [HA2.out.1, Int.natCast_add], HB7.out⟩
          case measure => simp [intOf] <;> omega
      · obtain rfl : j = N := by omega
        have htl : l.take j = l := by rw [HN.out]; exact List.take_length
        rw [htl] at hq1 hq2 ⊢
        have HPR := hide (HP5.out.below HBR.out HP5.out.lt)
        have HOFW := hide (HOF.out wr HPR.out)
        have J3 := hide (K3b.out.below HBR.out K3b.out.lt)
        have J5 := hide (K5.out.below HBR.out K5.out.lt)
        have HBW := hide (HB5.out.trans (HBR.out.mono HB5.out.size))
        generalize allT l = al at hq1 HOFW ⊢
        generalize someT l b = so at hq2 HOFW ⊢
        clear K3b K5 HB5 HP5 RL5 HBR htl HOF ALLB
        go_wp2_with fail
        refine HOFW.out.mono ?_
        rintro en w7 ⟨rfl, hb7⟩
        have hal : Below w7.heap.size w7 (w7.alloc (.cells #[.bool false, .string (NS x1), .string (NS y1)] 31)) := (Below.refl _ _).alloc (Nat.le_refl _) _
        have hb7' := hb7.trans (hal.mono hb7.size)
        have K7 := hide (Blk.new w7 31 #[.bool false, .string (NS x1), .string (NS y1)])
        have L3 := hide (J3.out.below hb7' J3.out.lt)
        have L5 := hide (J5.out.below hb7' J5.out.lt)
        have HB7 := hide (HBW.out.trans (hb7'.mono HBW.out.size))
        have HP7 := hide (HPR.out.below hb7' HPR.out.lt)
        clear hb7 hal hb7' J3 J5 HBW HPR HOFW
        go_upto_region 18 with (fail)
        generalize w7.alloc (.cells #[.bool false, .string (NS x1), .string (NS y1)] 31) = w8 at K7 L3 L5 HB7 HP7 ⊢
        generalize w7.heap.size = g7 at K7 ⊢
        have a0 : w8.cell? ⟨g3, 0, none⟩ = some (.bool false) := L3.out.cell 0
        have a1 : w8.cell? ⟨g3, 1, none⟩ = some (.string (NS x1)) := L3.out.cell 1
        have a2 : w8.cell? ⟨g3, 2, none⟩ = some (.string (NS y1)) := L3.out.cell 2
        have b0 : w8.cell? ⟨g5, 0, none⟩ = some (.bool false) := L5.out.cell 0
        have b1 : w8.cell? ⟨g5, 1, none⟩ = some (.string (NS x2)) := L5.out.cell 1
        have b2 : w8.cell? ⟨g5, 2, none⟩ = some (.string (NS y2)) := L5.out.cell 2
        have c0 : w8.cell? ⟨g7, 0, none⟩ = some (.bool false) := K7.out.cell 0
        have c1 : w8.cell? ⟨g7, 1, none⟩ = some (.string (NS x1)) := K7.out.cell 1
        have c2 : w8.cell? ⟨g7, 2, none⟩ = some (.string (NS y1)) := K7.out.cell 2
        have hk1 : w8.heap[g3]? = some (.cells #[.bool false, .string (NS x1), .string (NS y1)] 31 (0, 0)) := L3.out
        have hk2 : w8.heap[g5]? = some (.cells #[.bool false, .string (NS x2), .string (NS y2)] 31 (0, 0)) := L5.out
        have hk3 : w8.heap[g7]? = some (.cells #[.bool false, .string (NS x1), .string (NS y1)] 31 (0, 0)) := K7.out
        have HC := hide (HCMP.out w8 HP7.out)
        have d1 : decide (z ≤ 0) = true := decide_eq_true hz
        clear L3 L5 K7 HCMP
        go_wp2_with fail
        refine HC.out.mono ?_
        rintro en w9 ⟨rfl, hb9⟩
        have HB9 := hide (HB7.out.trans (hb9.mono HB7.out.size))
        clear hb9
        go_wp2
        go_ret
        exact ⟨rfl, HB9.out⟩
  · have herr : valid17 tape = false ∨ n < 0 ∨ 40 < n := by
      cases hv : valid17 tape
      · exact .inl rfl
      · by_cases h0 : n < 0
        · exact .inr (.inl h0)
        · by_cases h40 : 40 < n
          · exact .inr (.inr h40)
          · exact absurd ⟨hv, by omega, by omega⟩ hok
    have D1 := hide (fun (W : World) (h : RI W W.heap.size A tape.length tape) => dist_err A ca tape n W h HM.out herr)
    have D2 := hide (fun (W : World) (h : RI W W.heap.size A tape.length tape) => tail_err A ca tape n b W h HM.out herr)
    have D3 := hide (fun (W : World) (h : RI W W.heap.size A tape.length tape) => tail_err A ca tape n (b + 1) W h HM.out herr)
    clear hf hok herr HP1
    go_wp2_with fail
    refine (D1.out _ H1.out).mono ?_
    rintro en w2 ⟨rfl, hb2⟩
    have HB2 := hide (HB1.out.trans (hb2.mono HB1.out.size))
    have H2 := hide (H1.out.next hb2)
    clear hb2 D1 H1 HB1
    go_wp2_with fail
    refine (D2.out _ H2.out).mono ?_
    rintro en w3 ⟨rfl, hb3⟩
    have hal : Below w3.heap.size w3 (w3.alloc (.cells #[.bool false, .string ⟨#[]⟩, .string ⟨#[]⟩] 31)) := (Below.refl _ _).alloc (Nat.le_refl _) _
    have hb3' := hb3.trans (hal.mono hb3.size)
    have K3 := hide (Blk.new w3 31 #[.bool false, .string ⟨#[]⟩, .string ⟨#[]⟩])
    have HB3 := hide (HB2.out.trans (hb3'.mono HB2.out.size))
    have H3 := hide (H2.out.next hb3')
    clear hb3 hal hb3' D2 H2 HB2
    go_upto_region 6 with (fail)
    generalize w3.alloc (.cells #[.bool false, .string ⟨#[]⟩, .string ⟨#[]⟩] 31) = w4 at K3 HB3 H3 ⊢
    generalize w3.heap.size = g3 at K3 ⊢
    go_wp2_with fail
    refine (D3.out _ H3.out).mono ?_
    rintro en w5 ⟨rfl, hb5⟩
    have hal : Below w5.heap.size w5 (w5.alloc (.cells #[.bool false, .string ⟨#[]⟩, .string ⟨#[]⟩] 31)) := (Below.refl _ _).alloc (Nat.le_refl _) _
    have hb5' := hb5.trans (hal.mono hb5.size)
    have K3b := hide (K3.out.below hb5' K3.out.lt)
    have HB5 := hide (HB3.out.trans (hb5'.mono HB3.out.size))
    clear hb5 hal hb5' D3 H3 HB3 K3
    go_upto_region 7 with (fail)
    generalize w5.alloc (.cells #[.bool false, .string ⟨#[]⟩, .string ⟨#[]⟩] 31) = w6 at K3b HB5 ⊢
    have a0 : w6.cell? ⟨g3, 0, none⟩ = some (.bool false) := K3b.out.cell 0
    have a1 : w6.cell? ⟨g3, 1, none⟩ = some (.string ⟨#[]⟩) := K3b.out.cell 1
    have a2 : w6.cell? ⟨g3, 2, none⟩ = some (.string ⟨#[]⟩) := K3b.out.cell 2
    have hk1 : w6.heap[g3]? = some (.cells #[.bool false, .string ⟨#[]⟩, .string ⟨#[]⟩] 31 (0, 0)) := K3b.out
    clear K3b
    go_wp2
    go_ret
    exact ⟨rfl, HB5.out⟩
end Go.Proofs.YtlkgoljpjeieiaaGreatDoor
