/-
  NoiseCases: the walk.
-/
import Derived.Test.YtlkgoljpjeieiaaGreatDoorCasP
set_option linter.unusedVariables false
set_option linter.unusedSimpArgs false
namespace Go.Proofs.YtlkgoljpjeieiaaGreatDoor
open Go.RowKit Go.Deep Go.Maps

set_option maxHeartbeats 2000000 in
set_option maxRecDepth 100000 in
theorem cases_any (A : Option Addr) (ca : Nat) (tape : List Int) (r : Nat) (v : Int) (w : World) (h : RI w w.heap.size A tape.length tape) (hm : tape.length ≤ maxLen) (hr : r ≤ 255) (hp : Pow w) :
    Calls Tryz.prog 7 #[.slice A tape.length ca, .int .u8 r, .int .i64 v] w fun en w' => en = .returned (.bool true) ∧ Below w.heap.size w w' := by
  have H := hide h
  have HP := hide hp
  have HM := hide hm
  unfold maxLen at hm
  obtain ⟨n, hn⟩ : ∃ n, n = r % 5 := ⟨_, rfl⟩
  have hn4 : n ≤ 4 := by omega
  have en1 : (r : Int).tmod 5 = (n : Int) := by rw [Int.tmod_eq_emod_of_nonneg (by omega)]; omega
  have en2 : (r : Int) % 5 = (n : Int) := by omega
  clear h hp hn
  go_enter Tryz.func7, Tryz.ntmps7
  go_wp2_with fail
  refine (head17_any w HP.out).mono ?_
  rintro en w1 ⟨rfl, hb1⟩
  have HB1 := hide hb1
  have HP1 := hide (HP.out.below hb1 HP.out.lt)
  have H1 := hide (H.out.next hb1)
  clear hb1 H HP
  go_wp2_with fail
  refine (nv17_any A ca tape w1 H1.out HM.out).mono ?_
  rintro en w' ⟨rfl, hw⟩
  subst hw
  cases hv : valid17 tape
  · clear hv
    go_wp2
    go_ret
    exact ⟨rfl, HB1.out⟩
  · obtain ⟨t1, t9, ht⟩ := valid17_ok hv
    have hD := dist_ok A ca tape n w' H1.out hv (by omega) HP1.out
    unfold DistPost at hD
    have hNmax : (dist17 tape n).length ≤ 601 := by
      unfold dist17 supp17
      rw [List.length_map]
      refine Nat.le_trans (List.length_filter_le _ _) ?_
      rw [List.length_map, List.length_range]
      omega
    have WALL : Hid (want17 tape n v (tape.length ^ n) = cntL (dist17 tape n) v) := hide (want17_all ht n v)
    have BD : Hid (∀ p ∈ dist17 tape n, p.2 < 1000000000) := hide (fun p hp => by
      have : p.2 = (sums17 tape n).count p.1 := (dist_ord ht n).2.2 p hp
      have h2 := count_bd t9 (show n ≤ 6 by omega) p.1
      omega)
    have POWB : Hid (∀ j, j ≤ 6 → tape.length ^ j ≤ 531441) := hide (fun j hj => Nat.le_trans (Nat.pow_le_pow_left t9 j) (Nat.le_trans (Nat.pow_le_pow_right (by omega) hj) (by decide)))
    have HT := hide ht
    obtain ⟨l, hl⟩ : ∃ l, l = dist17 tape n := ⟨_, rfl⟩
    rw [← hl] at hD WALL BD hNmax
    have HD := hide hD
    clear hD hl ht hv
    go_wp2_with fail
    refine HD.out.mono ?_
    rintro en w2 ⟨A2, c2, rfl, hrd, hb2⟩
    have HR := hide hrd
    have HB2 := hide (HB1.out.trans (hb2.mono HB1.out.size))
    have H2 := hide (H1.out.next hb2)
    clear hrd hb2 HD H1 HP1 HB1 en1 en2
    go_wp2
    go_loopw [11, 12] (fun t11 t12 wq => ∃ i : Nat, i ≤ n ∧ t12 = .int .i64 i ∧ t11 = .int .i64 ((tape.length ^ i : Nat) : Int) ∧ wq = w2) (fun _ t12 _ => n - (intOf t12).toNat)
    case atStart => exact ⟨0, Nat.zero_le _, rfl, rfl, rfl⟩
    case round =>
      obtain ⟨i, hi', rfl, rfl, hwq⟩ := hrel
      subst hwq
      by_cases him : i < n
      · have hpw := POWB.out (i + 1) (by omega)
        have hpe : tape.length ^ (i + 1) = tape.length ^ i * tape.length := Nat.pow_succ ..
        rw [hpe] at hpw
        obtain ⟨p, hpq⟩ : ∃ p, p = tape.length ^ i := ⟨_, rfl⟩
        have HPQ : Hid (((tape.length ^ (i + 1) : Nat) : Int) = ((p * tape.length : Nat) : Int)) := hide (by rw [hpe, hpq])
        rw [← hpq] at hpw ⊢
        obtain ⟨pl, hpl⟩ : ∃ pl, pl = p * tape.length := ⟨_, rfl⟩
        have hmul : (p : Int) * (tape.length : Int) = (pl : Int) := by rw [hpl, Int.natCast_mul]
        rw [← hpl] at hpw HPQ
        clear hpe hpq hpl
        go_wp2
        go_roundw
        case rel => exact ⟨i + 1, by omega, by go_num, by rw [HPQ.out], trivial⟩
        case measure => simp [intOf] <;> omega
      · obtain rfl : i = n := by omega
        have htot := POWB.out i (by omega)
        obtain ⟨T, hT⟩ : ∃ T, T = tape.length ^ i := ⟨_, rfl⟩
        rw [← hT] at htot WALL ⊢
        clear hT
        go_wp2
        go_loopw [13, 14] (fun t13 t14 wq => ∃ c : Nat, c ≤ T ∧ t14 = .int .i64 c ∧ t13 = .int .i64 ((want17 tape i v c : Nat) : Int) ∧ wq = wr) (fun _ t14 _ => T - (intOf t14).toNat)
        case atStart => exact ⟨0, Nat.zero_le _, rfl, rfl, rfl⟩
        case round =>
          obtain ⟨c, hc, rfl, rfl, hwq⟩ := hrel
          subst hwq
          have hwl := want17_le tape i v c
          by_cases hcT : c < T
          · have HWS := hide (want17_step tape i v c)
            have hdb := dig17_bd HT.out t1 i c
            obtain ⟨dd, hdd⟩ : ∃ dd, dd = dig17 tape i c := ⟨_, rfl⟩
            have HDD := hide hdd
            rw [← hdd] at HWS hdb
            clear hdd
            generalize want17 tape i v c = wn at HWS hwl ⊢
            go_wp2
            go_loopw [15, 16, 17] (fun t15 t16 t17 wq => ∃ (j rest : Nat) (s : Int), j ≤ i ∧ t17 = .int .i64 j ∧ t16 = .int .i64 rest ∧ t15 = .int .i64 s ∧ rest ≤ c ∧ -(50 * (j : Int)) ≤ s ∧ s ≤ 50 * j ∧ s + dig17 tape (i - j) rest = dd ∧ wq = wr) (fun _ _ t17 _ => i - (intOf t17).toNat)
            case atStart => exact ⟨0, c, 0, Nat.zero_le _, rfl, rfl, rfl, Nat.le_refl _, by omega, by omega, by rw [HDD.out, Nat.sub_zero, Int.zero_add], rfl⟩
            case round =>
              obtain ⟨j, rest, s, hj, rfl, rfl, rfl, hrc, s1, s2, hsum, hwq⟩ := hrel
              subst hwq
              by_cases hji : j < i
              · have hlt : rest % tape.length < tape.length := Nat.mod_lt _ t1
                obtain ⟨b, off, rfl, _, g0⟩ := H2.out.at_ hlt
                have htb := nth_in HT.out hlt
                have HN : Hid (s + nth tape (rest % tape.length) + dig17 tape (i - (j + 1)) (rest / tape.length) = dd) := hide (by
                  have e : i - j = (i - (j + 1)) + 1 := by omega
                  rw [e] at hsum
                  have e2 : dig17 tape (i - (j + 1) + 1) rest = nth tape (rest % tape.length) + dig17 tape (i - (j + 1)) (rest / tape.length) := rfl
                  rw [e2] at hsum
                  omega)
                have q1 : (rest : Int).tmod (tape.length : Int) = ((rest % tape.length : Nat) : Int) := by rw [Int.tmod_eq_emod_of_nonneg (by omega)]; rfl
                have q2 : (rest : Int).tdiv (tape.length : Int) = ((rest / tape.length : Nat) : Int) := by rw [Int.tdiv_eq_ediv_of_nonneg (by omega)]; rfl
                have hle2 : rest / tape.length ≤ rest := Nat.div_le_self _ _
                have hml : rest % tape.length ≤ rest := Nat.mod_le _ _
                generalize nth tape (rest % tape.length) = t at g0 htb HN
                generalize rest % tape.length = rm at g0 hlt q1 hml
                generalize rest / tape.length = rd at q2 hle2 HN
                clear hsum
                go_wp2
                go_roundw
                case rel => exact ⟨j + 1, rd, s + t, by omega, by go_num, by go_num, by go_num, by omega, by omega, by omega, HN.out, trivial⟩
                case measure => simp [intOf] <;> omega
              · obtain rfl : j = i := by omega
                have hsd : s = dd := by
                  rw [Nat.sub_self] at hsum
                  have : dig17 tape 0 rest = 0 := rfl
                  omega
                subst hsd
                clear hsum
                by_cases he : s = v
                · rw [if_pos he] at HWS
                  have q1 : (s == v) = true := beq_iff_eq.2 he
                  go_wp2
                  go_roundw
                  case rel => exact ⟨c + 1, by omega, by go_num, by rw [HWS.out, Int.natCast_add]; rfl, trivial⟩
                  case measure => simp [intOf] <;> omega
                · rw [if_neg he] at HWS
                  have q1 : (s == v) = false := beq_eq_false_iff_ne.2 he
                  go_wp2
                  go_roundw
                  case rel => exact ⟨c + 1, by omega, by go_num, by rw [HWS.out, Nat.add_zero], trivial⟩
                  case measure => simp [intOf] <;> omega
          · obtain rfl : c = T := by omega
            rw [WALL.out]
            have HC := hide (count17_any A2 c2 l.length l v wr HR.out (by omega) BD.out)
            have q1 : ((cntL l v : Int) == (cntL l v : Int)) = true := beq_self_eq_true _
            generalize cntL l v = cc at HC q1 ⊢
            go_wp2_with fail
            refine HC.out.mono ?_
            rintro en w5 ⟨rfl, hb5⟩
            have HB5 := hide (HB2.out.trans (hb5.mono HB2.out.size))
            clear hb5
            go_wp2
            go_ret
            exact ⟨rfl, HB5.out⟩
end Go.Proofs.YtlkgoljpjeieiaaGreatDoor
