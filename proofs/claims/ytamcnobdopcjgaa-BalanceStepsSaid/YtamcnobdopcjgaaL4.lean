/-
  The walk of BalanceSteps, and its plain laws.
-/
import Derived.Test.YtamcnobdopcjgaaHead
import Derived.Test.YtamcnobdopcjgaaPlain
namespace Go.Proofs.Ytamcnobdopcjgaa
open Go.RowKit
set_option linter.unusedVariables false

theorem chgE_at {xs ys : List Int} {k : Nat} {s : Int} (hv : vldB xs ys = true) (hk : k < ys.length) (h0 : 0 ≤ s) (h1 : s ≤ 1000000) : chgE xs ys (k : Int) s = if 1000000 < nth ys k + s then 9 else 0 := by
  have e1 : (k : Int) < ys.length := by omega
  have e2 : outB 0 1000000 s = false := by simp [outB]; omega
  simp [chgE, hv, e1, e2]
theorem chgL_at {xs ys : List Int} {k : Nat} {s : Int} (h : chgE xs ys (k : Int) s = 0) : chgL xs ys (k : Int) s = ys.set k (nth ys k + s) := by simp [chgL, h]
theorem chg_eq {xs ys zs : List Int} {p q s t : Int} (h : chgE xs ys p s = chgE xs zs q t) (hl : chgE xs ys p s = 0 → ys.set p.toNat (nth ys p.toNat + s) = zs.set q.toNat (nth zs q.toNat + t)) : chgL xs ys p s = chgL xs zs q t := by
  unfold chgL
  rw [← h]
  split
  · rename_i h0; exact hl h0
  · rfl

/-- The order of two charges makes no difference. -/
theorem steps_comm {xs ys : List Int} {p q a b : Int} (h1 : chgE xs ys p a = 0) (h2 : chgE xs ys q b = 0) :
    chgE xs (chgL xs ys p a) q b = chgE xs (chgL xs ys q b) p a ∧ chgL xs (chgL xs ys p a) q b = chgL xs (chgL xs ys q b) p a := by
  obtain ⟨hv, hp0, hp1, ha0, ha1, hpa⟩ := chgE_ok h1
  obtain ⟨_, hq0, hq1, hb0, hb1, hqb⟩ := chgE_ok h2
  obtain ⟨k, rfl⟩ := Int.eq_ofNat_of_zero_le hp0
  obtain ⟨j, rfl⟩ := Int.eq_ofNat_of_zero_le hq0
  have hk : k < ys.length := by omega
  have hj : j < ys.length := by omega
  have hu := vld_used hv hk
  have hu' := vld_used hv hj
  simp only [Int.toNat_natCast] at hpa hqb
  have e1 : chgL xs ys (k : Int) a = ys.set k (nth ys k + a) := chgL_at h1
  have e2 : chgL xs ys (j : Int) b = ys.set j (nth ys j + b) := chgL_at h2
  have v1 : vldB xs (ys.set k (nth ys k + a)) = true := vld_set hv (by omega) hpa
  have v2 : vldB xs (ys.set j (nth ys j + b)) = true := vld_set hv (by omega) hqb
  have hE : chgE xs (chgL xs ys k a) j b = chgE xs (chgL xs ys j b) k a := by
    rw [e1, e2, chgE_at v1 (by simpa using hj) hb0 hb1, chgE_at v2 (by simpa using hk) ha0 ha1, nth_set hk, nth_set hj]
    by_cases hkj : k = j
    · subst hkj
      simp only [if_true]
      rw [show nth ys k + a + b = nth ys k + b + a by omega]
    · rw [if_neg hkj, if_neg (show ¬ j = k from fun e => hkj e.symm), if_neg (show ¬ 1000000 < nth ys j + b by omega), if_neg (show ¬ 1000000 < nth ys k + a by omega)]
  refine ⟨hE, chg_eq hE fun h0 => ?_⟩
  rw [e1, e2]
  simp only [Int.toNat_natCast]
  rw [nth_set hk, nth_set hj]
  by_cases hkj : k = j
  · subst hkj
    simp only [if_true, List.set_set]
    rw [show nth ys k + a + b = nth ys k + b + a by omega]
  · rw [if_neg hkj, if_neg (show ¬ j = k from fun e => hkj e.symm), List.set_comm _ _ hkj]
/-- Two charges to one partner are one with the sum of the slots. -/
theorem steps_sum {xs ys : List Int} {p a b : Int} (h1 : chgE xs ys p a = 0) (hb : 0 ≤ b) (hab : a + b ≤ 1000000) :
    chgE xs (chgL xs ys p a) p b = chgE xs ys p (a + b) ∧ chgL xs (chgL xs ys p a) p b = chgL xs ys p (a + b) := by
  obtain ⟨hv, hp0, hp1, ha0, ha1, hpa⟩ := chgE_ok h1
  obtain ⟨k, rfl⟩ := Int.eq_ofNat_of_zero_le hp0
  have hk : k < ys.length := by omega
  have hu := vld_used hv hk
  simp only [Int.toNat_natCast] at hpa
  have e1 : chgL xs ys (k : Int) a = ys.set k (nth ys k + a) := chgL_at h1
  have v1 : vldB xs (ys.set k (nth ys k + a)) = true := vld_set hv (by omega) hpa
  have hE : chgE xs (chgL xs ys k a) k b = chgE xs ys k (a + b) := by
    rw [e1, chgE_at v1 (by simpa using hk) hb (by omega), chgE_at hv hk (by omega) hab, nth_set hk]
    simp only [if_true, Int.add_assoc]
  refine ⟨hE, chg_eq hE fun h0 => ?_⟩
  rw [e1]
  simp only [Int.toNat_natCast]
  rw [nth_set hk]
  simp only [if_true, List.set_set, Int.add_assoc]

theorem chgL_max (xs ys : List Int) (p s : Int) : (chgL xs ys p s).length ≤ maxLen := Nat.le_trans (chgL_len xs ys p s) (by decide)

set_option maxRecDepth 100000 in
set_option maxHeartbeats 4000000 in
theorem law4_walk (A : Option Addr) (n c : Nat) (xs : List Int) (A' : Option Addr) (n' c' : Nat) (ys : List Int) (p q a b : Int) (w : World)
    (h : RI w w.heap.size A n xs) (hn : n ≤ maxLen) (_ : ∀ z ∈ xs, -9223372036854775808 ≤ z ∧ z ≤ 9223372036854775807) (h' : RI w w.heap.size A' n' ys) (hn' : n' ≤ maxLen) (_ : ∀ z ∈ ys, -9223372036854775808 ≤ z ∧ z ≤ 9223372036854775807)
    (_ : (Lit.int .i64 p).wf = true) (_ : (Lit.int .i64 q).wf = true) (_ : (Lit.int .i64 a).wf = true) (_ : (Lit.int .i64 b).wf = true) :
    Calls Try.prog 6 #[.slice A n c, .slice A' n' c', .int .i64 p, .int .i64 q, .int .i64 a, .int .i64 b] w fun e w' => e = .returned (.bool true) ∧ Below w.heap.size w w' := by
  have HN := hide hn
  have HN' := hide hn'
  cases hf : (decide (n ≤ 20) && decide (n' ≤ 20))
  · have HF := hide hf
    clear hf
    go_enter Try.func6, Try.ntmps6
    go_wp2_with fail
    refine (head_any _).mono ?_
    rintro e w1 ⟨rfl, hb1⟩
    go_wp2_with fail
    refine (few_any _ _ _ _ _ _ _ HN.out HN'.out).mono ?_
    rintro e w2 ⟨rfl, rfl⟩
    rw [HF.out]
    go_wp2
    go_ret
    exact ⟨rfl, hb1⟩
  have HF := hide hf
  clear hf
  by_cases ha0 : a < 0
  · skip
    go_enter Try.func6, Try.ntmps6
    go_wp2_with fail
    refine (head_any _).mono ?_
    rintro e w1 ⟨rfl, hb1⟩
    go_wp2_with fail
    refine (few_any _ _ _ _ _ _ _ HN.out HN'.out).mono ?_
    rintro e w2 ⟨rfl, rfl⟩
    rw [HF.out]
    go_wp2
    go_ret
    exact ⟨rfl, hb1⟩
  by_cases ha1 : 1000000 < a
  · skip
    go_enter Try.func6, Try.ntmps6
    go_wp2_with fail
    refine (head_any _).mono ?_
    rintro e w1 ⟨rfl, hb1⟩
    go_wp2_with fail
    refine (few_any _ _ _ _ _ _ _ HN.out HN'.out).mono ?_
    rintro e w2 ⟨rfl, rfl⟩
    rw [HF.out]
    go_wp2
    go_ret
    exact ⟨rfl, hb1⟩
  by_cases hb0 : b < 0
  · skip
    go_enter Try.func6, Try.ntmps6
    go_wp2_with fail
    refine (head_any _).mono ?_
    rintro e w1 ⟨rfl, hb1⟩
    go_wp2_with fail
    refine (few_any _ _ _ _ _ _ _ HN.out HN'.out).mono ?_
    rintro e w2 ⟨rfl, rfl⟩
    rw [HF.out]
    go_wp2
    go_ret
    exact ⟨rfl, hb1⟩
  by_cases hb1' : 1000000 < b
  · skip
    go_enter Try.func6, Try.ntmps6
    go_wp2_with fail
    refine (head_any _).mono ?_
    rintro e w1 ⟨rfl, hb1⟩
    go_wp2_with fail
    refine (few_any _ _ _ _ _ _ _ HN.out HN'.out).mono ?_
    rintro e w2 ⟨rfl, rfl⟩
    rw [HF.out]
    go_wp2
    go_ret
    exact ⟨rfl, hb1⟩
  have a0 : 0 ≤ a := by omega
  have a1 : a ≤ 1000000 := by omega
  have b0 : 0 ≤ b := by omega
  have b1 : b ≤ 1000000 := by omega
  by_cases he : chgE xs ys p a = 0
  case neg =>
    have hne : (chgE xs ys p a != 0) = true := by simp [he]
    clear he
    go_enter Try.func6, Try.ntmps6
    go_wp2_with fail
    refine (head_any _).mono ?_
    rintro e w1 ⟨rfl, hb1⟩
    go_wp2_with fail
    refine (few_any _ _ _ _ _ _ _ HN.out HN'.out).mono ?_
    rintro e w2 ⟨rfl, rfl⟩
    rw [HF.out]
    have r1 := h.next hb1
    have r1' := h'.next hb1
    go_wp2_with fail
    refine (charge_any _ _ _ _ _ _ xs ys _ _ _ r1 r1' HN.out HN'.out).mono ?_
    rintro e w2 ⟨A2, c2, rfl, z2, hb2⟩
    have r2 := r1.next hb2
    have r2' := r1'.next hb2
    have B2 := hide (hb1.trans (hb2.mono hb1.size))
    clear r1 r1' hb1 hb2
    go_wp2
    go_ret
    exact ⟨rfl, B2.out⟩
  have HL2 := hide (chgL_max xs ys p a)
  have HL3 := hide (chgL_max xs (chgL xs ys p a) q b)
  have HL4 := hide (chgL_max xs ys q b)
  have HL5 := hide (chgL_max xs (chgL xs ys q b) p a)
  have HL7 := hide (chgL_max xs ys p (a + b))
  have HE := hide he
  by_cases hg : chgE xs ys q b = 0
  · have HP := hide (steps_comm he hg)
    have HG := hide hg
    by_cases hpq : p = q
    · subst hpq
      by_cases hab : 1000000 < a + b
      · clear he hg
        go_enter Try.func6, Try.ntmps6
        go_wp2_with fail
        refine (head_any _).mono ?_
        rintro e w1 ⟨rfl, hb1⟩
        go_wp2_with fail
        refine (few_any _ _ _ _ _ _ _ HN.out HN'.out).mono ?_
        rintro e w2 ⟨rfl, rfl⟩
        rw [HF.out]
        have r1 := h.next hb1
        have r1' := h'.next hb1
        go_wp2_with fail
        refine (charge_any _ _ _ _ _ _ xs ys _ _ _ r1 r1' HN.out HN'.out).mono ?_
        rintro e w2 ⟨A2, c2, rfl, z2, hb2⟩
        have r2 := r1.next hb2
        have r2' := r1'.next hb2
        have B2 := hide (hb1.trans (hb2.mono hb1.size))
        clear r1 r1' hb1 hb2
        rw [HE.out]
        have hL2 := HL2.out
        go_wp2_with fail
        refine (charge_any _ _ _ _ _ _ xs (chgL xs ys p a) _ _ _ r2 z2 HN.out hL2).mono ?_
        rintro e w3 ⟨A3, c3, rfl, z3, hb3⟩
        have r3 := r2.next hb3
        have r3' := r2'.next hb3
        have B3 := hide (B2.out.trans (hb3.mono B2.out.size))
        clear r2 r2' B2 hb3
        go_wp2_with fail
        refine (charge_any _ _ _ _ _ _ xs ys _ _ _ r3 r3' HN.out HN'.out).mono ?_
        rintro e w4 ⟨A4, c4, rfl, z4, hb4⟩
        have r4 := r3.next hb4
        have r4' := r3'.next hb4
        have z4b := z3.next hb4
        have B4 := hide (B3.out.trans (hb4.mono B3.out.size))
        clear r3 r3' B3 hb4 z3
        rw [HG.out]
        go_wp2_with fail
        refine (charge_any _ _ _ _ _ _ xs (chgL xs ys p b) _ _ _ r4 z4 HN.out HL4.out).mono ?_
        rintro e w5 ⟨A5, c5, rfl, z5, hb5⟩
        have r5 := r4.next hb5
        have r5' := r4'.next hb5
        have z5b := z4b.next hb5
        have B5 := hide (B4.out.trans (hb5.mono B4.out.size))
        clear r4 r4' B4 hb5 z4b z4
        have hsame : (chgE xs (chgL xs ys p a) p b != chgE xs (chgL xs ys p b) p a) = false := by rw [HP.out.1]; simp
        have HS := hide hsame
        go_wp2_with fail
        refine (ints_any _ _ _ _ _ _ (chgL xs (chgL xs ys p a) p b) (chgL xs (chgL xs ys p b) p a) _ z5b z5 HL3.out HL5.out).mono ?_
        rintro e w6 ⟨rfl, m, rfl⟩
        rw [decide_eq_true HP.out.2]
        clear hsame
        have r6 := r5.drewNs m
        have r6' := r5'.drewNs m
        have z6b := z5b.drewNs m
        have B6 := hide (below_drewN B5.out m)
        clear r5 r5' z5b B5 z5
        go_wp2
        go_ret
        exact ⟨rfl, B6.out⟩
      · have hab' : a + b ≤ 1000000 := by omega
        have HQ := hide (steps_sum he b0 hab')
        clear he hg
        go_enter Try.func6, Try.ntmps6
        go_wp2_with fail
        refine (head_any _).mono ?_
        rintro e w1 ⟨rfl, hb1⟩
        go_wp2_with fail
        refine (few_any _ _ _ _ _ _ _ HN.out HN'.out).mono ?_
        rintro e w2 ⟨rfl, rfl⟩
        rw [HF.out]
        have r1 := h.next hb1
        have r1' := h'.next hb1
        go_wp2_with fail
        refine (charge_any _ _ _ _ _ _ xs ys _ _ _ r1 r1' HN.out HN'.out).mono ?_
        rintro e w2 ⟨A2, c2, rfl, z2, hb2⟩
        have r2 := r1.next hb2
        have r2' := r1'.next hb2
        have B2 := hide (hb1.trans (hb2.mono hb1.size))
        clear r1 r1' hb1 hb2
        rw [HE.out]
        have hL2 := HL2.out
        go_wp2_with fail
        refine (charge_any _ _ _ _ _ _ xs (chgL xs ys p a) _ _ _ r2 z2 HN.out hL2).mono ?_
        rintro e w3 ⟨A3, c3, rfl, z3, hb3⟩
        have r3 := r2.next hb3
        have r3' := r2'.next hb3
        have B3 := hide (B2.out.trans (hb3.mono B2.out.size))
        clear r2 r2' B2 hb3
        go_wp2_with fail
        refine (charge_any _ _ _ _ _ _ xs ys _ _ _ r3 r3' HN.out HN'.out).mono ?_
        rintro e w4 ⟨A4, c4, rfl, z4, hb4⟩
        have r4 := r3.next hb4
        have r4' := r3'.next hb4
        have z4b := z3.next hb4
        have B4 := hide (B3.out.trans (hb4.mono B3.out.size))
        clear r3 r3' B3 hb4 z3
        rw [HG.out]
        go_wp2_with fail
        refine (charge_any _ _ _ _ _ _ xs (chgL xs ys p b) _ _ _ r4 z4 HN.out HL4.out).mono ?_
        rintro e w5 ⟨A5, c5, rfl, z5, hb5⟩
        have r5 := r4.next hb5
        have r5' := r4'.next hb5
        have z5b := z4b.next hb5
        have B5 := hide (B4.out.trans (hb5.mono B4.out.size))
        clear r4 r4' B4 hb5 z4b z4
        have hsame : (chgE xs (chgL xs ys p a) p b != chgE xs (chgL xs ys p b) p a) = false := by rw [HP.out.1]; simp
        have HS := hide hsame
        go_wp2_with fail
        refine (ints_any _ _ _ _ _ _ (chgL xs (chgL xs ys p a) p b) (chgL xs (chgL xs ys p b) p a) _ z5b z5 HL3.out HL5.out).mono ?_
        rintro e w6 ⟨rfl, m, rfl⟩
        rw [decide_eq_true HP.out.2]
        clear hsame
        have r6 := r5.drewNs m
        have r6' := r5'.drewNs m
        have z6b := z5b.drewNs m
        have B6 := hide (below_drewN B5.out m)
        clear r5 r5' z5b B5 z5
        go_wp2_with fail
        refine (charge_any _ _ _ _ _ _ xs ys _ _ _ r6 r6' HN.out HN'.out).mono ?_
        rintro e w7 ⟨A7, c7, rfl, z7, hb7⟩
        have z7b := z6b.next hb7
        have B7 := hide (B6.out.trans (hb7.mono B6.out.size))
        have hsame : (chgE xs (chgL xs ys p a) p b == chgE xs ys p (a + b)) = true := by rw [HQ.out.1]; simp
        go_wp2_with fail
        refine (ints_any _ _ _ _ _ _ (chgL xs (chgL xs ys p a) p b) (chgL xs ys p (a + b)) _ z7b z7 HL3.out HL7.out).mono ?_
        rintro e w8 ⟨rfl, m', rfl⟩
        rw [decide_eq_true HQ.out.2]
        go_wp2
        go_ret
        exact ⟨rfl, below_drewN B7.out _⟩
    · have hne : (p != q) = true := by simp [hpq]
      clear he hg hpq
      go_enter Try.func6, Try.ntmps6
      go_wp2_with fail
      refine (head_any _).mono ?_
      rintro e w1 ⟨rfl, hb1⟩
      go_wp2_with fail
      refine (few_any _ _ _ _ _ _ _ HN.out HN'.out).mono ?_
      rintro e w2 ⟨rfl, rfl⟩
      rw [HF.out]
      have r1 := h.next hb1
      have r1' := h'.next hb1
      go_wp2_with fail
      refine (charge_any _ _ _ _ _ _ xs ys _ _ _ r1 r1' HN.out HN'.out).mono ?_
      rintro e w2 ⟨A2, c2, rfl, z2, hb2⟩
      have r2 := r1.next hb2
      have r2' := r1'.next hb2
      have B2 := hide (hb1.trans (hb2.mono hb1.size))
      clear r1 r1' hb1 hb2
      rw [HE.out]
      have hL2 := HL2.out
      go_wp2_with fail
      refine (charge_any _ _ _ _ _ _ xs (chgL xs ys p a) _ _ _ r2 z2 HN.out hL2).mono ?_
      rintro e w3 ⟨A3, c3, rfl, z3, hb3⟩
      have r3 := r2.next hb3
      have r3' := r2'.next hb3
      have B3 := hide (B2.out.trans (hb3.mono B2.out.size))
      clear r2 r2' B2 hb3
      go_wp2_with fail
      refine (charge_any _ _ _ _ _ _ xs ys _ _ _ r3 r3' HN.out HN'.out).mono ?_
      rintro e w4 ⟨A4, c4, rfl, z4, hb4⟩
      have r4 := r3.next hb4
      have r4' := r3'.next hb4
      have z4b := z3.next hb4
      have B4 := hide (B3.out.trans (hb4.mono B3.out.size))
      clear r3 r3' B3 hb4 z3
      rw [HG.out]
      go_wp2_with fail
      refine (charge_any _ _ _ _ _ _ xs (chgL xs ys q b) _ _ _ r4 z4 HN.out HL4.out).mono ?_
      rintro e w5 ⟨A5, c5, rfl, z5, hb5⟩
      have r5 := r4.next hb5
      have r5' := r4'.next hb5
      have z5b := z4b.next hb5
      have B5 := hide (B4.out.trans (hb5.mono B4.out.size))
      clear r4 r4' B4 hb5 z4b z4
      have hsame : (chgE xs (chgL xs ys p a) q b != chgE xs (chgL xs ys q b) p a) = false := by rw [HP.out.1]; simp
      have HS := hide hsame
      go_wp2_with fail
      refine (ints_any _ _ _ _ _ _ (chgL xs (chgL xs ys p a) q b) (chgL xs (chgL xs ys q b) p a) _ z5b z5 HL3.out HL5.out).mono ?_
      rintro e w6 ⟨rfl, m, rfl⟩
      rw [decide_eq_true HP.out.2]
      clear hsame
      have r6 := r5.drewNs m
      have r6' := r5'.drewNs m
      have z6b := z5b.drewNs m
      have B6 := hide (below_drewN B5.out m)
      clear r5 r5' z5b B5 z5
      go_wp2
      go_ret
      exact ⟨rfl, B6.out⟩
  · have HG : Hid ((chgE xs ys q b == 0) = false) := by show _ = _; simp [hg]
    by_cases hpq : p = q
    · subst hpq
      by_cases hab : 1000000 < a + b
      · clear he hg
        go_enter Try.func6, Try.ntmps6
        go_wp2_with fail
        refine (head_any _).mono ?_
        rintro e w1 ⟨rfl, hb1⟩
        go_wp2_with fail
        refine (few_any _ _ _ _ _ _ _ HN.out HN'.out).mono ?_
        rintro e w2 ⟨rfl, rfl⟩
        rw [HF.out]
        have r1 := h.next hb1
        have r1' := h'.next hb1
        go_wp2_with fail
        refine (charge_any _ _ _ _ _ _ xs ys _ _ _ r1 r1' HN.out HN'.out).mono ?_
        rintro e w2 ⟨A2, c2, rfl, z2, hb2⟩
        have r2 := r1.next hb2
        have r2' := r1'.next hb2
        have B2 := hide (hb1.trans (hb2.mono hb1.size))
        clear r1 r1' hb1 hb2
        rw [HE.out]
        have hL2 := HL2.out
        go_wp2_with fail
        refine (charge_any _ _ _ _ _ _ xs (chgL xs ys p a) _ _ _ r2 z2 HN.out hL2).mono ?_
        rintro e w3 ⟨A3, c3, rfl, z3, hb3⟩
        have r3 := r2.next hb3
        have r3' := r2'.next hb3
        have B3 := hide (B2.out.trans (hb3.mono B2.out.size))
        clear r2 r2' B2 hb3
        go_wp2_with fail
        refine (charge_any _ _ _ _ _ _ xs ys _ _ _ r3 r3' HN.out HN'.out).mono ?_
        rintro e w4 ⟨A4, c4, rfl, z4, hb4⟩
        have r4 := r3.next hb4
        have r4' := r3'.next hb4
        have z4b := z3.next hb4
        have B4 := hide (B3.out.trans (hb4.mono B3.out.size))
        clear r3 r3' B3 hb4 z3 z4
        have hg := HG.out
        go_wp2
        go_ret
        exact ⟨rfl, B4.out⟩
      · have hab' : a + b ≤ 1000000 := by omega
        have HQ := hide (steps_sum he b0 hab')
        clear he hg
        go_enter Try.func6, Try.ntmps6
        go_wp2_with fail
        refine (head_any _).mono ?_
        rintro e w1 ⟨rfl, hb1⟩
        go_wp2_with fail
        refine (few_any _ _ _ _ _ _ _ HN.out HN'.out).mono ?_
        rintro e w2 ⟨rfl, rfl⟩
        rw [HF.out]
        have r1 := h.next hb1
        have r1' := h'.next hb1
        go_wp2_with fail
        refine (charge_any _ _ _ _ _ _ xs ys _ _ _ r1 r1' HN.out HN'.out).mono ?_
        rintro e w2 ⟨A2, c2, rfl, z2, hb2⟩
        have r2 := r1.next hb2
        have r2' := r1'.next hb2
        have B2 := hide (hb1.trans (hb2.mono hb1.size))
        clear r1 r1' hb1 hb2
        rw [HE.out]
        have hL2 := HL2.out
        go_wp2_with fail
        refine (charge_any _ _ _ _ _ _ xs (chgL xs ys p a) _ _ _ r2 z2 HN.out hL2).mono ?_
        rintro e w3 ⟨A3, c3, rfl, z3, hb3⟩
        have r3 := r2.next hb3
        have r3' := r2'.next hb3
        have B3 := hide (B2.out.trans (hb3.mono B2.out.size))
        clear r2 r2' B2 hb3
        go_wp2_with fail
        refine (charge_any _ _ _ _ _ _ xs ys _ _ _ r3 r3' HN.out HN'.out).mono ?_
        rintro e w4 ⟨A4, c4, rfl, z4, hb4⟩
        have r4 := r3.next hb4
        have r4' := r3'.next hb4
        have z4b := z3.next hb4
        have B4 := hide (B3.out.trans (hb4.mono B3.out.size))
        clear r3 r3' B3 hb4 z3 z4
        have hg := HG.out
        go_wp2_with fail
        refine (charge_any _ _ _ _ _ _ xs ys _ _ _ r4 r4' HN.out HN'.out).mono ?_
        rintro e w7 ⟨A7, c7, rfl, z7, hb7⟩
        have z7b := z4b.next hb7
        have B7 := hide (B4.out.trans (hb7.mono B4.out.size))
        have hsame : (chgE xs (chgL xs ys p a) p b == chgE xs ys p (a + b)) = true := by rw [HQ.out.1]; simp
        go_wp2_with fail
        refine (ints_any _ _ _ _ _ _ (chgL xs (chgL xs ys p a) p b) (chgL xs ys p (a + b)) _ z7b z7 HL3.out HL7.out).mono ?_
        rintro e w8 ⟨rfl, m', rfl⟩
        rw [decide_eq_true HQ.out.2]
        go_wp2
        go_ret
        exact ⟨rfl, below_drewN B7.out _⟩
    · have hne : (p != q) = true := by simp [hpq]
      clear he hg hpq
      go_enter Try.func6, Try.ntmps6
      go_wp2_with fail
      refine (head_any _).mono ?_
      rintro e w1 ⟨rfl, hb1⟩
      go_wp2_with fail
      refine (few_any _ _ _ _ _ _ _ HN.out HN'.out).mono ?_
      rintro e w2 ⟨rfl, rfl⟩
      rw [HF.out]
      have r1 := h.next hb1
      have r1' := h'.next hb1
      go_wp2_with fail
      refine (charge_any _ _ _ _ _ _ xs ys _ _ _ r1 r1' HN.out HN'.out).mono ?_
      rintro e w2 ⟨A2, c2, rfl, z2, hb2⟩
      have r2 := r1.next hb2
      have r2' := r1'.next hb2
      have B2 := hide (hb1.trans (hb2.mono hb1.size))
      clear r1 r1' hb1 hb2
      rw [HE.out]
      have hL2 := HL2.out
      go_wp2_with fail
      refine (charge_any _ _ _ _ _ _ xs (chgL xs ys p a) _ _ _ r2 z2 HN.out hL2).mono ?_
      rintro e w3 ⟨A3, c3, rfl, z3, hb3⟩
      have r3 := r2.next hb3
      have r3' := r2'.next hb3
      have B3 := hide (B2.out.trans (hb3.mono B2.out.size))
      clear r2 r2' B2 hb3
      go_wp2_with fail
      refine (charge_any _ _ _ _ _ _ xs ys _ _ _ r3 r3' HN.out HN'.out).mono ?_
      rintro e w4 ⟨A4, c4, rfl, z4, hb4⟩
      have r4 := r3.next hb4
      have r4' := r3'.next hb4
      have z4b := z3.next hb4
      have B4 := hide (B3.out.trans (hb4.mono B3.out.size))
      clear r3 r3' B3 hb4 z3 z4
      have hg := HG.out
      go_wp2
      go_ret
      exact ⟨rfl, B4.out⟩
end Go.Proofs.Ytamcnobdopcjgaa
