/-
  Chapter 28: the reference's Valid and Share.
-/
import Derived.Test.YteknmllcpemnoaaShareW
namespace Go.Proofs.Yteknmllcpemnoaa
open Go.RowKit Go.Deep

/-- The reference's Valid. -/
def vldW (ws : List Int) : Bool := decide (1 ≤ ws.length) && decide (ws.length ≤ 200) && !badW ws
theorem badW_at {ws : List Int} {k : Nat} (h : k < ws.length) (hx : outB 0 1000000000 (nth ws k) = true) : badW ws = true := List.any_eq_true.2 ⟨_, nth_mem h, hx⟩

set_option maxHeartbeats 400000 in
theorem rvalid_any (A : Option Addr) (n c : Nat) (xs : List Int) (w : World) (h : RI w w.heap.size A n xs) (hn : n ≤ maxLen) :
    Calls Try.prog 19 #[.slice A n c] w fun e w' => e = .returned (.bool (vldW xs)) ∧ w = w' := by
  unfold maxLen at hn
  have HL : Hid (xs.length = n) := h.len
  by_cases h1 : n < 1
  · go_enter Try.func19, Try.ntmps19
    go_wp2
    go_ret
    exact ⟨ret_bool (by have := HL.out; simp [vldW]; omega), rfl⟩
  by_cases h2 : 200 < n
  · go_enter Try.func19, Try.ntmps19
    go_wp2
    go_ret
    exact ⟨ret_bool (by have := HL.out; simp [vldW]; omega), rfl⟩
  go_enter Try.func19, Try.ntmps19
  go_wp2
  go_loop [3] (fun i => ∃ k : Nat, k ≤ n ∧ i = .int .i64 k ∧ badW (xs.take k) = false) (fun i => n - (intOf i).toNat)
  case atStart => exact ⟨0, Nat.zero_le _, rfl, rfl⟩
  case round =>
    obtain ⟨k, hk, rfl, hr⟩ := hrel
    have HR := hide hr
    clear hr
    by_cases hlt : k < n
    · obtain ⟨b, off, rfl, hb, hc⟩ := h.at_ hlt
      have HM : Hid (badW (xs.take (k + 1)) = outB 0 1000000000 (nth xs k)) := by
        have h1 := HR.out
        show _ = _
        simp only [badW] at h1 ⊢
        rw [nth_take (by rw [HL.out]; exact hlt), List.any_append, h1]; simp
      by_cases g1 : nth xs k < 0
      · go_wp2
        go_ret
        have hb : badW xs = true := badW_at (k := k) (by rw [HL.out]; exact hlt) (by simp [outB, g1])
        exact ⟨ret_bool (by simp [vldW, hb]), rfl⟩
      · by_cases g2 : 1000000000 < nth xs k
        · go_wp2
          go_ret
          have hb : badW xs = true := badW_at (k := k) (by rw [HL.out]; exact hlt) (by simp [outB, g2])
          exact ⟨ret_bool (by simp [vldW, hb]), rfl⟩
        · go_wp2
          go_round
          case rel => exact ⟨k + 1, by omega, by go_num, by rw [HM.out]; simp [outB]; omega⟩
          case measure => simp [intOf]; omega
    · go_wp2
      go_ret
      have hb := HR.out
      rw [List.take_of_length_le (by rw [HL.out]; omega)] at hb
      exact ⟨ret_bool (by have := HL.out; simp [vldW, hb]; omega), rfl⟩

theorem vldW_shr {ws : List Int} {total : Int} : shrE total ws ≠ 1 ↔ vldW ws = true ∧ 0 ≤ total ∧ total ≤ 720 := by
  unfold shrE vldW
  by_cases h1 : ws.length < 1 <;> by_cases h2 : 200 < ws.length <;> cases badW ws <;> by_cases h3 : total < 0 <;> by_cases h4 : 720 < total <;> simp [h1, h2, h3, h4] <;> first | omega | (split <;> omega)

set_option maxRecDepth 100000 in
set_option maxHeartbeats 4000000 in
theorem rshare_any (A : Option Addr) (n c : Nat) (ws : List Int) (total : Int) (w : World) (h : RI w w.heap.size A n ws) (hn : n ≤ maxLen) :
    Calls Try.prog 11 #[.int .i64 total, .slice A n c] w (RetLE w (shrL total ws) (shrE total ws)) := by
  have HN := hide hn
  have HL := hide h.len
  by_cases hE1 : shrE total ws = 1
  · have HZ : Hid (shrL total ws = []) := by show _ = _; simp [shrL, hE1]
    have hv : ¬ (vldW ws = true ∧ 0 ≤ total ∧ total ≤ 720) := fun hh => (vldW_shr.2 hh) hE1
    have HE := hide hE1
    clear hE1
    cases hw : vldW ws
    case false =>
      have HW := hide hw
      clear hw hv
      go_enter Try.func11, Try.ntmps11
      go_wp2_with fail
      refine (rvalid_any _ _ _ _ _ h HN.out).mono ?_
      rintro e w1 ⟨rfl, rfl⟩
      rw [HW.out]
      go_wp2
      go_ret2
      rw [HZ.out, HE.out]
      exact RetLE.none_ (Below.refl _ _)
    case true =>
      have ho : total < 0 ∨ 720 < total := by
        rcases Int.lt_or_le total 0 with h0 | h0
        · exact .inl h0
        · rcases Int.lt_or_le 720 total with h7 | h7
          · exact .inr h7
          · exact absurd ⟨hw, h0, h7⟩ hv
      have HW := hide hw
      clear hw hv
      by_cases h3 : total < 0
      · go_enter Try.func11, Try.ntmps11
        go_wp2_with fail
        refine (rvalid_any _ _ _ _ _ h HN.out).mono ?_
        rintro e w1 ⟨rfl, rfl⟩
        rw [HW.out]
        go_wp2
        go_ret2
        rw [HZ.out, HE.out]
        exact RetLE.none_ (Below.refl _ _)
      · have h4 : 720 < total := by omega
        clear ho
        go_enter Try.func11, Try.ntmps11
        go_wp2_with fail
        refine (rvalid_any _ _ _ _ _ h HN.out).mono ?_
        rintro e w1 ⟨rfl, rfl⟩
        rw [HW.out]
        go_wp2
        go_ret2
        rw [HZ.out, HE.out]
        exact RetLE.none_ (Below.refl _ _)
  obtain ⟨hw, h3, h4⟩ := vldW_shr.1 hE1
  have hbad : badW ws = false := by
    simp only [vldW, Bool.and_eq_true, Bool.not_eq_true'] at hw; exact hw.2
  have hlen : 1 ≤ n ∧ n ≤ 200 := by
    simp only [vldW, Bool.and_eq_true, decide_eq_true_eq] at hw
    have := HL.out
    omega
  obtain ⟨hl1, hl2⟩ := hlen
  have hpos : 0 < n := by omega
  have HB := hide hbad
  have HW := hide hw
  -- 10 exactly if all are 0 and there is a seat
  have HX : Hid ((shrE total ws = 10 ↔ (ws.all (fun x => decide (x = 0)) = true ∧ 0 < total)) ∧ (shrE total ws = 0 ∨ shrE total ws = 10)) := by
    have a1 : ¬ ws.length < 1 := by rw [HL.out]; omega
    have a2 : ¬ 200 < ws.length := by rw [HL.out]; omega
    show _ ∧ _
    unfold shrE
    rw [if_neg (by simp [a1, a2, hbad]; omega)]
    by_cases hc : (ws.all (fun x => decide (x = 0)) && decide (0 < total)) = true
    · rw [if_pos hc]
      simp only [Bool.and_eq_true, decide_eq_true_eq] at hc
      exact ⟨⟨fun _ => hc, fun _ => rfl⟩, .inr rfl⟩
    · rw [if_neg hc]
      simp only [Bool.and_eq_true, decide_eq_true_eq] at hc
      exact ⟨⟨fun h => by omega, fun h => absurd h hc⟩, .inl rfl⟩
  clear hE1 hw hbad
  obtain ⟨T, rfl⟩ := Int.eq_ofNat_of_zero_le h3
  have hmk := make_run (P := Try.prog) 22 3 _ 8 Try.underlying22 int_info rfl n (by omega) (by omega) w
  have HR0 : Hid ((w.alloc (.cells (Array.replicate n (Value.int .i64 0)) 3)).rowIs w.heap.size 3 n (fun j => .int .i64 (nth (run ws 0) j))) := by
    refine ⟨_, heap_alloc_new w _, by simp, fun j hj => ?_⟩
    show _ = some (Value.int .i64 (nth (run ws 0) j))
    rw [run, nth_rep]
    simp [hj]
  have HB0 := hide ((Below.refl w.heap.size w).alloc (Nat.le_refl _) (.cells (Array.replicate n (Value.int .i64 0)) 3))
  have HA := hide (h.alloc (Nat.le_refl _) (.cells (Array.replicate n (Value.int .i64 0)) 3))
  go_enter Try.func11, Try.ntmps11
  go_wp2_with fail
  refine (rvalid_any _ _ _ _ _ h HN.out).mono ?_
  rintro e w1 ⟨rfl, rfl⟩
  rw [HW.out]
  go_wp2
  clear hmk
  go_loopw [7] (fun i wr => ∃ t : Nat, t ≤ T ∧ i = .int .i64 t ∧ (0 < t → ws.all (fun x => decide (x = 0)) = false) ∧ wr.rowIs w.heap.size 3 n (fun j => .int .i64 (nth (run ws t) j)) ∧ Below w.heap.size w wr) (fun i _ => T - (intOf i).toNat)
  case atStart => exact ⟨0, Nat.zero_le _, rfl, fun h => absurd h (by omega), HR0.out, HB0.out⟩
  case round =>
    obtain ⟨t, ht, rfl, hz, hr, hb⟩ := hrel
    have HZ := hide hz
    clear hz
    by_cases htl : t < T
    · have r := h.below hb
      obtain ⟨b, off, rfl, hbl, _⟩ := r.at_ hpos
      have HR := hide hr
      have HBD := hide (run_bd ws (by rw [HL.out]; exact hpos) t)
      obtain ⟨wo, rfl⟩ : ∃ x : World, x = wr := ⟨_, rfl⟩
      have HBW := hide hb
      clear hb hr HB0 HR0 HA
      go_wp2
      go_loopw [8, 9] (fun k i wr => ∃ j : Nat, 1 ≤ j ∧ j ≤ n ∧ i = .int .i64 j ∧ k = .int .i64 (bestTo ws (run ws t) j : Nat) ∧ ∃ m, wr = wo.drewN m) (fun _ i _ => n - (intOf i).toNat)
      case atStart => exact ⟨1, by omega, hpos, rfl, by rw [bestTo_one]; rfl, 0, rfl⟩
      case round =>
        obtain ⟨j, hj1, hj, rfl, rfl, m, rfl⟩ := hrel
        by_cases hjn : j < n
        · have hbj : bestTo ws (run ws t) j < n := bestTo_le ws _ j n hj hpos
          obtain ⟨_, _, e1, _, c1⟩ := r.at_ hjn
          obtain ⟨_, _, e2, _, c2⟩ := r.at_ hbj
          injection e1 with e1
          injection e1 with a1 a2
          subst a1 a2
          injection e2 with e2
          injection e2 with a1 a2
          subst a1 a2
          have c3 := HR.out.cell (i := j) hjn
          have c4 := HR.out.cell (i := bestTo ws (run ws t) j) hbj
          have q1 := badW_nth HB.out j
          have q2 := badW_nth HB.out (bestTo ws (run ws t) j)
          have q3 := HBD.out j
          have q4 := HBD.out (bestTo ws (run ws t) j)
          have q5 := prod_bd q1.1 q1.2 q4.1 (by omega)
          have q6 := prod_bd q2.1 q2.2 q3.1 (by omega)
          have k1 : (0 : Int) ≤ (j : Int) := by omega
          have k2 : (j : Int) < (n : Int) := by omega
          have k3 : (0 : Int) ≤ (bestTo ws (run ws t) j : Nat) := by omega
          have k4 : ((bestTo ws (run ws t) j : Nat) : Int) < (n : Int) := by omega
          cases hB : befB ws (run ws t) j (bestTo ws (run ws t) j)
          · have HBf := hide hB
            have hB' : ¬ (nth ws (bestTo ws (run ws t) j) * (nth (run ws t) j + 1) < nth ws j * (nth (run ws t) (bestTo ws (run ws t) j) + 1)) := by simpa [befB] using hB
            clear hB
            go_wp2
            go_quiet (fail)
            go_wp2
            go_roundw
            case rel => exact ⟨j + 1, by omega, by omega, by go_num, by simp only [bestTo, HBf.out]; rfl, _, rfl⟩
            case measure => simp [intOf]; omega
          · have HBt := hide hB
            have hB' : nth ws (bestTo ws (run ws t) j) * (nth (run ws t) j + 1) < nth ws j * (nth (run ws t) (bestTo ws (run ws t) j) + 1) := by simpa [befB] using hB
            clear hB
            go_wp2
            go_quiet (fail)
            go_wp2
            go_roundw
            case rel => exact ⟨j + 1, by omega, by omega, by go_num, by simp only [bestTo, HBt.out]; rfl, _, rfl⟩
            case measure => simp [intOf]; omega
        · obtain rfl : j = n := by omega
          have hbj := best_lt ws (run ws t) (by rw [HL.out]; exact hpos)
          rw [HL.out] at hbj
          have HBE : Hid (best ws (run ws t) = bestTo ws (run ws t) j) := by show _ = _; rw [best, HL.out]
          rw [← HBE.out]
          obtain ⟨_, _, e2, _, c2⟩ := r.at_ hbj
          injection e2 with e2
          injection e2 with a1 a2
          subst a1 a2
          have HMZ := hide (best_zero (w := ws) (s := run ws t) HB.out (fun k => (HBD.out k).1))
          by_cases hzero : nth ws (best ws (run ws t)) = 0
          · have hE : Hid (shrE (T : Int) ws = 10) := HX.out.1.2 ⟨HMZ.out.1 hzero, by omega⟩
            have HZL : Hid (shrL (T : Int) ws = []) := by show _ = _; simp [shrL, hE.out]
            rw [hzero] at c2
            clear hzero
            go_wp2
            go_ret2
            rw [HZL.out, hE.out]
            exact RetLE.none_ (below_drewN HBW.out _)
          · have hne : (nth ws (best ws (run ws t)) == 0) = false := by simp [hzero]
            have HNZ : Hid (ws.all (fun x => decide (x = 0)) = false) := by
              show _ = _
              cases hall : ws.all (fun x => decide (x = 0))
              · rfl
              · exact absurd (HMZ.out.2 hall) hzero
            have bd := HBD.out (best ws (run ws t))
            have c4 := HR.out.cell (i := best ws (run ws t)) hbj
            have f4 := HR.out.frozen (best ws (run ws t))
            clear hzero
            have HR2 : Hid (((wo.drewN m).setCell ⟨w.heap.size, best ws (run ws t), none⟩ (.int .i64 (nth (run ws t) (best ws (run ws t)) + 1))).rowIs w.heap.size 3 j (fun i => .int .i64 (nth (run ws (t + 1)) i))) := by
              refine (World.rowIs.set (w := wo.drewN m) HR.out (best ws (run ws t)) _).congr fun i hi => ?_
              rw [run, nth_bump (by rw [run_len, HL.out]; exact hbj)]
              by_cases e : i = best ws (run ws t)
              · subst e; rw [if_pos rfl, if_pos rfl]
              · rw [if_neg e, if_neg (fun h => e h.symm)]
            have HB2 := hide ((below_drewN HBW.out m).setCell (p := ⟨w.heap.size, best ws (run ws t), none⟩) (Nat.le_refl _) (.int .i64 (nth (run ws t) (best ws (run ws t)) + 1)))
            go_wp2
            go_roundw
            case rel => exact ⟨t + 1, by omega, by go_num, fun _ => HNZ.out, HR2.out, HB2.out⟩
            case measure => simp [intOf]; omega
    · obtain rfl : t = T := by omega
      go_wp2
      go_ret2
      have hE : shrE (t : Int) ws = 0 := by
        rcases HX.out.2 with h0 | h10
        · exact h0
        · have := HX.out.1.1 h10
          rw [HZ.out (by omega)] at this
          exact absurd this.1 (by simp)
      have hLl : shrL (t : Int) ws = run ws t := by simp [shrL, hE]
      rw [hLl, hE]
      have e1 : (run ws t).length = n := by rw [run_len, HL.out]
      exact ⟨some ⟨w.heap.size, 0, none⟩, n, by rw [e1]; rfl, by rw [e1]; exact rowIs_reads hr e1, hb⟩
end Go.Proofs.Yteknmllcpemnoaa
