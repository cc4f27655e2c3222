/-
  The walk of ApportionGrows.
-/
import Derived.Test.YteknmllcpemnoaaLaws
namespace Go.Proofs.Yteknmllcpemnoaa
open Go.RowKit Go.Deep
set_option linter.unusedVariables false

theorem Good.set {w : List Int} (h : Good w) {k : Nat} {v : Int} (hk : k < w.length) (h0 : nth w k ≤ v) (h1 : v ≤ 1000000000) : Good (w.set k v) := by
  have hw := badW_nth h.bad k
  refine ⟨by simpa using h.pos, ?_, ?_⟩
  · have hb := h.bad
    unfold badW at hb ⊢
    rw [List.any_eq_false] at hb ⊢
    intro x hx
    rcases List.mem_or_eq_of_mem_set hx with hx | rfl
    · exact hb x hx
    · simp [outB]; omega
  · rw [nth_set' hk]
    split
    · rename_i e; subst e; have := h.one; omega
    · exact h.one

set_option maxRecDepth 100000 in
set_option maxHeartbeats 8000000 in
theorem law5_walk (raw : Int) (A : Option Addr) (n c : Nat) (us : List Int) (x y : Int) (w : World) (wr : (Lit.int .u16 raw).wf = true)
    (h : RK .u32 w w.heap.size A n us) (hn : n ≤ maxLen) (hu : ∀ z ∈ us, 0 ≤ z ∧ z ≤ 4294967295) (wx : (Lit.int .u8 x).wf = true) (wy : (Lit.int .u32 y).wf = true) :
    Calls Try.prog 7 #[.int .u16 raw, .slice A n c, .int .u8 x, .int .u32 y] w fun e w' => e = .returned (.bool true) ∧ Below w.heap.size w w' := by
  have HN := hide hn
  have HU := hide hu
  have HR := hide (wf_u16 wr)
  have HG := hide (valW_Good hu)
  have HVL := hide (valW_len us)
  obtain ⟨ws, HWS⟩ : ∃ ws, Hid (valW us = ws) := ⟨_, rfl⟩
  obtain ⟨T, HT⟩ : ∃ T : Nat, Hid (raw % 721 = T) := by
    have := HR.out
    exact ⟨(raw % 721).toNat, by show _ = _; omega⟩
  have hT0 : (0 : Int) ≤ (T : Int) := by omega
  have hT1 : (T : Int) ≤ 720 := by have := HT.out; omega
  have hT1' : T ≤ 720 := by omega
  have G : Hid (Good ws) := by have := HG.out; rw [HWS.out] at this; exact this
  have hwl : 1 ≤ ws.length ∧ ws.length ≤ 30 := by have := HVL.out; rwa [HWS.out] at this
  obtain ⟨N, HNL⟩ : ∃ N, Hid (ws.length = N) := ⟨_, rfl⟩
  have hN : 1 ≤ N ∧ N ≤ 30 := by have := HNL.out; omega
  have HRL : Hid ((run ws T).length = N) := by show _ = _; rw [run_len]; exact HNL.out
  obtain ⟨hN1, hN2⟩ := hN
  clear hu wr hn hwl HG HVL
  obtain ⟨x0, x1⟩ := wf_u8 wx
  obtain ⟨y0, y1⟩ := wf_u32 wy
  obtain ⟨K, HK⟩ : ∃ K : Nat, Hid (x % (N : Int) = K) := by
    have := Int.emod_nonneg x (show (N : Int) ≠ 0 by omega)
    exact ⟨(x % (N : Int)).toNat, by show _ = _; omega⟩
  have hKN : K < N := by
    have h1 := Int.emod_lt_of_pos x (show (0 : Int) < (N : Int) by omega)
    rw [HK.out] at h1
    omega
  obtain ⟨wk0, wk1⟩ := badW_nth G.out.bad K
  clear wx wy
  by_cases hv : nth ws K + y < 1000000000
  · skip
    have hV0 : nth ws K ≤ (nth ws K + y) := by omega
    have hV1 : (nth ws K + y) ≤ 1000000000 := by omega
    have HGV : Hid (Good (ws.set K (nth ws K + y))) := G.out.set (by rw [HNL.out]; exact hKN) hV0 hV1
    have HLV : Hid ((ws.set K (nth ws K + y)).length = N) := by show _ = _; rw [List.length_set]; exact HNL.out
    have HGR := hide (grows G.out HGV.out (by rw [List.length_set]) (m := K) (by rw [HNL.out]; exact hKN) (by rw [nth_set' (by rw [HNL.out]; exact hKN), if_pos rfl]; exact hV0)
      (fun k hk => by rw [nth_set' (by rw [HNL.out]; exact hKN), if_neg (fun e => hk e.symm)]) T)
    have HRV : Hid ((run (ws.set K (nth ws K + y)) T).length = N) := by show _ = _; rw [run_len]; exact HLV.out
    go_enter Try.func7, Try.ntmps7
    go_wp2_with fail
    refine (head_any _).mono ?_
    rintro e w1 ⟨rfl, hb1⟩
    have r1 := h.next hb1
    have B1 := hide hb1
    go_wp2_with fail
    refine (val_at _ _ _ us raw T ws HT.out HWS.out _ r1 HN.out HU.out HR.out).mono ?_
    rintro e w2 ⟨A2, c2, rfl, z2, hb2⟩
    rw [HNL.out] at z2
    rw [HNL.out]
    have B2 := hide (B1.out.trans (hb2.mono B1.out.size))
    clear r1 hb1 hb2 B1
    go_upto_region 4 with (fail)
    rw [HK.out]
    have HO := hide (Own.of_lit (base := w2.heap.size) (e := 3) (size := 1) w2 #[] 0 (Nat.le_refl _) (by simp [maxLen]) rfl)
    have HZ := hide (z2.alloc (Nat.le_refl _) (.cells #[] 3))
    obtain ⟨b, off, rfl, hbl, hc⟩ := z2.at_ hKN
    go_wp2_with ((
      at_builtin
      refine wpList_app rfl (.tmp 31) (.tmp 32) _ rfl w2.heap.size 3 _ 1 8 Try.underlying22 int_info rfl (by omega) (some ⟨w2.heap.size, 0, none⟩) 0 0 _ rfl HO.out w2.heap.size (some ⟨b, off, none⟩) N c2 (ints ws) rfl HZ.out (ints_oneCell _) (by unfold maxLen; omega) (by omega) (by simp) ?_
      intro A4 c4 w4 own4 hb4 hg4
      simp only [Nat.zero_add, List.nil_append] at own4
      obtain ⟨g, rfl, hbg, hgl, cg, fg⟩ := own4.at_ hKN
      rw [ints_get (by rw [HNL.out]; exact hKN)] at cg
      have BW := hide (only_new hb4 hg4)
      have zw := z2.below BW.out
      obtain ⟨_, _, e1, _, cw⟩ := zw.at_ hKN
      injection e1 with e1
      injection e1 with a1 a2
      subst a1 a2))
    have own5 := own4.set K (.int .i64 (nth ws K + y))
    rw [set_ints] at own5
    have x5 := own5.ri
    have z5 := (zw.setCell (p := ⟨g, K, none⟩) hbg (.int .i64 (nth ws K + y))).more (B' := (w4.setCell ⟨g, K, none⟩ (.int .i64 (nth ws K + y))).heap.size) (by simp [World.setCell]; exact BW.out.size)
    have B5 := hide ((B2.out.trans (BW.out.mono B2.out.size)).setCell (p := ⟨g, K, none⟩) (Nat.le_trans B2.out.size hbg) (.int .i64 (nth ws K + y)))
    clear own4 own5 zw hb4 hg4 HZ HO z2 hc cw cg fg B2 BW
    generalize w4.setCell ⟨g, K, none⟩ (.int .i64 (nth ws K + y)) = w5 at x5 z5 B5 ⊢
    refine (share_at _ _ _ ws T _ z5 G.out (by omega) hT1').mono ?_
    rintro e w6 ⟨A6, c6, rfl, z6, hb6⟩
    rw [HRL.out] at z6
    rw [HRL.out]
    have x6 := x5.next hb6
    have B6 := hide (B5.out.trans (hb6.mono B5.out.size))
    clear x5 z5 hb6 B5
    go_wp2_with fail
    refine (share_at _ _ _ (ws.set K (nth ws K + y)) T _ x6 HGV.out (by omega) hT1').mono ?_
    rintro e w7 ⟨A7, c7, rfl, z7, hb7⟩
    rw [HRV.out] at z7
    rw [HRV.out]
    have z6' := z6.next hb7
    have B7 := hide (B6.out.trans (hb7.mono B6.out.size))
    clear x6 z6 hb7 B6
    go_wp2
    go_loopw [18] (fun i wr => ∃ j : Nat, j ≤ N ∧ i = .int .i64 j ∧ ∃ m, wr = w7.drewN m) (fun i _ => N - (intOf i).toNat)
    case atStart => exact ⟨0, Nat.zero_le _, rfl, 0, rfl⟩
    case round =>
      obtain ⟨i, hi, rfl, m, rfl⟩ := hrel
      by_cases hlt : i < N
      · obtain ⟨b6, off6, rfl, hbl6, c6'⟩ := z6'.at_ hlt
        obtain ⟨b7, off7, rfl, hbl7, c7'⟩ := z7.at_ hlt
        have k1 : (0 : Int) ≤ (i : Int) := by omega
        have k2 : (i : Int) < (N : Int) := by omega
        by_cases hik : i = K
        · have e1 : ((i : Int) == (K : Int)) = true := by rw [beq_iff_eq]; omega
          have e2 : ((i : Int) != (K : Int)) = false := by simp [hik]
          have e3 : decide (nth (run (ws.set K (nth ws K + y)) T) i < nth (run ws T) i) = false := by
            have := HGR.out.1
            rw [hik]; simp; omega
          clear hik
          go_wp2
          go_quiet (fail)
          go_wp2
          go_roundw
          case rel => exact ⟨i + 1, by omega, by go_num, _, rfl⟩
          case measure => simp [intOf]; omega
        · have e1 : ((i : Int) == (K : Int)) = false := by rw [beq_eq_false_iff_ne]; omega
          have e2 : ((i : Int) != (K : Int)) = true := by rw [bne_iff_ne]; omega
          have e3 : decide (nth (run ws T) i < nth (run (ws.set K (nth ws K + y)) T) i) = false := by
            have := HGR.out.2 i (by rw [HNL.out]; exact hlt) hik
            simp; omega
          clear hik
          go_wp2
          go_quiet (fail)
          go_wp2
          go_roundw
          case rel => exact ⟨i + 1, by omega, by go_num, _, rfl⟩
          case measure => simp [intOf]; omega
      · go_wp2
        go_ret
        exact ⟨rfl, below_drewN B7.out _⟩
  · skip
    have hV0 : nth ws K ≤ (1000000000 : Int) := by omega
    have hV1 : (1000000000 : Int) ≤ 1000000000 := by omega
    have HGV : Hid (Good (ws.set K (1000000000 : Int))) := G.out.set (by rw [HNL.out]; exact hKN) hV0 hV1
    have HLV : Hid ((ws.set K (1000000000 : Int)).length = N) := by show _ = _; rw [List.length_set]; exact HNL.out
    have HGR := hide (grows G.out HGV.out (by rw [List.length_set]) (m := K) (by rw [HNL.out]; exact hKN) (by rw [nth_set' (by rw [HNL.out]; exact hKN), if_pos rfl]; exact hV0)
      (fun k hk => by rw [nth_set' (by rw [HNL.out]; exact hKN), if_neg (fun e => hk e.symm)]) T)
    have HRV : Hid ((run (ws.set K (1000000000 : Int)) T).length = N) := by show _ = _; rw [run_len]; exact HLV.out
    go_enter Try.func7, Try.ntmps7
    go_wp2_with fail
    refine (head_any _).mono ?_
    rintro e w1 ⟨rfl, hb1⟩
    have r1 := h.next hb1
    have B1 := hide hb1
    go_wp2_with fail
    refine (val_at _ _ _ us raw T ws HT.out HWS.out _ r1 HN.out HU.out HR.out).mono ?_
    rintro e w2 ⟨A2, c2, rfl, z2, hb2⟩
    rw [HNL.out] at z2
    rw [HNL.out]
    have B2 := hide (B1.out.trans (hb2.mono B1.out.size))
    clear r1 hb1 hb2 B1
    go_upto_region 4 with (fail)
    rw [HK.out]
    have HO := hide (Own.of_lit (base := w2.heap.size) (e := 3) (size := 1) w2 #[] 0 (Nat.le_refl _) (by simp [maxLen]) rfl)
    have HZ := hide (z2.alloc (Nat.le_refl _) (.cells #[] 3))
    obtain ⟨b, off, rfl, hbl, hc⟩ := z2.at_ hKN
    go_wp2_with ((
      at_builtin
      refine wpList_app rfl (.tmp 31) (.tmp 32) _ rfl w2.heap.size 3 _ 1 8 Try.underlying22 int_info rfl (by omega) (some ⟨w2.heap.size, 0, none⟩) 0 0 _ rfl HO.out w2.heap.size (some ⟨b, off, none⟩) N c2 (ints ws) rfl HZ.out (ints_oneCell _) (by unfold maxLen; omega) (by omega) (by simp) ?_
      intro A4 c4 w4 own4 hb4 hg4
      simp only [Nat.zero_add, List.nil_append] at own4
      obtain ⟨g, rfl, hbg, hgl, cg, fg⟩ := own4.at_ hKN
      rw [ints_get (by rw [HNL.out]; exact hKN)] at cg
      have BW := hide (only_new hb4 hg4)
      have zw := z2.below BW.out
      obtain ⟨_, _, e1, _, cw⟩ := zw.at_ hKN
      injection e1 with e1
      injection e1 with a1 a2
      subst a1 a2))
    have own5 := own4.set K (.int .i64 (1000000000 : Int))
    rw [set_ints] at own5
    have x5 := own5.ri
    have z5 := (zw.setCell (p := ⟨g, K, none⟩) hbg (.int .i64 (1000000000 : Int))).more (B' := (w4.setCell ⟨g, K, none⟩ (.int .i64 (1000000000 : Int))).heap.size) (by simp [World.setCell]; exact BW.out.size)
    have B5 := hide ((B2.out.trans (BW.out.mono B2.out.size)).setCell (p := ⟨g, K, none⟩) (Nat.le_trans B2.out.size hbg) (.int .i64 (1000000000 : Int)))
    clear own4 own5 zw hb4 hg4 HZ HO z2 hc cw cg fg B2 BW
    generalize w4.setCell ⟨g, K, none⟩ (.int .i64 (1000000000 : Int)) = w5 at x5 z5 B5 ⊢
    refine (share_at _ _ _ ws T _ z5 G.out (by omega) hT1').mono ?_
    rintro e w6 ⟨A6, c6, rfl, z6, hb6⟩
    rw [HRL.out] at z6
    rw [HRL.out]
    have x6 := x5.next hb6
    have B6 := hide (B5.out.trans (hb6.mono B5.out.size))
    clear x5 z5 hb6 B5
    go_wp2_with fail
    refine (share_at _ _ _ (ws.set K (1000000000 : Int)) T _ x6 HGV.out (by omega) hT1').mono ?_
    rintro e w7 ⟨A7, c7, rfl, z7, hb7⟩
    rw [HRV.out] at z7
    rw [HRV.out]
    have z6' := z6.next hb7
    have B7 := hide (B6.out.trans (hb7.mono B6.out.size))
    clear x6 z6 hb7 B6
    go_wp2
    go_loopw [18] (fun i wr => ∃ j : Nat, j ≤ N ∧ i = .int .i64 j ∧ ∃ m, wr = w7.drewN m) (fun i _ => N - (intOf i).toNat)
    case atStart => exact ⟨0, Nat.zero_le _, rfl, 0, rfl⟩
    case round =>
      obtain ⟨i, hi, rfl, m, rfl⟩ := hrel
      by_cases hlt : i < N
      · obtain ⟨b6, off6, rfl, hbl6, c6'⟩ := z6'.at_ hlt
        obtain ⟨b7, off7, rfl, hbl7, c7'⟩ := z7.at_ hlt
        have k1 : (0 : Int) ≤ (i : Int) := by omega
        have k2 : (i : Int) < (N : Int) := by omega
        by_cases hik : i = K
        · have e1 : ((i : Int) == (K : Int)) = true := by rw [beq_iff_eq]; omega
          have e2 : ((i : Int) != (K : Int)) = false := by simp [hik]
          have e3 : decide (nth (run (ws.set K (1000000000 : Int)) T) i < nth (run ws T) i) = false := by
            have := HGR.out.1
            rw [hik]; simp; omega
          clear hik
          go_wp2
          go_quiet (fail)
          go_wp2
          go_roundw
          case rel => exact ⟨i + 1, by omega, by go_num, _, rfl⟩
          case measure => simp [intOf]; omega
        · have e1 : ((i : Int) == (K : Int)) = false := by rw [beq_eq_false_iff_ne]; omega
          have e2 : ((i : Int) != (K : Int)) = true := by rw [bne_iff_ne]; omega
          have e3 : decide (nth (run ws T) i < nth (run (ws.set K (1000000000 : Int)) T) i) = false := by
            have := HGR.out.2 i (by rw [HNL.out]; exact hlt) hik
            simp; omega
          clear hik
          go_wp2
          go_quiet (fail)
          go_wp2
          go_roundw
          case rel => exact ⟨i + 1, by omega, by go_num, _, rfl⟩
          case measure => simp [intOf]; omega
      · go_wp2
        go_ret
        exact ⟨rfl, below_drewN B7.out _⟩
end Go.Proofs.Yteknmllcpemnoaa
