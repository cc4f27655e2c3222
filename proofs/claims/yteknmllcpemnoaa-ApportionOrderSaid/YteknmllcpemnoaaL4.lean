/-
  The walk of ApportionOrder.
-/
import Derived.Test.YteknmllcpemnoaaLaws
namespace Go.Proofs.Yteknmllcpemnoaa
open Go.RowKit Go.Deep
set_option linter.unusedVariables false

set_option maxRecDepth 100000 in
set_option maxHeartbeats 8000000 in
theorem law4_walk (raw : Int) (A : Option Addr) (n c : Nat) (us : List Int) (w : World) (wr : (Lit.int .u16 raw).wf = true)
    (h : RK .u32 w w.heap.size A n us) (hn : n ≤ maxLen) (hu : ∀ z ∈ us, 0 ≤ z ∧ z ≤ 4294967295) :
    Calls Try.prog 6 #[.int .u16 raw, .slice A n c] w fun e w' => e = .returned (.bool true) ∧ Below w.heap.size w w' := by
  have HN := hide hn
  have HU := hide hu
  have HR := hide (wf_u16 wr)
  have HG := hide (valW_Good hu)
  have HVL := hide (valW_len us)
  obtain ⟨ws, HWS⟩ : ∃ ws, Hid (valW us = ws) := ⟨_, rfl⟩
  obtain ⟨T, HT⟩ : ∃ T : Nat, Hid (raw % 721 = T) := by
    have := HR.out
    exact ⟨(raw % 721).toNat, by show _ = _; omega⟩
  have hT0 : (0 : Int) ≤ (T : Int) := by omega
  have hT1 : (T : Int) ≤ 720 := by have := HT.out; omega
  have hT1' : T ≤ 720 := by omega
  have G : Hid (Good ws) := by have := HG.out; rw [HWS.out] at this; exact this
  have hwl : 1 ≤ ws.length ∧ ws.length ≤ 30 := by have := HVL.out; rwa [HWS.out] at this
  obtain ⟨N, HNL⟩ : ∃ N, Hid (ws.length = N) := ⟨_, rfl⟩
  have hN : 1 ≤ N ∧ N ≤ 30 := by have := HNL.out; omega
  have HRL : Hid ((run ws T).length = N) := by show _ = _; rw [run_len]; exact HNL.out
  obtain ⟨hN1, hN2⟩ := hN
  clear hu wr hn hwl HG HVL
  go_enter Try.func6, Try.ntmps6
  go_wp2_with fail
  refine (head_any _).mono ?_
  rintro e w1 ⟨rfl, hb1⟩
  have r1 := h.next hb1
  have B1 := hide hb1
  go_wp2_with fail
  refine (val_at _ _ _ us raw T ws HT.out HWS.out _ r1 HN.out HU.out HR.out).mono ?_
  rintro e w2 ⟨A2, c2, rfl, z2, hb2⟩
  rw [HNL.out] at z2
  rw [HNL.out]
  have B2 := hide (B1.out.trans (hb2.mono B1.out.size))
  clear r1 hb1 hb2 B1
  go_wp2_with fail
  refine (share_at _ _ _ ws T _ z2 G.out (by omega) hT1').mono ?_
  rintro e w3 ⟨A3, c3, rfl, z3, hb3⟩
  rw [HRL.out] at z3
  rw [HRL.out]
  have y3 := z2.next hb3
  have B3 := hide (B2.out.trans (hb3.mono B2.out.size))
  clear z2 hb3 B2
  go_wp2
  go_loopw [10] (fun i wr => ∃ j : Nat, j ≤ N ∧ i = .int .i64 j ∧ ∃ m, wr = w3.drewN m) (fun i _ => N - (intOf i).toNat)
  case atStart => exact ⟨0, Nat.zero_le _, rfl, 0, rfl⟩
  case round =>
    obtain ⟨i, hi, rfl, m, rfl⟩ := hrel
    by_cases hlt : i < N
    · obtain ⟨b, off, rfl, hbl, ci⟩ := y3.at_ hlt
      obtain ⟨b', off', rfl, hbl', di⟩ := z3.at_ hlt
      obtain ⟨wo, HWo⟩ : ∃ wo : World, Hid (wo = w3.drewN m) := ⟨_, rfl⟩
      go_wp2
      go_loopw [11] (fun k wr => ∃ j : Nat, j ≤ N ∧ k = .int .i64 j ∧ ∃ m, wr = w3.drewN m) (fun k _ => N - (intOf k).toNat)
      case atStart => exact ⟨0, Nat.zero_le _, rfl, m, rfl⟩
      case round =>
        obtain ⟨k, hk, rfl, m2, rfl⟩ := hrel
        by_cases hlt2 : k < N
        · obtain ⟨_, _, e1, _, ck⟩ := y3.at_ hlt2
          injection e1 with e1
          injection e1 with a1 a2
          subst a1 a2
          obtain ⟨_, _, e2, _, dk⟩ := z3.at_ hlt2
          injection e2 with e2
          injection e2 with a1 a2
          subst a1 a2
          have qi := run_bd720 G.out (t := T) (by omega) i
          have qk := run_bd720 G.out (t := T) (by omega) k
          obtain ⟨qi1, qi2⟩ := qi
          obtain ⟨qk1, qk2⟩ := qk
          obtain ⟨wi1, wi2⟩ := badW_nth G.out.bad i
          obtain ⟨wk1, wk2⟩ := badW_nth G.out.bad k
          have p1 : 0 ≤ nth ws i * nth (run ws T) k := Int.mul_nonneg wi1 qk1
          have p2 : nth ws i * nth (run ws T) k ≤ 721000000000 := by
            have := Int.mul_le_mul wi2 qk2 qk1 (by omega)
            omega
          obtain ⟨p3, p4⟩ := prod_bd wk1 wk2 qi1 (by omega)
          have k1 : (0 : Int) ≤ (i : Int) := by omega
          have k2 : (i : Int) < (N : Int) := by omega
          have k3 : (0 : Int) ≤ (k : Int) := by omega
          have k4 : (k : Int) < (N : Int) := by omega
          have hO1 := order_ge G.out T i k (by rw [HNL.out]; exact hlt) (by rw [HNL.out]; exact hlt2)
          have hO2 := order_eq G.out T i k (by rw [HNL.out]; exact hlt) (by rw [HNL.out]; exact hlt2)
          have hI := G.out.inv T i k (by rw [HNL.out]; exact hlt)
          have hone : (decide (nth ws k < nth ws i) = true ∧ decide (nth (run ws T) i < nth (run ws T) k) = false ∧ (nth ws i == nth ws k) = false) ∨
              (decide (nth ws k < nth ws i) = false ∧ (nth ws i == nth ws k) = true ∧ decide (nth (run ws T) k + 1 < nth (run ws T) i) = false) ∨
              (decide (nth ws k < nth ws i) = false ∧ (nth ws i == nth ws k) = false) := by
            rcases Int.lt_trichotomy (nth ws k) (nth ws i) with h1 | h1 | h1
            · exact .inl ⟨by simpa using h1, by simpa using hO1 h1, by rw [beq_eq_false_iff_ne]; omega⟩
            · exact .inr (.inl ⟨by simp [h1], by simp [h1], by simpa using hO2 h1.symm⟩)
            · exact .inr (.inr ⟨by simp; omega, by rw [beq_eq_false_iff_ne]; omega⟩)
          have htwo : (((i : Int) != (k : Int)) = false) ∨ (((i : Int) != (k : Int)) = true ∧ decide (0 < nth (run ws T) k) = false) ∨
              (((i : Int) != (k : Int)) = true ∧ decide (0 < nth (run ws T) k) = true ∧ decide (nth ws k * (nth (run ws T) i + 1) < nth ws i * nth (run ws T) k) = false ∧ (nth ws i * nth (run ws T) k == nth ws k * (nth (run ws T) i + 1)) = false) ∨
              (((i : Int) != (k : Int)) = true ∧ decide (0 < nth (run ws T) k) = true ∧ decide (nth ws k * (nth (run ws T) i + 1) < nth ws i * nth (run ws T) k) = false ∧ (nth ws i * nth (run ws T) k == nth ws k * (nth (run ws T) i + 1)) = true ∧ decide (i < k) = false) := by
            by_cases hik : i = k
            · subst hik; exact .inl (by simp)
            · have e1 : ((i : Int) != (k : Int)) = true := by rw [bne_iff_ne]; omega
              rcases Int.lt_or_le 0 (nth (run ws T) k) with h0 | h0
              · have hh := hI hik h0
                by_cases he : nth ws i * nth (run ws T) k = nth ws k * (nth (run ws T) i + 1)
                · exact .inr (.inr (.inr ⟨e1, by simpa using h0, by simp; omega, by simpa using he, by simp; have := hh.2 he; omega⟩))
                · exact .inr (.inr (.inl ⟨e1, by simpa using h0, by simp; omega, by simpa using he⟩))
              · exact .inr (.inl ⟨e1, by simp; omega⟩)
          clear hO1 hO2 hI
          rcases hone with ⟨x1, x2, x3⟩ | ⟨x1, x2, x3⟩ | ⟨x1, x2⟩ <;> rcases htwo with y1 | ⟨y1, y2⟩ | ⟨y1, y2, y3', y4⟩ | ⟨y1, y2, y3', y4, y5⟩
          all_goals
            go_wp2
            go_quiet (fail)
            go_wp2
            go_quiet (fail)
            go_wp2
            go_roundw
            case rel => exact ⟨k + 1, by omega, by go_num, _, rfl⟩
            case measure => simp [intOf]; omega
        · go_wp2
          go_roundw
          case rel => exact ⟨i + 1, by omega, by go_num, _, rfl⟩
          case measure => simp [intOf]; omega
    · go_wp2
      go_ret
      exact ⟨rfl, below_drewN B3.out _⟩
end Go.Proofs.Yteknmllcpemnoaa
