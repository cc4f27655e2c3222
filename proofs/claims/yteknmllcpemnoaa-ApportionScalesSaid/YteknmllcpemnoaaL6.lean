/-
  The walk of ApportionScales.
-/
import Derived.Test.YteknmllcpemnoaaLaws
namespace Go.Proofs.Yteknmllcpemnoaa
open Go.RowKit Go.Deep
set_option linter.unusedVariables false

/-- A weight, at most 1000000. -/
def capI (x : Int) : Int := if x ≤ 1000000 then x else 1000000
def capTo (ws : List Int) : Nat → List Int
  | 0 => ws
  | k + 1 => (capTo ws k).set k (capI (nth ws k))
theorem capTo_len (ws : List Int) (k : Nat) : (capTo ws k).length = ws.length := by
  induction k with
  | zero => rfl
  | succ k ih => simp [capTo, ih]
theorem capTo_nth (ws : List Int) (k i : Nat) (hk : k ≤ ws.length) : nth (capTo ws k) i = if i < k then capI (nth ws i) else nth ws i := by
  induction k with
  | zero => rw [if_neg (by omega)]; rfl
  | succ k ih =>
    simp only [capTo]
    rw [nth_set' (by rw [capTo_len]; omega), ih (by omega)]
    by_cases e : k = i
    · subst e; rw [if_pos rfl, if_pos (by omega)]
    · rw [if_neg e]
      by_cases e2 : i < k
      · rw [if_pos e2, if_pos (by omega)]
      · rw [if_neg e2, if_neg (by omega)]
def capL (ws : List Int) : List Int := ws.map capI
theorem capL_nth (ws : List Int) (k : Nat) (h : k < ws.length) : nth (capL ws) k = capI (nth ws k) := by
  simp [capL, nth, List.getElem?_eq_getElem h]
theorem capTo_all (ws : List Int) : capTo ws ws.length = capL ws :=
  list_ext (by rw [capTo_len]; simp [capL]) fun k hk => by
    rw [capTo_len] at hk
    rw [capTo_nth _ _ _ (Nat.le_refl _), if_pos hk, capL_nth _ _ hk]
def scTo (ws : List Int) (f : Int) (k : Nat) : List Int := (List.range k).map fun i => capI (nth ws i) * f
theorem scTo_succ (ws : List Int) (f : Int) (k : Nat) : scTo ws f (k + 1) = scTo ws f k ++ [capI (nth ws k) * f] := by
  simp [scTo, List.range_succ]
theorem scTo_all (ws : List Int) (f : Int) : scTo ws f ws.length = (capL ws).map (· * f) :=
  list_ext (by simp [scTo, capL]) fun k hk => by
    simp only [scTo, List.length_map, List.length_range] at hk
    rw [nth_map_mul, capL_nth _ _ hk]
    exact nth_range _ _ _ hk
theorem rep_snoc (z : Nat) : List.replicate (z + 1) (0 : Int) = List.replicate z 0 ++ [0] := List.replicate_succ'
theorem Good.cap {w : List Int} (h : Good w) : Good (capL w) := by
  refine ⟨by simpa [capL] using h.pos, ?_, ?_⟩
  · unfold badW
    rw [List.any_eq_false]
    intro x hx
    simp only [capL, List.mem_map] at hx
    obtain ⟨y, hy, rfl⟩ := hx
    obtain ⟨i, hi, rfl⟩ := List.getElem_of_mem hy
    have := badW_nth h.bad i
    rw [nth_eq hi] at this
    unfold capI
    simp [outB]
    split <;> omega
  · rw [capL_nth _ _ h.pos]
    have := h.one
    unfold capI
    split <;> omega
theorem Good.scale {w : List Int} (h : Good w) {f : Int} (hf : 1 ≤ f) (hf2 : f ≤ 1000) (hw : ∀ k, nth w k ≤ 1000000) (z : Nat) : Good (scaleL w f z) := by
  refine ⟨by rw [scaleL_len]; have := h.pos; omega, ?_, ?_⟩
  · unfold badW
    rw [List.any_eq_false]
    intro x hx
    obtain ⟨i, hi, rfl⟩ := List.getElem_of_mem hx
    rw [← nth_eq hi, scaleL_nth]
    have h1 := h.nn i
    have h2 := Int.mul_nonneg h1 (show 0 ≤ f by omega)
    have h3 := Int.mul_le_mul (hw i) hf2 (by omega) (by omega)
    simp [outB]; omega
  · rw [scaleL_nth]
    have h3 := Int.mul_le_mul h.one hf (by omega) (by have := h.one; omega)
    omega
theorem capL_le (ws : List Int) (k : Nat) : nth (capL ws) k ≤ 1000000 := by
  by_cases h : k < ws.length
  · rw [capL_nth _ _ h]; unfold capI; split <;> omega
  · rw [nth_out (by simpa [capL] using h)]; omega

set_option maxRecDepth 100000 in
set_option maxHeartbeats 8000000 in
theorem law6_walk (raw : Int) (A : Option Addr) (n c : Nat) (us : List Int) (x y : Int) (w : World) (wr : (Lit.int .u16 raw).wf = true)
    (h : RK .u32 w w.heap.size A n us) (hn : n ≤ maxLen) (hu : ∀ z ∈ us, 0 ≤ z ∧ z ≤ 4294967295) (wx : (Lit.int .u16 x).wf = true) (wy : (Lit.int .u8 y).wf = true) :
    Calls Try.prog 8 #[.int .u16 raw, .slice A n c, .int .u16 x, .int .u8 y] w fun e w' => e = .returned (.bool true) ∧ Below w.heap.size w w' := by
  have HN := hide hn
  have HU := hide hu
  have HR := hide (wf_u16 wr)
  have HG := hide (valW_Good hu)
  have HVL := hide (valW_len us)
  obtain ⟨ws, HWS⟩ : ∃ ws, Hid (valW us = ws) := ⟨_, rfl⟩
  obtain ⟨T, HT⟩ : ∃ T : Nat, Hid (raw % 721 = T) := by
    have := HR.out
    exact ⟨(raw % 721).toNat, by show _ = _; omega⟩
  have hT0 : (0 : Int) ≤ (T : Int) := by omega
  have hT1 : (T : Int) ≤ 720 := by have := HT.out; omega
  have hT1' : T ≤ 720 := by omega
  have G : Hid (Good ws) := by have := HG.out; rw [HWS.out] at this; exact this
  have hwl : 1 ≤ ws.length ∧ ws.length ≤ 30 := by have := HVL.out; rwa [HWS.out] at this
  obtain ⟨N, HNL⟩ : ∃ N, Hid (ws.length = N) := ⟨_, rfl⟩
  have hN : 1 ≤ N ∧ N ≤ 30 := by have := HNL.out; omega
  have HRL : Hid ((run ws T).length = N) := by show _ = _; rw [run_len]; exact HNL.out
  obtain ⟨hN1, hN2⟩ := hN
  clear hu wr hn hwl HG HVL
  obtain ⟨x0, x1⟩ := wf_u16 wx
  obtain ⟨y0, y1⟩ := wf_u8 wy
  clear wx wy
  obtain ⟨Z, HZY⟩ : ∃ Z : Nat, Hid (y % 100 = Z) := ⟨(y % 100).toNat, by show _ = _; omega⟩
  have hZ : Z < 100 := by have := HZY.out; omega
  have hf1 : 1 ≤ 1 + x % 1000 := by omega
  have hf2 : 1 + x % 1000 ≤ 1000 := by omega
  have GC := hide (G.out.cap)
  have GS := hide (GC.out.scale hf1 hf2 (capL_le ws) Z)
  have HCL : Hid ((capL ws).length = N) := by show _ = _; simp only [capL, List.length_map]; exact HNL.out
  have HSL : Hid ((scaleL (capL ws) (1 + x % 1000) Z).length = N + Z) := by show _ = _; rw [scaleL_len, HCL.out]
  have HRC : Hid ((run (capL ws) T).length = N) := by show _ = _; rw [run_len]; exact HCL.out
  have HRS : Hid ((run (scaleL (capL ws) (1 + x % 1000) Z) T).length = N + Z) := by show _ = _; rw [run_len]; exact HSL.out
  have HRE := hide (run_scale GC.out (f := 1 + x % 1000) (by omega) Z T)
  go_enter Try.func8, Try.ntmps8
  go_wp2_with fail
  refine (head_any _).mono ?_
  rintro e w1 ⟨rfl, hb1⟩
  have r1 := h.next hb1
  have B1 := hide hb1
  go_wp2_with fail
  refine (valO_at _ _ _ us raw T ws HT.out HWS.out _ r1 HN.out HU.out HR.out).mono ?_
  rintro e w2 ⟨A2, c2, rfl, z2, hb2⟩
  rw [HNL.out] at z2
  rw [HNL.out]
  replace z2 := Own.mono z2 B1.out.size
  have B2 := hide (B1.out.trans (hb2.mono B1.out.size))
  clear r1 hb1 hb2 B1
  obtain ⟨g, rfl, hgw, hg2, _, _⟩ := z2.at_ (k := 0) (by omega)
  have HSZ := hide B2.out.size
  have HO2 := hide z2
  clear z2
  go_wp2
  go_loopw [12, 13] (fun o i wr => ∃ (k : Nat) (A3 : Option Addr) (c3 : Nat), k ≤ N ∧ i = .int .i64 k ∧ o = .slice A3 k c3 ∧ Own wr w2.heap.size 3 1 A3 k c3 (ints (scTo ws (1 + x % 1000) k)) ∧ Own wr w.heap.size 3 1 (some ⟨g, 0, none⟩) N c2 (ints (capTo ws k)) ∧ Below w.heap.size w wr ∧ w2.heap.size ≤ wr.heap.size) (fun _ i _ => N - (intOf i).toNat)
  case atStart => exact ⟨0, none, 0, Nat.zero_le _, rfl, rfl, Own.nil _ _ _ _, HO2.out, B2.out, Nat.le_refl _⟩
  case round =>
    obtain ⟨k, A3, c3, hk, rfl, rfl, own3, own2, hb, hsz⟩ := hrel
    by_cases hlt : k < N
    · obtain ⟨_, e1, _, _, ck, fk⟩ := own2.at_ hlt
      injection e1 with e1
      injection e1 with e1
      subst e1
      rw [ints_get (by rw [capTo_len, HNL.out]; exact hlt), capTo_nth _ _ _ (by rw [HNL.out]; omega), if_neg (by omega)] at ck
      obtain ⟨q1, q2⟩ := badW_nth G.out.bad k
      have HS := hide (scTo_succ ws (1 + x % 1000) k)
      by_cases hcap : nth ws k ≤ 1000000
      · skip
        have hV : Hid (capI (nth ws k) = (nth ws k)) := by show _ = _; unfold capI; first | rw [if_pos hcap] | rw [if_neg hcap]
        have p1 : 0 ≤ (nth ws k) * (1 + x % 1000) := Int.mul_nonneg (by omega) (by omega)
        have p2 : (nth ws k) * (1 + x % 1000) ≤ 1000000000 := by
          have := Int.mul_le_mul (show (nth ws k) ≤ 1000000 by omega) hf2 (by omega) (by omega)
          omega
        have HO2b := hide (own2.set k (.int .i64 (nth ws k)))
        have HO3b := hide (own3.far (a := ⟨g, k, none⟩) hg2 (.int .i64 (nth ws k)))
        have HBb := hide (hb.setCell (p := ⟨g, k, none⟩) hgw (.int .i64 (nth ws k)))
        have hszb : w2.heap.size ≤ (wr.setCell ⟨g, k, none⟩ (.int .i64 (nth ws k))).heap.size := by simp [World.setCell]; exact hsz
        have HSZb := hide hszb
        clear own2 own3 hb hszb
        go_wp2_with ((
          at_builtin
          refine wpList_app rfl (.tmp 41) (.tmp 51) _ rfl w2.heap.size 3 _ 1 8 Try.underlying22 int_info rfl (by omega) A3 k c3 _ rfl (HO3b.out.alloc _) (wr.heap.size + 1) (some ⟨wr.heap.size, 0, none⟩) 1 1 [.int .i64 ((nth ws k) * (1 + x % 1000))] rfl (reads_new_at (wr.setCell ⟨g, k, none⟩ (.int .i64 (nth ws k))) #[.int .i64 ((nth ws k) * (1 + x % 1000))] 3 1 1 wr.heap.size rfl (by simp [World.setCell])) (by simp [Value.oneCell']) (by unfold maxLen; omega) (by omega) (by simp; exact Nat.le_succ_of_le hsz) ?_
          intro A4 c4 w4 own4 hb4 _
          rw [← ints_one, ← ints_append, ← hV.out, ← HS.out] at own4
          have Own4 := hide own4
          have B4 := hide hb4
          clear own4 hb4))
        go_roundw
        case rel =>
          have hBB := ((Below.refl w2.heap.size (wr.setCell ⟨g, k, none⟩ (.int .i64 (nth ws k)))).alloc HSZb.out (.cells #[.int .i64 ((nth ws k) * (1 + x % 1000))] 3)).trans B4.out
          refine ⟨k + 1, A4, c4, by omega, by go_num, rfl, Own4.out, ?_, HBb.out.trans (hBB.mono HSZ.out), Nat.le_trans HSZb.out hBB.size⟩
          have := HO2b.out.under hg2 hBB
          rw [set_ints, ← hV.out] at this
          exact this
        case measure => simp [intOf]; omega
      · have hcap2 : 1000000 < nth ws k := by omega
        have hV : Hid (capI (nth ws k) = (1000000 : Int)) := by show _ = _; unfold capI; first | rw [if_pos hcap] | rw [if_neg hcap]
        have p1 : 0 ≤ (1000000 : Int) * (1 + x % 1000) := Int.mul_nonneg (by omega) (by omega)
        have p2 : (1000000 : Int) * (1 + x % 1000) ≤ 1000000000 := by
          have := Int.mul_le_mul (show (1000000 : Int) ≤ 1000000 by omega) hf2 (by omega) (by omega)
          omega
        have HO2b := hide (own2.set k (.int .i64 (1000000 : Int)))
        have HO3b := hide (own3.far (a := ⟨g, k, none⟩) hg2 (.int .i64 (1000000 : Int)))
        have HBb := hide (hb.setCell (p := ⟨g, k, none⟩) hgw (.int .i64 (1000000 : Int)))
        have hszb : w2.heap.size ≤ (wr.setCell ⟨g, k, none⟩ (.int .i64 (1000000 : Int))).heap.size := by simp [World.setCell]; exact hsz
        have HSZb := hide hszb
        clear own2 own3 hb hszb
        go_wp2_with ((
          at_builtin
          refine wpList_app rfl (.tmp 41) (.tmp 51) _ rfl w2.heap.size 3 _ 1 8 Try.underlying22 int_info rfl (by omega) A3 k c3 _ rfl (HO3b.out.alloc _) (wr.heap.size + 1) (some ⟨wr.heap.size, 0, none⟩) 1 1 [.int .i64 ((1000000 : Int) * (1 + x % 1000))] rfl (reads_new_at (wr.setCell ⟨g, k, none⟩ (.int .i64 (1000000 : Int))) #[.int .i64 ((1000000 : Int) * (1 + x % 1000))] 3 1 1 wr.heap.size rfl (by simp [World.setCell])) (by simp [Value.oneCell']) (by unfold maxLen; omega) (by omega) (by simp; exact Nat.le_succ_of_le hsz) ?_
          intro A4 c4 w4 own4 hb4 _
          rw [← ints_one, ← ints_append, ← hV.out, ← HS.out] at own4
          have Own4 := hide own4
          have B4 := hide hb4
          clear own4 hb4))
        go_roundw
        case rel =>
          have hBB := ((Below.refl w2.heap.size (wr.setCell ⟨g, k, none⟩ (.int .i64 (1000000 : Int)))).alloc HSZb.out (.cells #[.int .i64 ((1000000 : Int) * (1 + x % 1000))] 3)).trans B4.out
          refine ⟨k + 1, A4, c4, by omega, by go_num, rfl, Own4.out, ?_, HBb.out.trans (hBB.mono HSZ.out), Nat.le_trans HSZb.out hBB.size⟩
          have := HO2b.out.under hg2 hBB
          rw [set_ints, ← hV.out] at this
          exact this
        case measure => simp [intOf]; omega
    · obtain rfl : k = N := by omega
      have hS : Hid (scTo ws (1 + x % 1000) k = (capL ws).map (· * (1 + x % 1000))) := by
        have := scTo_all ws (1 + x % 1000)
        rwa [HNL.out] at this
      have hC : Hid (capTo ws k = capL ws) := by
        have := capTo_all ws
        rwa [HNL.out] at this
      rw [hC.out] at own2
      rw [hS.out] at own3
      have HO3 := hide own3
      have HO2' := hide own2
      have HB := hide hb
      have HSZ2 := hide hsz
      clear own3 own2 hb hsz HO2
      obtain ⟨wo, rfl⟩ : ∃ x : World, x = wr := ⟨_, rfl⟩
      go_wp2
      go_loopw [12, 14] (fun o i wr => ∃ (j : Nat) (A4 : Option Addr) (c4 : Nat), j ≤ Z ∧ i = .int .i64 j ∧ o = .slice A4 (k + j) c4 ∧ Own wr w2.heap.size 3 1 A4 (k + j) c4 (ints ((capL ws).map (· * (1 + x % 1000)) ++ List.replicate j 0)) ∧ Own wr w.heap.size 3 1 (some ⟨g, 0, none⟩) k c2 (ints (capL ws)) ∧ Below w.heap.size w wr ∧ w2.heap.size ≤ wr.heap.size) (fun _ i _ => Z - (intOf i).toNat)
      case atStart => exact ⟨0, _, _, Nat.zero_le _, rfl, rfl, by rw [List.replicate_zero, List.append_nil]; exact HO3.out, HO2'.out, HB.out, HSZ2.out⟩
      case round =>
        obtain ⟨j, A4, c4, hj, rfl, rfl, own4, own2, hb, hsz⟩ := hrel
        by_cases hjz : j < Z
        · have HR2 := hide (rep_snoc j)
          have hjy : (j : Int) < y % 100 := by have := HZY.out; omega
          have hszb : w.heap.size ≤ wr.heap.size := hb.size
          have HO2b := hide own2
          go_wp2_with ((
            at_builtin
            refine wpList_app rfl (.tmp 60) (.tmp 61) _ rfl w2.heap.size 3 _ 1 8 Try.underlying22 int_info rfl (by omega) A4 (k + j) c4 _ rfl (own4.alloc _) (wr.heap.size + 1) (some ⟨wr.heap.size, 0, none⟩) 1 1 [.int .i64 0] rfl (reads_new wr #[.int .i64 0] 3 1 1 rfl) (by simp [Value.oneCell']) (by unfold maxLen; omega) (by omega) (by simp; exact Nat.le_succ_of_le hsz) ?_
            intro A5 c5 w5 own5 hb5 _
            rw [← ints_one, ← ints_append, List.append_assoc, ← HR2.out] at own5
            have Own5 := hide own5
            have B5 := hide hb5
            clear own5 hb5))
          go_roundw
          case rel =>
            have hBB := ((Below.refl w2.heap.size wr).alloc hsz (.cells #[.int .i64 0] 3)).trans B5.out
            exact ⟨j + 1, A5, c5, by omega, by go_num, rfl, Own5.out, HO2b.out.under hg2 hBB, hb.trans (hBB.mono HSZ.out), Nat.le_trans hsz hBB.size⟩
          case measure => simp [intOf]; omega
        · obtain rfl : j = Z := by omega
          have hjy : ¬ (j : Int) < y % 100 := by have := HZY.out; omega
          have x5 : RI wr wr.heap.size A4 (k + j) (scaleL (capL ws) (1 + x % 1000) j) := own4.ri
          have y5 : RI wr wr.heap.size (some ⟨g, 0, none⟩) k (capL ws) := own2.ri
          have B5 := hide hb
          clear own4 own2 hb hsz HO3 HO2'
          go_wp2_with fail
          refine (share_at _ _ _ (capL ws) T _ y5 GC.out (by omega) hT1').mono ?_
          rintro e w6 ⟨A6, c6, rfl, z6, hb6⟩
          rw [HRC.out] at z6
          rw [HRC.out]
          have x6 := x5.next hb6
          have B6 := hide (B5.out.trans (hb6.mono B5.out.size))
          clear x5 y5 hb6 B5
          go_wp2_with fail
          refine (share_at _ _ _ (scaleL (capL ws) (1 + x % 1000) j) T _ x6 GS.out (by omega) hT1').mono ?_
          rintro e w7 ⟨A7, c7, rfl, z7, hb7⟩
          rw [HRS.out] at z7
          rw [HRS.out]
          have z6' := z6.next hb7
          have B7 := hide (B6.out.trans (hb7.mono B6.out.size))
          clear x6 z6 hb7 B6
          go_wp2
          go_loopw [19] (fun i wr => ∃ l : Nat, l ≤ k + j ∧ i = .int .i64 l ∧ ∃ m, wr = w7.drewN m) (fun i _ => k + j - (intOf i).toNat)
          case atStart => exact ⟨0, Nat.zero_le _, rfl, 0, rfl⟩
          case round =>
            obtain ⟨l, hl, rfl, m, rfl⟩ := hrel
            by_cases hll : l < k + j
            · obtain ⟨b7, off7, rfl, hbl7, c7'⟩ := z7.at_ hll
              have k1 : (0 : Int) ≤ (l : Int) := by omega
              have k2 : (l : Int) < ((k + j : Nat) : Int) := by omega
              by_cases hlk : l < k
              · obtain ⟨b6, off6, rfl, hbl6, c6'⟩ := z6'.at_ hlk
                have k3 : (l : Int) < (k : Int) := by omega
                have e1 : decide (l < k) = true := by simpa using hlk
                have e2 : decide (k ≤ l) = false := by simpa using hlk
                have e3 : (nth (run (capL ws) T) l != nth (run (scaleL (capL ws) (1 + x % 1000) j) T) l) = false := by
                  rw [HRE.out, nth_app_l (by rw [HRC.out]; exact hlk)]; simp
                go_wp2
                go_quiet (fail)
                go_wp2
                go_roundw
                case rel => exact ⟨l + 1, by omega, by go_num, _, rfl⟩
                case measure => simp [intOf]; omega
              · have e1 : decide (l < k) = false := by simpa using hlk
                have e2 : decide (k ≤ l) = true := by simp; omega
                have e3 : (nth (run (scaleL (capL ws) (1 + x % 1000) j) T) l != 0) = false := by
                  rw [HRE.out, nth_app_r (by rw [HRC.out]; exact hlk), nth_rep]; rfl
                go_wp2
                go_quiet (fail)
                go_wp2
                go_roundw
                case rel => exact ⟨l + 1, by omega, by go_num, _, rfl⟩
                case measure => simp [intOf]; omega
            · go_wp2
              go_ret
              exact ⟨rfl, below_drewN B7.out _⟩
end Go.Proofs.Yteknmllcpemnoaa
