/-
  Chapter 23: the reference's Eval.
-/
import Derived.Test.YtmelebfpkjnfdaaGreatDoorRmV
set_option linter.unusedVariables false
set_option linter.unusedSimpArgs false
namespace Go.Proofs.YtmelebfpkjnfdaaGreatDoor
open Go.RowKit Go.Deep Go.Maps

set_option maxHeartbeats 8000000 in
set_option maxRecDepth 100000 in
theorem refEval_any (A : Option Addr) (c : Nat) (e : List Nod) (A2 : Option Addr) (n2 c2 : Nat) (rs : List Vr) (w : World) (he : ExprAt w w.heap.size A e) (hen : ∀ x ∈ e, x.name.size ≤ maxLen) (hlen : e.length ≤ maxLen)
    (hl : RVr w w.heap.size A2 n2 rs) (hln : n2 ≤ maxLen) (hrn : ∀ r ∈ rs, r.name.size ≤ maxLen) :
    Calls Tryz.prog 14 #[.slice A e.length c, .slice A2 n2 c2] w fun en w' => en = .returned (.tuple #[.int .i64 (evalM e rs).1, .int .i64 (evalM e rs).2]) ∧ Below w.heap.size w w' := by
  obtain ⟨res, hres⟩ : ∃ res, evalM e rs = res := ⟨_, rfl⟩
  rw [hres]
  have HRES := hide hres
  have HE := hide he
  have HL := hide hl
  have HEN := hide hen
  have HLEN := hide hlen
  have HLN := hide hln
  have HRN := hide hrn
  have HRL := hide hl.len
  have HBAD : Hid (validVs rs = false ∨ validL e = false → res = (0, 1)) := hide (fun h => by
    rw [← HRES.out]
    unfold evalM
    rw [if_pos h])
  unfold maxLen at hlen hln
  clear he hl hen hrn hres
  go_enter Tryz.func14, Tryz.ntmps14
  go_wp2_with fail
  refine (refValidE_any A c e w HE.out HEN.out HLEN.out).mono ?_
  rintro en w1 ⟨rfl, hb1⟩
  have HE1 := hide (HE.out.next hb1)
  have HL1 := hide (HL.out.next hb1)
  have HB1 := hide hb1
  clear hb1 HE HL
  cases hve : validL e
  · have HR := hide (HBAD.out (.inr hve))
    clear hve
    go_wp2
    go_ret2
    exact ⟨by rw [HR.out]; rfl, HB1.out⟩
  · go_wp2_with fail
    refine (refVars_any A2 n2 c2 rs w1 HL1.out HLN.out HRN.out).mono ?_
    rintro en w2 ⟨rfl, hb2⟩
    have HE2 := hide (HE1.out.next hb2)
    have HL2 := hide (HL1.out.next hb2)
    have HB2 := hide (HB1.out.trans (hb2.mono HB1.out.size))
    clear hb2 HE1 HL1 HB1
    cases hv : validVs rs
    · have HR := hide (HBAD.out (.inl hv))
      clear hve hv
      go_wp2
      go_ret2
      exact ⟨by rw [HR.out]; rfl, HB2.out⟩
    · have HG : Hid (res = endM (goM (sigV rs) [] e) e.length) := hide (by
        rw [← HRES.out, evalM_of hv hve]
        unfold endM
        cases goM (sigV rs) [] e <;> rfl)
      have HND := hide (valid_nodes hve)
      have HVT := hide hv
      clear HBAD HRES hve hv
      obtain ⟨σ, hσ⟩ : ∃ σ, σ = sigV rs := ⟨_, rfl⟩
      have HSG := hide hσ
      rw [← hσ] at HG
      have hl300 : e.length ≤ 300 := HND.out.2.1
      have hl1 : 1 ≤ e.length := HND.out.1
      clear hσ
      go_wp2
      go_loopw [6, 7] (fun t6 t7 wr => ∃ (k : Nat) (vs : List Int) (A6 : Option Addr) (c6 : Nat), k ≤ e.length ∧ t7 = .int .i64 k ∧ t6 = .slice A6 k c6 ∧ goM σ [] (e.take k) = Except.ok vs ∧ Own wr w2.heap.size 3 1 A6 k c6 (ints vs) ∧ Below w2.heap.size w2 wr) (fun _ t7 _ => e.length - (intOf t7).toNat)
      case atStart => exact ⟨0, [], none, 0, Nat.zero_le _, rfl, rfl, rfl, Own.nil _ _ _ _, Below.refl _ _⟩
      case round =>
        obtain ⟨k, vs, A6, c6, hk, rfl, rfl, hgo, hown, hbr⟩ := hrel
        have hvl : vs.length = k := by
          have := goM_len _ _ _ hgo
          simp at this
          omega
        have HVI := hide (goM_in _ [] vs (fun v hv => absurd hv List.not_mem_nil) hgo)
        have HGO := hide hgo
        have HVL := hide hvl
        have HOW := hide hown
        have HB := hide hbr
        clear hgo hown hbr hvl
        obtain ⟨wo, hwo⟩ : ∃ wo : World, wo = wr := ⟨_, rfl⟩
        subst hwo
        by_cases hlt : k < e.length
        · obtain ⟨be, offe, K, kc, rfl, hbe, x0, x1, x2, x3, hKd⟩ := (HE2.out.below HB.out).at_ hlt
          have hnk := HND.out.2.2 k hlt
          have hxn1 : (nodAt e k).name.size ≤ maxLen := HEN.out _ (List.mem_of_getElem? (nodAt_get hlt))
          have HST := hide (fun (v : Int) (hs : stepM σ vs (nodAt e k) = Except.ok v) => goM_next hlt HGO.out hs)
          have HER := hide (fun (r : Int) (hs : stepM σ vs (nodAt e k) = Except.error r) => goM_stop hlt HGO.out hs)
          generalize nodAt e k = x at x0 x1 x2 x3 hKd hnk hxn1 HST HER
          have HFM := hide hnk.1
          have HKI := hide hnk.2
          have HKD := hide hKd
          have HXN := hide hxn1
          have hk3 := formed_kids hnk.1
          clear hnk hKd hxn1
          by_cases h1 : x.op = 1
          · have hst : stepM σ vs x = if beyondL x.n = true then Except.error 9 else Except.ok x.n := by
              unfold stepM
              rw [if_pos h1]
            rw [h1] at x0
            -- TAIL wo x.n ONE
            cases hbd : beyondL x.n
            · have HN := hide (HST.out _ (by rw [hst, hbd, if_neg (by decide)]))
              have hin := inB_beyond.1 hbd
              unfold inB at hin
              have e1 : decide (x.n < -1000000000000) = false := decide_eq_false (by omega)
              have e2 : decide (1000000000000 < x.n) = false := decide_eq_false (by omega)
              have hmx : k + 1 ≤ maxLen := by unfold maxLen; omega
              have hq5 : w2.heap.size ≤ (wo.alloc (Obj.cells #[.int .i64 x.n] 3)).heap.size := by
                have := HB.out.size
                rw [World.size_alloc]
                omega
              have RR : Hid (Reads (wo.alloc (Obj.cells #[.int .i64 x.n] 3)) (wo.heap.size + 1) 1 (some ⟨wo.heap.size, 0, none⟩) 1 (ints [x.n])) := hide (reads_new wo #[.int .i64 x.n] 3 1 1 rfl)
              have HOA := hide (HOW.out.alloc (Obj.cells #[.int .i64 x.n] 3))
              have HBA := hide (HB.out.alloc HB.out.size (Obj.cells #[.int .i64 x.n] 3))
              clear hin hbd
              go_wp2_with (at_builtin; refine wpList_app rfl (.tmp 102) (.tmp 104) 61 rfl w2.heap.size 3 (.int .i64 0) 1 8 Tryz.underlying61 int_info rfl (by omega) _ k c6 (ints vs) rfl HOA.out _ _ 1 _ _ rfl RR.out (ints_oneCell _) hmx (by omega) hq5 ?_; intro A7 c7 w7 hown7 hbw7 _; rw [← ints_append] at hown7; have HO7 := hide hown7; have HB7 := hide (HBA.out.trans hbw7); clear hown7 hbw7)
              go_roundw
              case rel => exact ⟨k + 1, _, A7, c7, by omega, by go_num, rfl, HN.out, HO7.out, HB7.out⟩
              case measure => simp [intOf]; omega
            · have HN := hide (HER.out _ (by rw [hst, hbd, if_pos rfl]))
              have HRS : Hid (res = (0, 9)) := by
                show _ = _
                rw [HG.out, HN.out]
                rfl
              have hcases : (decide (x.n < -1000000000000) = true) ∨ (decide (x.n < -1000000000000) = false ∧ decide (1000000000000 < x.n) = true) := by
                unfold beyondL at hbd
                cases hq : decide (x.n < -1000000000000)
                · rw [show (-MB : Int) = -1000000000000 from rfl, hq, Bool.false_or] at hbd
                  exact .inr ⟨rfl, hbd⟩
                · exact .inl rfl
              clear hbd
              rcases hcases with e1 | ⟨e1, e2⟩
              all_goals
                go_wp2
                go_ret2
                exact ⟨by rw [HRS.out]; rfl, HB2.out.trans (HB.out.mono HB2.out.size)⟩
            -- END
          · have h1' : (x.op == 1) = false := beq_eq_false_iff_ne.2 h1
            by_cases h2 : x.op = 2
            · rw [h2] at x0
              have HX2 := hide (show ∀ wq : World, Below wo.heap.size wo wq → wq.cell? ⟨be, offe + k * 4 + 2, none⟩ = some (.string x.name) from fun wq hb => (hb.cell (p := ⟨be, offe + k * 4 + 2, none⟩) (by show be < _; have := HB.out.size; omega)).trans x2)
              have HST2 : Hid (stepM σ vs x = match sigV rs x.name with | some v => (if beyondL v = true then Except.error 9 else Except.ok v) | none => Except.error 7) := hide (by
                unfold stepM
                rw [if_neg h1, if_pos h2, HSG.out]
                cases sigV rs x.name <;> rfl)
              go_wp2
              go_loopw [8, 9, 10] (fun t8 t9 t10 wq => ∃ j : Nat, j ≤ n2 ∧ t10 = .int .i64 j ∧ t9 = .bool (sigV (rs.take j) x.name).isSome ∧ t8 = .int .i64 ((sigV (rs.take j) x.name).getD 0) ∧ ∃ q, wq = wo.drewN q) (fun _ _ t10 _ => n2 - (intOf t10).toNat)
              case atStart => exact ⟨0, Nat.zero_le _, rfl, rfl, rfl, 0, rfl⟩
              case round =>
                obtain ⟨j, hj, rfl, rfl, rfl, q, hwq⟩ := hrel
                have HWQ := hide hwq
                have hbq : Below wo.heap.size wo wr := by rw [hwq]; exact drewN_below _ _ _
                have HBQ := hide hbq
                have y2 := HX2.out wr hbq
                clear hwq hbq x0 x1 x2 x3
                by_cases hjl : j < n2
                · obtain ⟨bl, offl, rfl, hbl, g0, g1⟩ := (HL2.out.below (HB.out.trans (HBQ.out.mono HB.out.size))).at_ hjl
                  have HSS := hide (sigV_step HVT.out (j := j) (by rw [HRL.out]; exact hjl) x.name)
                  generalize vrAt rs j = v at g0 g1 HSS
                  generalize sigV (rs.take j) x.name = o at HSS ⊢
                  by_cases ht : v.name = x.name
                  · rw [ht] at g0
                    rw [if_pos ht] at HSS
                    go_upto_region 22 with (fail)
                    go_quiet (fail)
                    have g1' : (wr.drewN nq).cell? ⟨bl, offl + j * 2 + 1, none⟩ = some (.int .i64 v.val) := g1
                    go_wp2
                    go_roundw
                    case rel => exact ⟨j + 1, by omega, by go_num, by rw [HSS.out]; rfl, by rw [HSS.out]; rfl, q + nq, by rw [HWQ.out, World.drewN_drewN]⟩
                    case measure => simp [intOf]; omega
                  · have ht' := bytes_ne ht
                    rw [if_neg ht] at HSS
                    go_upto_region 22 with (fail)
                    go_quiet (fail)
                    go_wp2
                    go_roundw
                    case rel => exact ⟨j + 1, by omega, by go_num, by rw [HSS.out], by rw [HSS.out], q + nq, by rw [HWQ.out, World.drewN_drewN]⟩
                    case measure => simp [intOf]; omega
                · obtain rfl : j = n2 := by omega
                  have HTL : Hid (rs.take j = rs) := hide (by rw [List.take_of_length_le (by rw [HRL.out]; exact Nat.le_refl _)])
                  rw [HTL.out]
                  have HOW2 := hide (HOW.out.below HBQ.out)
                  have HB3 := hide (HB.out.trans (HBQ.out.mono HB.out.size))
                  generalize sigV rs x.name = o at HST2 ⊢
                  cases o with
                  | none =>
                    have HN := hide (HER.out _ HST2.out)
                    have HRS : Hid (res = (0, 7)) := by
                      show _ = _
                      rw [HG.out, HN.out]
                      rfl
                    show _
                    simp only [Option.isSome_none, Option.getD_none]
                    go_wp2
                    go_ret2
                    exact ⟨by rw [HRS.out]; rfl, HB2.out.trans (HB3.out.mono HB2.out.size)⟩
                  | some v =>
                    have hst : stepM σ vs x = if beyondL v = true then Except.error 9 else Except.ok v := HST2.out
                    simp only [Option.isSome_some, Option.getD_some]
                    clear HOW HB
                    -- TAIL wr v TWO
                    cases hbd : beyondL v
                    · have HN := hide (HST.out _ (by rw [hst, hbd, if_neg (by decide)]))
                      have hin := inB_beyond.1 hbd
                      unfold inB at hin
                      have e1 : decide (v < -1000000000000) = false := decide_eq_false (by omega)
                      have e2 : decide (1000000000000 < v) = false := decide_eq_false (by omega)
                      have hmx : k + 1 ≤ maxLen := by unfold maxLen; omega
                      have hq5 : w2.heap.size ≤ (wr.alloc (Obj.cells #[.int .i64 v] 3)).heap.size := by
                        have := HB3.out.size
                        rw [World.size_alloc]
                        omega
                      have RR : Hid (Reads (wr.alloc (Obj.cells #[.int .i64 v] 3)) (wr.heap.size + 1) 1 (some ⟨wr.heap.size, 0, none⟩) 1 (ints [v])) := hide (reads_new wr #[.int .i64 v] 3 1 1 rfl)
                      have HOA := hide (HOW2.out.alloc (Obj.cells #[.int .i64 v] 3))
                      have HBA := hide (HB3.out.alloc HB3.out.size (Obj.cells #[.int .i64 v] 3))
                      clear hin hbd
                      go_wp2_with (at_builtin; refine wpList_app rfl (.tmp 102) (.tmp 104) 61 rfl w2.heap.size 3 (.int .i64 0) 1 8 Tryz.underlying61 int_info rfl (by omega) _ k c6 (ints vs) rfl HOA.out _ _ 1 _ _ rfl RR.out (ints_oneCell _) hmx (by omega) hq5 ?_; intro A7 c7 w7 hown7 hbw7 _; rw [← ints_append] at hown7; have HO7 := hide hown7; have HB7 := hide (HBA.out.trans hbw7); clear hown7 hbw7)
                      go_roundw
                      case rel => exact ⟨k + 1, _, A7, c7, by omega, by go_num, rfl, HN.out, HO7.out, HB7.out⟩
                      case measure => simp [intOf]; omega
                    · have HN := hide (HER.out _ (by rw [hst, hbd, if_pos rfl]))
                      have HRS : Hid (res = (0, 9)) := by
                        show _ = _
                        rw [HG.out, HN.out]
                        rfl
                      have hcases : (decide (v < -1000000000000) = true) ∨ (decide (v < -1000000000000) = false ∧ decide (1000000000000 < v) = true) := by
                        unfold beyondL at hbd
                        cases hq : decide (v < -1000000000000)
                        · rw [show (-MB : Int) = -1000000000000 from rfl, hq, Bool.false_or] at hbd
                          exact .inr ⟨rfl, hbd⟩
                        · exact .inl rfl
                      clear hbd
                      rcases hcases with e1 | ⟨e1, e2⟩
                      all_goals
                        go_wp2
                        go_ret2
                        exact ⟨by rw [HRS.out]; rfl, HB2.out.trans (HB3.out.mono HB2.out.size)⟩
                    -- END
            · have h2' : (x.op == 2) = false := beq_eq_false_iff_ne.2 h2
              have h3 : 3 ≤ x.op := by have := (formed_ok HFM.out).1; omega
              have HCS : Hid ((beyondL (applyR x.op (kidV vs x x.kids.length 0) (kidV vs x x.kids.length 1) (kidV vs x x.kids.length 2)) = false → stepM σ vs x = Except.ok (applyR x.op (kidV vs x x.kids.length 0) (kidV vs x x.kids.length 1) (kidV vs x x.kids.length 2))) ∧
                  (beyondL (applyR x.op (kidV vs x x.kids.length 0) (kidV vs x x.kids.length 1) (kidV vs x x.kids.length 2)) = true → stepM σ vs x = Except.error 9)) := hide (by
                rw [stepM_op HFM.out h3]
                rcases applyR_cases (op := x.op) (c := kidV vs x x.kids.length 2) (kidV_in HVI.out x x.kids.length 0) (kidV_in HVI.out x x.kids.length 1) with ⟨c1, c2⟩ | ⟨c1, c2⟩
                · rw [c2, c1]
                  exact ⟨fun _ => by rw [if_neg (by decide)], fun h => by cases h⟩
                · rw [c2, c1]
                  exact ⟨fun h => (by cases h), fun _ => by rw [if_pos rfl]⟩)
              have HX := hide (show ∀ wq : World, Below wo.heap.size wo wq → wq.cell? ⟨be, offe + k * 4, none⟩ = some (.int .i64 x.op) ∧ wq.cell? ⟨be, offe + k * 4 + 3, none⟩ = some (.slice K x.kids.length kc) from fun wq hb => ⟨(hb.cell (p := ⟨be, offe + k * 4, none⟩) (by show be < _; have := HB.out.size; omega)).trans x0, (hb.cell (p := ⟨be, offe + k * 4 + 3, none⟩) (by show be < _; have := HB.out.size; omega)).trans x3⟩)
              go_wp2
              go_loopw [11, 12] (fun s j wq => ∃ (t : Nat) (A4 : Option Addr) (c4 : Nat), t ≤ x.kids.length ∧ j = .int .i64 t ∧ s = .slice A4 t c4 ∧ Own wq wo.heap.size 3 1 A4 t c4 (ints (opsL vs x t)) ∧ Below wo.heap.size wo wq) (fun _ j _ => x.kids.length - (intOf j).toNat)
              case atStart => exact ⟨0, none, 0, Nat.zero_le _, rfl, rfl, Own.nil _ _ _ _, Below.refl _ _⟩
              case round =>
                obtain ⟨t, A4, c4, ht, rfl, rfl, hown, hbq⟩ := hrel
                have HOK := hide hown
                have HBQ := hide hbq
                obtain ⟨y0, y3⟩ := HX.out wr hbq
                have HVO := hide (HOW.out.below hbq)
                clear hown hbq x0 x1 x2 x3
                by_cases htl : t < x.kids.length
                · obtain ⟨bk, offk, rfl, hbk, g0⟩ := HKD.out.at_ htl
                  have g0' : wr.cell? ⟨bk, offk + t, none⟩ = some (.int .i64 (nth x.kids t)) := (HBQ.out.cell (p := ⟨bk, offk + t, none⟩) (by show bk < _; have := HB.out.size; omega)).trans g0
                  have hkk : 0 ≤ nth x.kids t ∧ nth x.kids t < k := HKI.out _ (getD_mem x.kids t 0 htl)
                  obtain ⟨m, hm⟩ : ∃ m : Nat, nth x.kids t = m := ⟨(nth x.kids t).toNat, by omega⟩
                  have hmk : m < k := by omega
                  obtain ⟨g6, cap6, hv6, hgb6, hlt6⟩ := World.ownsRow.form HVO.out (by omega)
                  injection hv6 with hA6 _ hc6
                  subst hA6
                  have gm : wr.cell? ⟨g6, m, none⟩ = some (.int .i64 (valAt vs (kidAt x t))) := by
                    have h1 := ints_get (xs := vs) (k := m) (by rw [HVL.out]; exact hmk)
                    have h2 := (World.ownsRow.cells HVO.out (g := g6) rfl) m _ h1
                    rw [add_lit, Nat.zero_add] at h2
                    rw [h2]
                    have e1 : kidAt x t = m := hm
                    rw [e1]
                    rfl
                  rw [hm] at g0'
                  have HNX := hide (opsL_next vs x t)
                  obtain ⟨u, hu⟩ : ∃ u, u = valAt vs (kidAt x t) := ⟨_, rfl⟩
                  rw [← hu] at gm HNX
                  clear hu hm g0 hkk
                  have hd1 : decide ((m : Int) < 0) = false := decide_eq_false (by omega)
                  have hd2 : decide ((k : Int) ≤ (m : Int)) = false := decide_eq_false (by omega)
                  have hd3 : decide (k ≤ m) = false := decide_eq_false (by omega)
                  have hme : (m : Int) < (k : Int) := by omega
                  have hmx : t + 1 ≤ maxLen := by unfold maxLen; omega
                  have hq5 : wo.heap.size ≤ (wr.alloc (Obj.cells #[.int .i64 u] 3)).heap.size := by
                    have := HBQ.out.size
                    rw [World.size_alloc]
                    omega
                  have RR : Hid (Reads (wr.alloc (Obj.cells #[.int .i64 u] 3)) (wr.heap.size + 1) 1 (some ⟨wr.heap.size, 0, none⟩) 1 (ints [u])) := hide (reads_new wr #[.int .i64 u] 3 1 1 rfl)
                  have HOA := hide (HOK.out.alloc (Obj.cells #[.int .i64 u] 3))
                  have HBA := hide (HBQ.out.alloc HBQ.out.size (Obj.cells #[.int .i64 u] 3))
                  go_wp2_with (at_builtin; refine wpList_app rfl (.tmp 42) (.tmp 54) 61 rfl wo.heap.size 3 (.int .i64 0) 1 8 Tryz.underlying61 int_info rfl (by omega) A4 t c4 (ints (opsL vs x t)) rfl HOA.out _ _ 1 _ _ rfl RR.out (ints_oneCell _) hmx (by omega) hq5 ?_; intro A7 c7 w7 hown7 hbw7 _; rw [← ints_append, ← HNX.out] at hown7; have HO7 := hide hown7; have HB7 := hide (HBA.out.trans hbw7); clear hown7 hbw7)
                  go_roundw
                  case rel => exact ⟨t + 1, by omega, by go_num, A7, c7, ⟨rfl, rfl, rfl⟩, HO7.out, HB7.out⟩
                  case measure => simp [intOf]; omega
                · obtain rfl : t = x.kids.length := by omega
                  have hd5 : decide (x.kids.length < x.kids.length) = false := decide_eq_false (by omega)
                  have HKV : Hid (∀ i, (opsL vs x x.kids.length).getD i 0 = kidV vs x x.kids.length i) := fun i => opsL_get vs x _ i
                  have HIN : Hid (∀ i, inB ((opsL vs x x.kids.length).getD i 0)) := fun i => by rw [opsL_get]; exact kidV_in HVI.out x _ i
                  go_wp2_with fail
                  refine (refApplyAll_any HFM.out h3 A4 c4 wo.heap.size _ wr HOK.out HIN.out).mono ?_
                  rintro en w6 ⟨rfl, q, rfl⟩
                  rw [HKV.out 0, HKV.out 1, HKV.out 2]
                  generalize applyR x.op (kidV vs x x.kids.length 0) (kidV vs x x.kids.length 1) (kidV vs x x.kids.length 2) = v at HCS ⊢
                  have HOW2 := hide (HVO.out.drewN q)
                  have HB3 := hide (below_drewN (HB.out.trans (HBQ.out.mono HB.out.size)) q)
                  clear HOW HB HKV HIN HOK HBQ HVO y0 y3 HX
                  generalize wr.drewN q = w6 at HOW2 HB3 ⊢
                  -- TAIL w6 v OP
                  cases hbd : beyondL v
                  · have HN := hide (HST.out _ (HCS.out.1 hbd))
                    have hin := inB_beyond.1 hbd
                    unfold inB at hin
                    have e1 : decide (v < -1000000000000) = false := decide_eq_false (by omega)
                    have e2 : decide (1000000000000 < v) = false := decide_eq_false (by omega)
                    have hmx : k + 1 ≤ maxLen := by unfold maxLen; omega
                    have hq5 : w2.heap.size ≤ (w6.alloc (Obj.cells #[.int .i64 v] 3)).heap.size := by
                      have := HB3.out.size
                      rw [World.size_alloc]
                      omega
                    have RR : Hid (Reads (w6.alloc (Obj.cells #[.int .i64 v] 3)) (w6.heap.size + 1) 1 (some ⟨w6.heap.size, 0, none⟩) 1 (ints [v])) := hide (reads_new w6 #[.int .i64 v] 3 1 1 rfl)
                    have HOA := hide (HOW2.out.alloc (Obj.cells #[.int .i64 v] 3))
                    have HBA := hide (HB3.out.alloc HB3.out.size (Obj.cells #[.int .i64 v] 3))
                    clear hin hbd
                    go_wp2_with (at_builtin; refine wpList_app rfl (.tmp 102) (.tmp 104) 61 rfl w2.heap.size 3 (.int .i64 0) 1 8 Tryz.underlying61 int_info rfl (by omega) _ k c6 (ints vs) rfl HOA.out _ _ 1 _ _ rfl RR.out (ints_oneCell _) hmx (by omega) hq5 ?_; intro A7 c7 w7 hown7 hbw7 _; rw [← ints_append] at hown7; have HO7 := hide hown7; have HB7 := hide (HBA.out.trans hbw7); clear hown7 hbw7)
                    go_roundw
                    case rel => exact ⟨k + 1, _, A7, c7, by omega, by go_num, rfl, HN.out, HO7.out, HB7.out⟩
                    case measure => simp [intOf]; omega
                  · have HN := hide (HER.out _ (HCS.out.2 hbd))
                    have HRS : Hid (res = (0, 9)) := by
                      show _ = _
                      rw [HG.out, HN.out]
                      rfl
                    have hcases : (decide (v < -1000000000000) = true) ∨ (decide (v < -1000000000000) = false ∧ decide (1000000000000 < v) = true) := by
                      unfold beyondL at hbd
                      cases hq : decide (v < -1000000000000)
                      · rw [show (-MB : Int) = -1000000000000 from rfl, hq, Bool.false_or] at hbd
                        exact .inr ⟨rfl, hbd⟩
                      · exact .inl rfl
                    clear hbd
                    rcases hcases with e1 | ⟨e1, e2⟩
                    all_goals
                      go_wp2
                      go_ret2
                      exact ⟨by rw [HRS.out]; rfl, HB2.out.trans (HB3.out.mono HB2.out.size)⟩
                  -- END
        · obtain rfl : k = e.length := by omega
          have HRS : Hid (res = (lastI vs, 0)) := by
            show _ = _
            have := HGO.out
            rw [List.take_length] at this
            rw [HG.out, this]
            show (vs.getD (e.length - 1) 0, (0 : Int)) = _
            rw [← HVL.out]
            rfl
          obtain ⟨g6, cap6, hv6, hgb6, hlt6⟩ := World.ownsRow.form HOW.out (by omega)
          injection hv6 with hA6 _ hc6
          subst hA6
          have HLS : Hid (nth vs (e.length - 1) = lastI vs) := hide (by unfold lastI nth; rw [HVL.out])
          have h1 := ints_get (xs := vs) (k := e.length - 1) (by rw [HVL.out]; omega)
          have g := (World.ownsRow.cells HOW.out (g := g6) rfl) (e.length - 1) _ h1
          rw [add_lit, Nat.zero_add, HLS.out] at g
          have HBW := hide (HB2.out.trans (HB.out.mono HB2.out.size))
          clear h1 HOW HB HLS HVI HGO HND HSG HG HE2 HL2
          generalize lastI vs = lv at g HRS
          generalize e.length = n at g ⊢ hl1 hl300
          obtain ⟨n1, rfl⟩ : ∃ n1, n = n1 + 1 := ⟨n - 1, by omega⟩
          rw [Nat.add_sub_cancel] at g
          go_wp2
          go_ret2
          exact ⟨by rw [HRS.out]; rfl, HBW.out⟩
end Go.Proofs.YtmelebfpkjnfdaaGreatDoor
