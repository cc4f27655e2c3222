/-
  The reference of chapter 22: Bounds.
-/
import Derived.Test.YtnlcfbaaomdjdaaGreatDoorRvJ
import Derived.Test.YtnlcfbaaomdjdaaGreatDoorRvR
import Derived.Test.YtnlcfbaaomdjdaaGreatDoorRefN
import Derived.Test.YtnlcfbaaomdjdaaGreatDoorBndO
set_option linter.unusedVariables false
set_option linter.unusedSimpArgs false
namespace Go.Proofs.YtnlcfbaaomdjdaaGreatDoor
open Go.RowKit Go.Deep Go.Maps

theorem pair_info : (Tryz.prog.info? 43).map (fun i => (i.zero, i.size, i.bytes)) = some (some (.agg #[.int .i64 0, .int .i64 0]), 2, 16) := by kernel_rfl
theorem padS_zero {n : Nat} {all : List (Int × Int)} (h : all.length < n) : padS n all = padS n (all ++ [(0, 0)]) := by
  unfold padS
  rw [List.length_append, List.append_assoc]
  congr 1
  rw [show n - all.length = (n - (all.length + 1)) + 1 from by omega, List.replicate_succ]
  rfl
theorem padS_reset {n : Nat} {all : List (Int × Int)} (h : all.length < n) (s t : Int × Int) : (padS n (all ++ [s])).set all.length t = padS n (all ++ [t]) := by
  unfold padS
  rw [List.append_assoc, List.set_append_right _ _ (Nat.le_refl _), Nat.sub_self, List.append_assoc]
  simp
theorem cellsS_append' (l m : List (Int × Int)) : cellsS (l ++ m) = cellsS l ++ cellsS m := by
  unfold cellsS
  rw [List.flatMap_append]
theorem cand_kids {all : List (Int × Int)} {x : Nod} (hf : formedL x = true) (h3 : 3 ≤ x.op ∧ x.op ≤ 12) :
    candR x.op ((x.kids.map (spanAt all)).getD 0 (0, 0)) ((x.kids.map (spanAt all)).getD 1 (0, 0)) ((x.kids.map (spanAt all)).getD 2 (0, 0)) = candR x.op (spanAt all (kidAt x 0)) (spanAt all (kidAt x 1)) (spanAt all (kidAt x 2)) := by
  have hops := formed_ops hf
  unfold kidAt
  generalize x.kids = ks at hops ⊢
  generalize x.op = op at hops h3 ⊢
  have : op = 3 ∨ op = 4 ∨ op = 5 ∨ op = 6 ∨ op = 7 ∨ op = 8 ∨ op = 9 ∨ op = 10 ∨ op = 11 ∨ op = 12 := by omega
  rcases this with rfl | rfl | rfl | rfl | rfl | rfl | rfl | rfl | rfl | rfl
  all_goals first
    | (obtain ⟨a, b, rfl⟩ := kids2 (hops.trans rfl); rfl)
    | (obtain ⟨a, b, c, rfl⟩ := kids3 (hops.trans rfl); rfl)
    | (obtain ⟨a, rfl⟩ := kids1 (hops.trans rfl); rfl)

set_option maxHeartbeats 40000000 in
set_option maxRecDepth 20000 in
theorem refBounds_any (A : Option Addr) (c : Nat) (e : List Nod) (A2 : Option Addr) (n2 c2 : Nat) (rs : List Rng) (w : World) (he : ExprAt w w.heap.size A e) (hen : ∀ x ∈ e, x.name.size ≤ maxLen) (hem : e.length ≤ maxLen)
    (hr : RRg w w.heap.size A2 n2 rs) (hrn : n2 ≤ maxLen) (hrm : ∀ r ∈ rs, r.name.size ≤ maxLen) :
    Calls Tryz.prog 7 #[.slice A e.length c, .slice A2 n2 c2] w (BndPost w (boundsL e rs)) := by
  obtain ⟨res, hres⟩ : ∃ res, boundsL e rs = res := ⟨_, rfl⟩
  rw [hres]
  have HE := hide he
  have HEN := hide hen
  have HR := hide hr
  have HRM := hide hrm
  have HLN := hide hr.len
  have HRES : Hid (boundsL e rs = res) := hres
  have HHR := hide hrn
  unfold maxLen at hrn
  clear he hres hen hr hrm
  go_enter Tryz.func7, Tryz.ntmps7
  go_wp2_with fail
  refine (refValidE_any A c e w HE.out HEN.out hem).mono ?_
  rintro en w1 ⟨rfl, hb1⟩
  cases hv2 : validL e
  · obtain rfl : (0, 0, 1) = res := by
      rw [← HRES.out]
      unfold boundsL
      rw [if_pos (.inr hv2)]
    clear HRES hv2
    go_wp2
    go_ret3
    exact ⟨rfl, hb1⟩
  · have HV2 := hide hv2
    have HR1 := hide (HR.out.next hb1)
    obtain ⟨hl1, hl300, hnod⟩ := valid_nodes hv2
    have HNOD := hide hnod
    clear hv2 hnod
    go_wp2_with fail
    refine (refValid_any A2 n2 c2 rs w1 HR1.out HHR.out HRM.out).mono ?_
    rintro en w2 ⟨rfl, hb2⟩
    have hb02 := hb1.trans (hb2.mono hb1.size)
    cases hv : validRs rs
    · obtain rfl : (0, 0, 1) = res := by
        rw [← HRES.out]
        unfold boundsL
        rw [if_pos (.inl hv)]
      clear HRES hv hb1 hb2
      go_wp2
      go_ret3
      exact ⟨rfl, hb02⟩
    · have HV := hide hv
      have hmk := fun (w : World) => make_runS (P := Tryz.prog) 48 43 (.agg #[.int .i64 0, .int .i64 0]) 2 16 Tryz.underlying48 pair_info e.length (by omega) (by omega) w
      have hga : Blk (w2.alloc (Obj.cells (madeCells #[.int .i64 0, .int .i64 0] (e.length * 2)) 43)) w2.heap.size 43 (cellsS (padS e.length [])).toArray := by
        rw [← made_span]
        exact Blk.new _ _ _
      have hb04 : Below w.heap.size w (w2.alloc (Obj.cells (madeCells #[.int .i64 0, .int .i64 0] (e.length * 2)) 43)) := hb02.alloc hb02.size _
      have hwa := hb02.size
      clear hv hb1 hb2 HR1
      go_upto_region 4 with (fail)
      generalize w2.alloc (Obj.cells (madeCells #[.int .i64 0, .int .i64 0] (e.length * 2)) 43) = w4 at hga hb04 ⊢
      generalize w2.heap.size = ga at hga hwa ⊢
      clear hmk hb02
      have HBE : Hid (∀ r, goB rs [] e = .error r → ((0, 0, r) : Int × Int × Int) = res) := hide (fun r hr => by
        rw [← HRES.out]
        unfold boundsL
        rw [if_neg (by rw [HV.out, HV2.out]; simp), hr])
      go_wp2
      go_loopw [8] (fun i wr => ∃ (k : Nat) (all : List (Int × Int)), k ≤ e.length ∧ i = .int .i64 k ∧ goB rs [] (e.take k) = .ok all ∧ Blk wr ga 43 (cellsS (padS e.length all)).toArray ∧ Below w.heap.size w wr) (fun i _ => e.length - (intOf i).toNat)
      case atStart => exact ⟨0, [], Nat.zero_le _, rfl, rfl, hga, hb04⟩
      case round =>
        clear hga hb04
        obtain ⟨k, all, hk, rfl, hgo', hga, hbr⟩ := hrel
        have hal : all.length = k := by
          have := go_len _ _ _ hgo'
          simp at this
          omega
        have HGO := hide hgo'
        have HAL := hide hal
        have HGA := hide hga
        have HBR := hide hbr
        have hgal := hga.lt
        have hwr := hbr.size
        clear hgo' hal hga hbr
        by_cases hlt : k < e.length
        · obtain ⟨be, offe, K, kc, rfl, hbe, x0, x1, x2, x3, hKd⟩ := (HE.out.below HBR.out).at_ hlt
          have hnk := HNOD.out k hlt
          have hxn : (nodAt e k).name.size ≤ maxLen := HEN.out _ (List.mem_of_getElem? (nodAt_get hlt))
          have HST := hide (fun (s : Int × Int) (hs : stepB rs all (nodAt e k) = .ok s) => goB_next hlt HGO.out hs)
          have HER := hide (fun (r : Int) (hs : stepB rs all (nodAt e k) = .error r) => HBE.out r (goB_stop hlt HGO.out hs))
          have HOD := hide (go_ord HV.out (e.take k) [] all (fun s hs => absurd hs List.not_mem_nil) (fun y hy => by
            obtain ⟨i, hi, rfl⟩ := List.getElem_of_mem (List.mem_of_mem_take hy)
            have := HNOD.out i hi
            rw [← nodAt_get' hi] at this
            exact formed_ok this.1) HGO.out)
          generalize nodAt e k = x at x0 x1 x2 x3 hKd hnk hxn HST HER
          have HF := hide hnk.1
          have HKI := hide hnk.2
          have HKD := hide hKd
          have hB5 : Blk (wr.alloc (Obj.cells #[.int .i64 x.op, .int .i64 x.n, .string x.name, .slice K x.kids.length kc] 42)) wr.heap.size 42 #[.int .i64 x.op, .int .i64 x.n, .string x.name, .slice K x.kids.length kc] := Blk.new _ _ _
          have hb5 : Below wr.heap.size wr (wr.alloc (Obj.cells #[.int .i64 x.op, .int .i64 x.n, .string x.name, .slice K x.kids.length kc] 42)) := (Below.refl _ _).alloc (Nat.le_refl _) _
          clear hnk hKd
          go_upto_region 8 with (fail)
          generalize wr.alloc (Obj.cells #[.int .i64 x.op, .int .i64 x.n, .string x.name, .slice K x.kids.length kc] 42) = w5 at hB5 hb5 ⊢
          obtain ⟨c0, c1, c2', c3, _, _, _, _⟩ := blk4 hB5
          have HNB := hide hB5
          have HGA5 := hide (HGA.out.below hb5 hgal)
          have HKD5 : Hid (RI w5 w.heap.size K x.kids.length x.kids) := hide (HKD.out.below (hb5.mono hwr))
          have HB5 := hide (HBR.out.trans (hb5.mono hwr))
          have HR5 := hide (HR.out.below HB5.out)
          have hl5 := hb5.size
          have hnl := hB5.lt
          clear x0 x1 x2 x3 HGA HKD hb5 hB5 HBR
          generalize wr.heap.size = nb at hnl hl5 hgal hwr c0 c1 c2' c3 HNB ⊢
          obtain ⟨s0, s1⟩ := HGA5.out.spanAt_ (i := k) (by rw [padS_len (by rw [HAL.out]; exact hk)]; exact hlt)
          have fa0 := HGA5.out.frozen (k * 2)
          have fa1 := HGA5.out.frozen (k * 2 + 1)
          have HSET : Hid (∀ (s : Int × Int) (wq : World), Blk wq ga 43 (cellsS (padS e.length all)).toArray → Blk ((wq.setCell ⟨ga, k * 2, none⟩ (.int .i64 s.1)).setCell ⟨ga, k * 2 + 1, none⟩ (.int .i64 s.2)) ga 43 (cellsS (padS e.length (all ++ [s]))).toArray) := hide (fun s wq hq => by
            have r6 := hq.setSpan k s
            rw [← HAL.out, padS_set (by rw [HAL.out]; exact hlt), HAL.out] at r6
            exact r6)
          by_cases h1 : x.op = 1
          · have hst : stepB rs all x = .ok (x.n, x.n) := by
              unfold stepB
              rw [if_pos h1]
            have HGN := hide (HST.out _ hst)
            rw [h1] at c0
            clear hst
            have R6 := hide (HSET.out (x.n, x.n) w5 HGA5.out)
            have B6 := hide ((HB5.out.setCell (p := ⟨ga, k * 2, none⟩) hwa (.int .i64 x.n)).setCell (p := ⟨ga, k * 2 + 1, none⟩) hwa (.int .i64 x.n))
            go_wp2
            go_roundw
            case rel => exact ⟨k + 1, all ++ [(x.n, x.n)], by omega, by go_num, HGN.out, R6.out, B6.out⟩
            case measure => simp [intOf]; omega
          · by_cases h2 : x.op = 2
            · have hst : stepB rs all x = match lookJ rs x.name n2 with | some s => .ok s | none => .error 7 := by
                rw [← HLN.out, lookJ_eq HV.out x.name]
                unfold stepB
                rw [if_neg h1, if_pos h2]
                cases look rs x.name <;> rfl
              have HST2 := hide hst
              rw [h2] at c0
              clear hst h2 h1
              go_upto_region 23 with (fail)
              clear s0 s1 fa0 fa1 c0 c1 c2' c3
              go_loopw [10, 11] (fun f i wq => ∃ q : Nat, q ≤ n2 ∧ i = .int .i64 q ∧ f = .bool (lookJ rs x.name q).isSome ∧ Blk wq ga 43 (cellsS (padS e.length (all ++ [(lookJ rs x.name q).getD (0, 0)]))).toArray ∧
                Blk wq nb 42 #[.int .i64 x.op, .int .i64 x.n, .string x.name, .slice K x.kids.length kc] ∧ Below w.heap.size w wq) (fun _ i _ => n2 - (intOf i).toNat)
              case atStart =>
                refine ⟨0, Nat.zero_le _, rfl, rfl, ?_, HNB.out, HB5.out⟩
                have := HGA5.out
                rw [padS_zero (by rw [HAL.out]; exact hlt)] at this
                exact this
              case round =>
                obtain ⟨q, hq, rfl, rfl, hgq, hnq, hbq⟩ := hrel
                have HGQ := hide hgq
                have HNQ := hide hnq
                have HBQ := hide hbq
                have hgql := hgq.lt
                have e2 : wr.cell? ⟨nb, 2, none⟩ = some (.string x.name) := hnq.cell 2
                clear hgq hnq hbq
                by_cases hq2 : q < n2
                · obtain ⟨br, offr, rfl, hbr, z0, z1, z2⟩ := (HR.out.below HBQ.out).at_ hq2
                  have HLK : Hid (lookJ rs x.name (q + 1) = if (rngAt rs q).name = x.name then some ((rngAt rs q).low, (rngAt rs q).high) else lookJ rs x.name q) := rfl
                  generalize rngAt rs q = r at z0 z1 z2 HLK
                  by_cases hn : r.name = x.name
                  · rw [hn] at z0
                    rw [if_pos hn] at HLK
                    obtain ⟨t0, t1⟩ := HGQ.out.spanAt_ (i := k) (by rw [padS_len (by rw [List.length_append, HAL.out]; exact hlt)]; exact hlt)
                    have ft0 := HGQ.out.frozen (k * 2)
                    have ft1 := HGQ.out.frozen (k * 2 + 1)
                    generalize (padS e.length (all ++ [(lookJ rs x.name q).getD (0, 0)])).getD k (0, 0) = sp at t0 t1
                    obtain ⟨sp0, sp1⟩ := sp
                    dsimp only at t0 t1
                    have R7 : Hid (∀ wq : World, Blk wq ga 43 (cellsS (padS e.length (all ++ [(lookJ rs x.name q).getD (0, 0)]))).toArray → Blk ((wq.setCell ⟨ga, k * 2, none⟩ (.int .i64 r.low)).setCell ⟨ga, k * 2 + 1, none⟩ (.int .i64 r.high)) ga 43 (cellsS (padS e.length (all ++ [(r.low, r.high)]))).toArray) := hide (fun wq h => by
                      have r6 := h.setSpan k (r.low, r.high)
                      rw [← HAL.out, padS_reset (by rw [HAL.out]; exact hlt), HAL.out] at r6
                      exact r6)
                    obtain ⟨o, ho⟩ : ∃ o, lookJ rs x.name q = o := ⟨_, rfl⟩
                    rw [ho] at HGQ R7 ⊢
                    clear ho hn
                    go_upto_region 25 with (fail)
                    go_quiet (fail)
                    have HGD := hide (HGQ.out.drewN nq)
                    have HND := hide (HNQ.out.drewN nq)
                    have HBD := hide (below_drewN HBQ.out nq)
                    have z1' : (wr.drewN nq).cell? ⟨br, offr + q * 3 + 1, none⟩ = some (.int .i64 r.low) := z1
                    have z2' : (wr.drewN nq).cell? ⟨br, offr + q * 3 + 2, none⟩ = some (.int .i64 r.high) := z2
                    have t0' : (wr.drewN nq).cell? ⟨ga, k * 2, none⟩ = some (.int .i64 sp0) := t0
                    have t1' : (wr.drewN nq).cell? ⟨ga, k * 2 + 1, none⟩ = some (.int .i64 sp1) := t1
                    have ft0' : (wr.drewN nq).frozen? ⟨ga, k * 2, none⟩ = false := ft0
                    have ft1' : (wr.drewN nq).frozen? ⟨ga, k * 2 + 1, none⟩ = false := ft1
                    generalize wr.drewN nq = w6 at HGD HND HBD z1' z2' t0' t1' ft0' ft1' ⊢
                    clear z0 z1 z2 t0 t1 ft0 ft1 e2 HGQ HNQ HBQ
                    go_upto_region 26 with (fail)
                    go_still_tail 14, (by kernel_rfl)
                    change wpList _ _ _ _ _ w6.drew
                    have HG7 := hide (R7.out _ HGD.out.drew)
                    have HN7 := hide (((HND.out.drew.far (p := ⟨ga, k * 2, none⟩) (by show nb ≠ ga; omega) (.int .i64 r.low)).far (p := ⟨ga, k * 2 + 1, none⟩) (by show nb ≠ ga; omega) (.int .i64 r.high)))
                    have HB7 := hide ((HBD.out.drew.setCell (p := ⟨ga, k * 2, none⟩) hwa (.int .i64 r.low)).setCell (p := ⟨ga, k * 2 + 1, none⟩) hwa (.int .i64 r.high))
                    have t0 : w6.drew.cell? ⟨ga, k * 2, none⟩ = some (.int .i64 sp0) := t0'
                    have t1 : w6.drew.cell? ⟨ga, k * 2 + 1, none⟩ = some (.int .i64 sp1) := t1'
                    have ft0 : w6.drew.frozen? ⟨ga, k * 2, none⟩ = false := ft0'
                    have ft1 : w6.drew.frozen? ⟨ga, k * 2 + 1, none⟩ = false := ft1'
                    generalize w6.drew = w7 at HG7 HN7 HB7 t0 t1 ft0 ft1 ⊢
                    clear t0' t1' ft0' ft1' z1' z2' HGD HND HBD R7
                    go_upto_region 27 with (fail)
                    generalize (w7.setCell ⟨ga, k * 2, none⟩ (.int .i64 r.low)).setCell ⟨ga, k * 2 + 1, none⟩ (.int .i64 r.high) = w8 at HG7 HN7 HB7 ⊢
                    clear t0 t1 ft0 ft1
                    go_wp2
                    go_roundw
                    case rel => exact ⟨q + 1, by omega, by go_num, by rw [HLK.out]; rfl, by rw [HLK.out]; exact HG7.out, HN7.out, HB7.out⟩
                    case measure => simp [intOf]; omega
                  · have hn' := bytes_ne hn
                    rw [if_neg hn] at HLK
                    obtain ⟨o, ho⟩ : ∃ o, lookJ rs x.name q = o := ⟨_, rfl⟩
                    rw [ho] at HGQ HLK ⊢
                    clear ho
                    go_upto_region 25 with (fail)
                    go_quiet (fail)
                    go_wp2
                    go_roundw
                    case rel => exact ⟨q + 1, by omega, by go_num, by rw [HLK.out], by rw [HLK.out]; exact HGQ.out.drewN nq, HNQ.out.drewN nq, below_drewN HBQ.out nq⟩
                    case measure => simp [intOf]; omega
                · obtain rfl : q = n2 := by omega
                  cases hl : lookJ rs x.name q with
                  | none =>
                    rw [hl] at HST2
                    have HRS := hide (HER.out 7 HST2.out)
                    clear hl
                    go_wp2
                    go_ret3
                    rw [← HRS.out]
                    exact ⟨rfl, HBQ.out⟩
                  | some s =>
                    rw [hl] at HST2 HGQ
                    have HGN := hide (HST.out s HST2.out)
                    clear hl
                    go_wp2
                    go_roundw
                    case rel => exact ⟨k + 1, all ++ [s], by omega, by go_num, HGN.out, HGQ.out, HBQ.out⟩
                    case measure => simp [intOf]; omega
            · have hok := formed_ok HF.out
              have hop : 3 ≤ x.op ∧ x.op ≤ 12 := ⟨by have := hok.1; omega, hok.2.1⟩
              have h1' : (x.op == 1) = false := beq_eq_false_iff_ne.2 h1
              have h2' : (x.op == 2) = false := beq_eq_false_iff_ne.2 h2
              have hk3 := formed_kids HF.out
              have HOP := hide hop
              have hw5 : w.heap.size ≤ w5.heap.size := HB5.out.size
              clear hok hop h1 h2
              go_upto_region 11 with (fail)
              clear s0 s1 fa0 fa1 c0 c1 c2'
              go_loopw [12, 13] (fun v i wq => ∃ (j : Nat) (A3 : Option Addr) (c3 : Nat), j ≤ x.kids.length ∧ i = .int .i64 j ∧ v = .slice A3 j c3 ∧ Own wq w5.heap.size 43 2 A3 j c3 (cellsS ((x.kids.take j).map (spanAt all))) ∧ Below w5.heap.size w5 wq) (fun _ i _ => x.kids.length - (intOf i).toNat)
              case atStart => exact ⟨0, none, 0, Nat.zero_le _, rfl, rfl, Own.nil _ _ _ _, Below.refl _ _⟩
              case round =>
                obtain ⟨j, A3, c3v, hj, rfl, rfl, hown, hbq⟩ := hrel
                have HBQ := hide hbq
                have lq := hbq.size
                have hnbq := HNB.out.below hbq hnl
                have e3 : wr.cell? ⟨nb, 3, none⟩ = some (.slice K x.kids.length kc) := hnbq.cell 3
                by_cases hjl : j < x.kids.length
                · obtain ⟨bk, offk, rfl, hbk, gk⟩ := HKD5.out.at_ (k := j) hjl
                  have hkm : nth x.kids j ∈ x.kids := nth_mem hjl
                  have hkb := HKI.out _ hkm
                  obtain ⟨q, hq⟩ := Int.eq_ofNat_of_zero_le hkb.1
                  rw [hq] at gk hkb
                  have hqk : q < k := by omega
                  have HT : Hid ((x.kids.take (j + 1)).map (spanAt all) = (x.kids.take j).map (spanAt all) ++ [all.getD q (0, 0)]) := by
                    show _ = _
                    rw [nth_take hjl, List.map_append, hq]
                    rfl
                  have g0 : wr.cell? ⟨bk, offk + j, none⟩ = some (.int .i64 (q : Int)) := (hbq.cell (p := ⟨bk, offk + j, none⟩) (by show bk < _; omega)).trans gk
                  obtain ⟨a0, a1⟩ := (HGA5.out.below hbq (by omega)).spanAt_ (i := q) (by rw [padS_len (by rw [HAL.out]; exact hk)]; omega)
                  rw [padS_get (by rw [HAL.out]; exact hqk)] at a0 a1
                  generalize all.getD q (0, 0) = sq at a0 a1 HT
                  obtain ⟨sq1, sq2⟩ := sq
                  dsimp only at a0 a1 HT
                  have hqe : q < e.length := by omega
                  have HO7 := hide (hown.alloc (Obj.cells #[.int .i64 sq1, .int .i64 sq2] 43))
                  have RR : Hid (Reads (wr.alloc (Obj.cells #[.int .i64 sq1, .int .i64 sq2] 43)) (wr.heap.size + 1) 2 (some ⟨wr.heap.size, 0, none⟩) 1 (cellsS [(sq1, sq2)])) := hide (reads_new wr #[.int .i64 sq1, .int .i64 sq2] 43 2 1 rfl)
                  have HB7 : Hid (Below w5.heap.size w5 (wr.alloc (Obj.cells #[.int .i64 sq1, .int .i64 sq2] 43))) := hide (hbq.alloc lq _)
                  have l7 : w5.heap.size ≤ (wr.alloc (Obj.cells #[.int .i64 sq1, .int .i64 sq2] 43)).heap.size := by simp; omega
                  clear hown hkm hkb hq gk hbq hnbq
                  go_upto_region 12 with ((
                    refine wpList_app rfl (.tmp 45) (.tmp 54) 48 rfl w5.heap.size 43 (.agg #[.int .i64 0, .int .i64 0]) 2 16 Tryz.underlying48 pair_info rfl (by omega) A3 j c3v _ rfl HO7.out _ _ 1 _ _ rfl RR.out (cellsS_one _) (by unfold maxLen; omega) (by omega) l7 ?_
                    intro A8 c8 w8 hown8 hbel8 _
                    rw [← cellsS_append', ← HT.out] at hown8
                    have HO8 := hide hown8
                    have HB8 := hide (HB7.out.trans hbel8)
                    clear hown8 hbel8))
                  go_wp2
                  go_roundw
                  case rel => exact ⟨j + 1, A8, c8, by omega, by go_num, rfl, HO8.out, HB8.out⟩
                  case measure => simp [intOf]; omega
                · obtain rfl : j = x.kids.length := by omega
                  rw [List.take_length] at hown
                  have hrs : RSp wr wr.heap.size A3 x.kids.length (x.kids.map (spanAt all)) := hown.reads
                  have hsp := spans_snoc HOD.out
                  have hne := cand_ne (op := x.op) (z := spanAt all (kidAt x 2)) (hsp.1 (kidAt x 0)) (hsp.1 (kidAt x 1)) HOP.out
                  have HC := hide (refNodeS_any x.op A3 x.kids.length c3v (x.kids.map (spanAt all)) wr hrs (fun s hs => by
                    obtain ⟨i, _, rfl⟩ := List.mem_map.1 hs
                    exact hsp.2 i) (by rw [List.length_map]; exact formed_ops HF.out) HOP.out)
                  rw [cand_kids HF.out HOP.out, grow_hull hne] at HC
                  have HST2 : Hid (stepB rs all x = if (decide ((nodeR x.op (spanAt all (kidAt x 0)) (spanAt all (kidAt x 1)) (spanAt all (kidAt x 2))).1 < -1000000000000) || decide (1000000000000 < (nodeR x.op (spanAt all (kidAt x 0)) (spanAt all (kidAt x 1)) (spanAt all (kidAt x 2))).2)) = true then .error 9
                    else .ok (nodeR x.op (spanAt all (kidAt x 0)) (spanAt all (kidAt x 1)) (spanAt all (kidAt x 2)))) := hide (step_R hsp.1 hsp.2 HOP.out)
                  have HC2 : Hid (Calls Tryz.prog 25 #[.int .i64 x.op, .slice A3 x.kids.length c3v] wr fun e w' => e = .returned (.agg #[.int .i64 (nodeR x.op (spanAt all (kidAt x 0)) (spanAt all (kidAt x 1)) (spanAt all (kidAt x 2))).1, .int .i64 (nodeR x.op (spanAt all (kidAt x 0)) (spanAt all (kidAt x 1)) (spanAt all (kidAt x 2))).2, .bool true]) ∧ Below wr.heap.size wr w') := HC
                  generalize nodeR x.op (spanAt all (kidAt x 0)) (spanAt all (kidAt x 1)) (spanAt all (kidAt x 2)) = r at HST2 HC2
                  obtain ⟨r1, r2⟩ := r
                  dsimp only at HST2 HC2
                  have e0 : wr.cell? ⟨nb, 0, none⟩ = some (.int .i64 x.op) := hnbq.cell 0
                  have HGA6 := hide (HGA5.out.below hbq (by omega))
                  have HB6 := hide (HB5.out.trans (hbq.mono hw5))
                  have hz6 : ga < wr.heap.size := by omega
                  clear hown hrs hsp hne HC hbq hnbq
                  go_wp2_with fail
                  refine HC2.out.mono ?_
                  rintro en w7 ⟨rfl, hb7⟩
                  have HGA7 := hide (HGA6.out.below hb7 hz6)
                  have HB7 := hide (HB6.out.trans (hb7.mono HB6.out.size))
                  have hz7 := hb7.size
                  have hB8 := Blk.new w7 52 #[.int .i64 r1, .int .i64 r2, .bool true]
                  have hb8 : Below w7.heap.size w7 (w7.alloc (Obj.cells #[.int .i64 r1, .int .i64 r2, .bool true] 52)) := (Below.refl _ _).alloc (Nat.le_refl _) _
                  clear hb7 e0 e3 HC2 HGA6 HB6 HBQ
                  go_upto_region 15 with (fail)
                  generalize w7.alloc (Obj.cells #[.int .i64 r1, .int .i64 r2, .bool true] 52) = w8 at hB8 hb8 ⊢
                  have HGA8 := hide (HGA7.out.below hb8 HGA7.out.lt)
                  have HB8 := hide (HB7.out.trans (hb8.mono HB7.out.size))
                  have p0 : w8.cell? ⟨w7.heap.size, 0, none⟩ = some (.int .i64 r1) := hB8.cell 0
                  have p1 : w8.cell? ⟨w7.heap.size, 1, none⟩ = some (.int .i64 r2) := hB8.cell 1
                  clear hB8 hb8 HGA7 HB7
                  cases y1 : decide (r1 < -1000000000000)
                  · cases y2 : decide (1000000000000 < r2)
                    · rw [y1, y2, if_neg (by decide)] at HST2
                      have HGN := hide (HST.out _ HST2.out)
                      obtain ⟨t0, t1⟩ := HGA8.out.spanAt_ (i := k) (by rw [padS_len (by rw [HAL.out]; exact hk)]; exact hlt)
                      have ft0 := HGA8.out.frozen (k * 2)
                      have ft1 := HGA8.out.frozen (k * 2 + 1)
                      generalize (padS e.length all).getD k (0, 0) = sp at t0 t1
                      obtain ⟨sp0, sp1⟩ := sp
                      dsimp only at t0 t1
                      have R9 := hide (HSET.out (r1, r2) w8 HGA8.out)
                      have B9 := hide ((HB8.out.setCell (p := ⟨ga, k * 2, none⟩) hwa (.int .i64 r1)).setCell (p := ⟨ga, k * 2 + 1, none⟩) hwa (.int .i64 r2))
                      go_wp2
                      go_roundw
                      case rel => exact ⟨k + 1, all ++ [(r1, r2)], by omega, by go_num, HGN.out, R9.out, B9.out⟩
                      case measure => simp [intOf]; omega
                    · rw [y1, y2, if_pos (by decide)] at HST2
                      have HRS := hide (HER.out 9 HST2.out)
                      go_wp2
                      go_ret3
                      rw [← HRS.out]
                      exact ⟨rfl, HB8.out⟩
                  · rw [y1, if_pos (by rfl)] at HST2
                    have HRS := hide (HER.out 9 HST2.out)
                    go_wp2
                    go_ret3
                    rw [← HRS.out]
                    exact ⟨rfl, HB8.out⟩
        · obtain rfl : k = e.length := by omega
          obtain ⟨m, hm⟩ : ∃ m, m = e.length - 1 := ⟨_, rfl⟩
          have hmi : (e.length : Int) - 1 = (m : Int) := by omega
          have hml : m < e.length := by omega
          obtain ⟨s0, s1⟩ := HGA.out.spanAt_ (i := m) (by rw [padS_len (by rw [HAL.out]; exact hk)]; exact hml)
          rw [padS_get (by rw [HAL.out]; exact hml)] at s0 s1
          have hg := HGO.out
          rw [List.take_length] at hg
          have HRS : Hid (((all.getD m (0, 0)).1, (all.getD m (0, 0)).2, 0) = res) := by
            show _ = _
            rw [← HRES.out]
            unfold boundsL
            rw [if_neg (by rw [HV.out, HV2.out]; simp), hg]
            unfold spanAt
            rw [show ((e.length : Int) - 1).toNat = m from by omega]
          generalize all.getD m (0, 0) = sr at s0 s1 HRS
          obtain ⟨sr1, sr2⟩ := sr
          dsimp only at s0 s1 HRS
          clear hm hg HRES
          go_upto_region 30 with (fail)
          go_quiet (fail)
          go_wp2
          go_ret3
          rw [← HRS.out]
          exact ⟨rfl, below_drewN HBR.out nq⟩
end Go.Proofs.YtnlcfbaaomdjdaaGreatDoor
