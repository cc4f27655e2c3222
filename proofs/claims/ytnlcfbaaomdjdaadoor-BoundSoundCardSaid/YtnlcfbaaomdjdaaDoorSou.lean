/-
  Chapter 22, BoundSound: the walk.
-/
import Derived.Test.YtnlcfbaaomdjdaaDoorSouP
import Derived.Test.YtnlcfbaaomdjdaaDoorNar
import Derived.Test.YtnlcfbaaomdjdaaDoorEv
import Derived.Test.YtnlcfbaaomdjdaaDoorLiftK
set_option linter.unusedVariables false
set_option linter.unusedSimpArgs false
namespace Go.Proofs.YtnlcfbaaomdjdaaDoor
open Go.RowKit Go.Deep Go.Maps

/-- The values of the first j ranges. -/
def valsL (l : List Rng) (raw : List Int) (j : Nat) : List Int := (List.range j).map fun i => valueL (rngAt l i) (raw.getD i 0)
theorem valsL_next (l : List Rng) (raw : List Int) (j : Nat) : valsL l raw (j + 1) = valsL l raw j ++ [valueL (rngAt l j) (raw.getD j 0)] := by
  unfold valsL
  rw [List.range_succ, List.map_append]
  rfl
theorem valsL_len (l : List Rng) (raw : List Int) (j : Nat) : (valsL l raw j).length = j := by simp [valsL]
theorem valsL_in {l : List Rng} (hv : validRs l = true) (raw : List Int) : InR l (valsL l raw l.length) := by
  refine ⟨valsL_len _ _ _, fun j hj => ?_⟩
  unfold valsL
  rw [List.getD_eq_getElem?_getD, List.getElem?_map, List.getElem?_range hj]
  exact value_in (valid_mem hv (List.mem_of_getElem? (rngAt_get hj))).2.2.2
/-- Are the first j ranges single numbers? -/
def ptsL (l : List Rng) : Nat → Bool
  | 0 => true
  | j + 1 => ptsL l j && ((rngAt l j).low == (rngAt l j).high)
theorem ptsL_at {l : List Rng} : ∀ n, ptsL l n = true → ∀ j, j < n → (rngAt l j).low = (rngAt l j).high
  | 0, _, j, h => absurd h (by omega)
  | n + 1, h, j, hj => by
    unfold ptsL at h
    rw [Bool.and_eq_true, beq_iff_eq] at h
    by_cases hn : j < n
    · exact ptsL_at n h.1 j hn
    · obtain rfl : j = n := by omega
      exact h.2
theorem bounds_err {e : List Nod} {l : List Rng} {lo hi r : Int} (h : boundsL e l = (lo, hi, r)) (hr : r ≠ 0) : lo = 0 ∧ hi = 0 := by
  unfold boundsL at h
  split at h
  · injection h with h1 h
    injection h with h2 h
    exact ⟨h1.symm, h2.symm⟩
  · split at h
    · injection h with h1 h
      injection h with h2 h
      exact ⟨h1.symm, h2.symm⟩
    · injection h with h1 h
      injection h with h2 h
      exact absurd h.symm hr
theorem lawBeyond_is (n : Int) (w : World) (b : Bool) (h : beyondL n = b) : Calls Tryd.prog 11 #[.int .i64 n] w fun e w' => e = .returned (.bool b) ∧ w = w' := by
  have := lawBeyond_any n w
  rw [h] at this
  exact this

set_option maxHeartbeats 8000000 in
set_option maxRecDepth 20000 in
theorem sound_any (A : Option Addr) (c : Nat) (e : List Nod) (A2 : Option Addr) (n2 c2 : Nat) (l : List Rng) (A3 : Option Addr) (n3 c3 : Nat) (raw : List Int) (w : World)
    (he : ExprAt w w.heap.size A e) (hem : e.length ≤ maxLen) (hl : RRg w w.heap.size A2 n2 l) (hln : n2 ≤ maxLen) (hr : RK .u16 w w.heap.size A3 n3 raw) (hrw : ∀ x ∈ raw, 0 ≤ x ∧ x ≤ 65535)
    (hen : ∀ x ∈ e, x.name.size ≤ maxLen) (hrn : ∀ r ∈ l, r.name.size ≤ maxLen) (hkn : ∀ x ∈ e, x.kids.length ≤ maxLen) :
    Calls Tryd.prog 3 #[.slice A e.length c, .slice A2 n2 c2, .slice A3 n3 c3] w fun en w' => en = .returned (.bool true) ∧ Below w.heap.size w w' := by
  have HE := hide he
  have HL := hide hl
  have HR := hide hr
  have HEN := hide hen
  have HRN := hide hrn
  have HKN := hide hkn
  have HLN := hide hl.len
  have HRL := hide hr.len
  have HEM := hide hem
  have HLM := hide hln
  have HRW := hide hrw
  unfold maxLen at hem hln
  clear he hl hen hrn hkn hr hrw
  go_enter Tryd.func3, Tryd.ntmps3
  go_wp2_with fail
  refine (head_any w).mono ?_
  rintro en w1 ⟨rfl, hb1⟩
  have HE1 := hide (HE.out.next hb1)
  have HL1 := hide (HL.out.next hb1)
  go_wp2_with fail
  refine (few_any A c e A2 n2 c2 l w1 HE1.out HEM.out HL1.out HLM.out HEN.out HRN.out HKN.out).mono ?_
  rintro en w2 ⟨rfl, rfl⟩
  cases hfew : fewL e l
  · have HB1 := hide hb1
    clear hb1
    go_wp2
    go_ret
    exact ⟨rfl, HB1.out⟩
  · have HFW := hide hfew
    clear hfew
    go_wp2_with fail
    refine (bounds_any A c e A2 n2 c2 l w1 HE1.out HEN.out HEM.out HL1.out HLM.out HRN.out).mono ?_
    rintro en w2 ⟨rfl, hb2⟩
    have HE2 := hide (HE1.out.next hb2)
    have HL2 := hide (HL1.out.next hb2)
    have HR2 := hide ((HR.out.next hb1).next hb2)
    have HB2 := hide (hb1.trans (hb2.mono hb1.size))
    obtain ⟨res, hres⟩ : ∃ res, res = boundsL e l := ⟨_, rfl⟩
    rw [← hres]
    have HRES := hide hres.symm
    clear hb1 hb2 HE1 HL1 HE HL hres HR
    obtain ⟨lo, hi, err⟩ := res
    dsimp only
    by_cases herr : err = 0
    · subst herr
      have hv := (bounds_ok HRES.out).1
      have hlen12 : n2 ≤ 12 := by
        have := (few_out HFW.out).2.1
        have := HLN.out
        omega
      have HVL := hide hv
      clear hv
      go_wp2
      go_loopw [11, 12, 13] (fun v s i wr => ∃ (k : Nat) (A4 : Option Addr) (c4 : Nat), k ≤ n2 ∧ i = .int .i64 k ∧ s = .bool (ptsL l k) ∧ v = .slice A4 k c4 ∧ Own wr w2.heap.size 3 1 A4 k c4 (ints (valsL l raw k)) ∧ Below w2.heap.size w2 wr) (fun _ _ i _ => n2 - (intOf i).toNat)
      case atStart => exact ⟨0, none, 0, Nat.zero_le _, rfl, rfl, rfl, Own.nil _ _ _ _, Below.refl _ _⟩
      case round =>
        obtain ⟨k, A4, c4, hk, rfl, rfl, rfl, hown, hbr⟩ := hrel
        have HOW := hide hown
        have HBR := hide hbr
        clear hown hbr
        by_cases hlt : k < n2
        · obtain ⟨b, off, rfl, hb, g0, g1, g2⟩ := (HL2.out.below HBR.out).at_ hlt
          have HRV := hide (valid_mem HVL.out (List.mem_of_getElem? (rngAt_get (rs := l) (i := k) (by rw [HLN.out]; exact hlt))))
          have HPT : Hid (ptsL l (k + 1) = (ptsL l k && ((rngAt l k).low == (rngAt l k).high))) := rfl
          have HVN := hide (valsL_next l raw k)
          generalize rngAt l k = r at g0 g1 g2 HRV HPT HVN
          generalize ptsL l k = s at HPT ⊢
          obtain ⟨x, hx⟩ : ∃ x, x = raw.getD k 0 := ⟨_, rfl⟩
          have HXB : Hid (0 ≤ x ∧ x ≤ 65535) := hide (by
            rw [hx, List.getD_eq_getElem?_getD]
            by_cases h : k < raw.length
            · rw [List.getElem?_eq_getElem h]
              exact HRW.out _ (List.getElem_mem h)
            · rw [List.getElem?_eq_none (by omega)]
              simp)
          have HBL := hide (inB_beyond.2 HRV.out.2.1)
          have HBH := hide (inB_beyond.2 HRV.out.2.2.1)
          have d1 : decide (r.high < r.low) = false := decide_eq_false (by have := HRV.out.2.2.2; omega)
          have HX0 : Hid (¬ k < n3 → x = 0) := hide (fun h => by
            rw [hx, List.getD_eq_getElem?_getD, List.getElem?_eq_none (by rw [HRL.out]; omega)]
            rfl)
          have HX1 : Hid (nth raw k = x) := hide hx.symm
          rw [← hx] at HVN
          clear hx
          have HGO : Hid (∀ wq : World, Below w2.heap.size w2 wq → wq.cell? ⟨b, off + k * 3, none⟩ = some (.string r.name) ∧ wq.cell? ⟨b, off + k * 3 + 1, none⟩ = some (.int .i64 r.low) ∧ wq.cell? ⟨b, off + k * 3 + 2, none⟩ = some (.int .i64 r.high)) := hide (fun wq h => by
            have h2 := (HL2.out.below h).at_ hlt
            exact ⟨(h.cell (p := ⟨b, off + k * 3, none⟩) hb).trans ((HBR.out.cell (p := ⟨b, off + k * 3, none⟩) hb).symm.trans g0), (h.cell (p := ⟨b, off + k * 3 + 1, none⟩) hb).trans ((HBR.out.cell (p := ⟨b, off + k * 3 + 1, none⟩) hb).symm.trans g1), (h.cell (p := ⟨b, off + k * 3 + 2, none⟩) hb).trans ((HBR.out.cell (p := ⟨b, off + k * 3 + 2, none⟩) hb).symm.trans g2)⟩)
          rcases Decidable.em (k < n3) with hk3 | hk3
          · obtain ⟨b3, off3, rfl, hb3, gx⟩ := (RK.below HR2.out HBR.out).at_ hk3
            rw [HX1.out] at gx
            clear HX1 HX0
            go_upto_region 15 with (fail)
            go_quiet ((go_at_call 11; first | exact quiet_left (lawBeyond_is _ _ _ HBL.out) | exact quiet_left (lawBeyond_is _ _ _ HBH.out)))
            have HO5 : Hid (Own (wr.drewN nq) w2.heap.size 3 1 A4 k c4 (ints (valsL l raw k))) := hide (HOW.out.drewN nq)
            have HB5 := hide (below_drewN HBR.out nq)
            obtain ⟨w5, hw5⟩ : ∃ w5, w5 = wr.drewN nq := ⟨_, rfl⟩
            rw [← hw5] at HO5 HB5 ⊢
            clear hw5 HOW HBR
            obtain ⟨y0, y1, y2⟩ := HGO.out w5 HB5.out
            clear g0 g1 g2
            go_upto_region 18 with ((first
              | (go_at_call 12
                 refine (value_any r _ HXB.out HRV.out.2.1.1 HRV.out.2.2.1.2 HRV.out.2.2.2 w5).mono ?_
                 rintro en w6 ⟨rfl, hb6⟩
                 have HO6 := hide (HO5.out.below hb6)
                 have HB6 := hide (HB5.out.trans (hb6.mono HB5.out.size))
                 clear hb6)
              | (at_builtin
                 refine wpList_app rfl (.tmp 82) (.tmp 89) _ rfl w2.heap.size 3 (.int .i64 0) 1 8 Tryd.underlying31 int_info rfl (by omega) A4 k c4 _ rfl (HO6.out.alloc _) (w6.heap.size + 1) (some ⟨w6.heap.size, 0, none⟩) 1 1 (ints [valueL r _]) rfl (reads_new w6 #[.int .i64 (valueL r _)] 3 1 1 rfl) (ints_oneCell _) (by unfold maxLen; omega) (by omega) (by have := HB6.out.size; rw [World.size_alloc]; omega) ?_
                 intro A7 c7 w7 hown7 hbw7 _
                 rw [← ints_append, ← HVN.out] at hown7
                 have HO7 := hide hown7
                 have HB7 := hide ((HB6.out.alloc HB6.out.size _).trans hbw7)
                 clear hown7 hbw7)))
            obtain ⟨z0, z1, z2⟩ := HGO.out w7 HB7.out
            clear y0 y1 y2
            cases s
            · go_quiet (fail)
              go_wp2
              go_roundw
              case rel => exact ⟨k + 1, A7, c7, by omega, by go_num, by rw [HPT.out]; rfl, rfl, HO7.out.drewN nq, below_drewN HB7.out nq⟩
              case measure => simp [intOf]; omega
            · cases hd : (r.low == r.high)
              all_goals
                go_quiet (fail)
                go_wp2
                go_roundw
                case rel => exact ⟨k + 1, A7, c7, by omega, by go_num, by rw [HPT.out, hd]; rfl, rfl, HO7.out.drewN nq, below_drewN HB7.out nq⟩
                case measure => simp [intOf]; omega
          · have hx0 := HX0.out hk3
            subst hx0
            clear HX1 HX0
            go_upto_region 15 with (fail)
            go_quiet ((go_at_call 11; first | exact quiet_left (lawBeyond_is _ _ _ HBL.out) | exact quiet_left (lawBeyond_is _ _ _ HBH.out)))
            have HO5 : Hid (Own (wr.drewN nq) w2.heap.size 3 1 A4 k c4 (ints (valsL l raw k))) := hide (HOW.out.drewN nq)
            have HB5 := hide (below_drewN HBR.out nq)
            obtain ⟨w5, hw5⟩ : ∃ w5, w5 = wr.drewN nq := ⟨_, rfl⟩
            rw [← hw5] at HO5 HB5 ⊢
            clear hw5 HOW HBR
            obtain ⟨y0, y1, y2⟩ := HGO.out w5 HB5.out
            clear g0 g1 g2
            go_upto_region 18 with ((first
              | (go_at_call 12
                 refine (value_any r _ HXB.out HRV.out.2.1.1 HRV.out.2.2.1.2 HRV.out.2.2.2 w5).mono ?_
                 rintro en w6 ⟨rfl, hb6⟩
                 have HO6 := hide (HO5.out.below hb6)
                 have HB6 := hide (HB5.out.trans (hb6.mono HB5.out.size))
                 clear hb6)
              | (at_builtin
                 refine wpList_app rfl (.tmp 82) (.tmp 89) _ rfl w2.heap.size 3 (.int .i64 0) 1 8 Tryd.underlying31 int_info rfl (by omega) A4 k c4 _ rfl (HO6.out.alloc _) (w6.heap.size + 1) (some ⟨w6.heap.size, 0, none⟩) 1 1 (ints [valueL r _]) rfl (reads_new w6 #[.int .i64 (valueL r _)] 3 1 1 rfl) (ints_oneCell _) (by unfold maxLen; omega) (by omega) (by have := HB6.out.size; rw [World.size_alloc]; omega) ?_
                 intro A7 c7 w7 hown7 hbw7 _
                 rw [← ints_append, ← HVN.out] at hown7
                 have HO7 := hide hown7
                 have HB7 := hide ((HB6.out.alloc HB6.out.size _).trans hbw7)
                 clear hown7 hbw7)))
            obtain ⟨z0, z1, z2⟩ := HGO.out w7 HB7.out
            clear y0 y1 y2
            cases s
            · go_quiet (fail)
              go_wp2
              go_roundw
              case rel => exact ⟨k + 1, A7, c7, by omega, by go_num, by rw [HPT.out]; rfl, rfl, HO7.out.drewN nq, below_drewN HB7.out nq⟩
              case measure => simp [intOf]; omega
            · cases hd : (r.low == r.high)
              all_goals
                go_quiet (fail)
                go_wp2
                go_roundw
                case rel => exact ⟨k + 1, A7, c7, by omega, by go_num, by rw [HPT.out, hd]; rfl, rfl, HO7.out.drewN nq, below_drewN HB7.out nq⟩
                case measure => simp [intOf]; omega
        · obtain rfl : k = n2 := by omega
          have HIN := hide (valsL_in HVL.out raw)
          rw [HLN.out] at HIN
          obtain ⟨v, hv1, hv2, hv3⟩ := sound_plain HRES.out HIN.out
          have HEV := hide hv1
          have d2 : decide (lo ≤ v) = true := decide_eq_true hv2
          have d3 : decide (v ≤ hi) = true := decide_eq_true hv3
          have HPT := hide (fun h : ptsL l k = true => points_plain HRES.out (fun j hj => ptsL_at k h j (by rw [← HLN.out]; exact hj)))
          have HND := hide (valid_nodes (bounds_ok HRES.out).2.1)
          have HEB := hide ((HE2.out.below HBR.out).more HBR.out.size)
          have HLB := hide ((HL2.out.below HBR.out).more HBR.out.size)
          have HBW := hide (HB2.out.trans (HBR.out.mono HB2.out.size))
          have HRI := hide (Own.ri HOW.out)
          generalize valsL l raw k = xs at HEV HRI HIN HOW ⊢
          generalize ptsL l k = s at HPT ⊢
          clear hv1 hv2 hv3 HIN HOW HBR HB2 HE2 HL2 HR2 HRES
          go_wp2_with fail
          refine (eval_any A c e A2 k c2 l A4 k c4 xs wr HEB.out HEN.out HND.out.2.1 HLB.out HLM.out HRN.out HRI.out HLM.out HND.out.2.2).mono ?_
          rintro en w5 ⟨rfl, hb5⟩
          rw [HEV.out]
          have HB5 := hide (HBW.out.trans (hb5.mono HBW.out.size))
          clear hb5
          cases s
          · go_wp2
            go_ret
            exact ⟨rfl, HB5.out⟩
          · have d4 : (lo == hi) = true := beq_iff_eq.2 (HPT.out rfl)
            go_wp2
            go_ret
            exact ⟨rfl, HB5.out⟩
    · have herr' : (err != 0) = true := bne_iff_ne.2 herr
      obtain ⟨rfl, rfl⟩ := bounds_err HRES.out herr
      go_wp2
      go_ret
      exact ⟨rfl, HB2.out⟩
theorem sound_walk (A : Option Addr) (c : Nat) (e : List Nod) (A2 : Option Addr) (n2 c2 : Nat) (l : List Rng) (A3 : Option Addr) (n3 c3 : Nat) (raw : List Int) (w : World) (w0 : ExprAt w w.heap.size A e) (m0 : e.length ≤ maxLen)
    (b0 : ∀ x ∈ e, x.name.size ≤ maxLen ∧ x.kids.length ≤ maxLen ∧ (Lit.int .i64 x.op).wf = true ∧ (Lit.int .i64 x.n).wf = true ∧ ∀ k ∈ x.kids, (Lit.int .i64 k).wf = true) (w1 : RRg w w.heap.size A2 n2 l) (m1 : n2 ≤ maxLen)
    (b1 : ∀ r ∈ l, r.name.size ≤ maxLen ∧ (Lit.int .i64 r.low).wf = true ∧ (Lit.int .i64 r.high).wf = true) (w2 : RK .u16 w w.heap.size A3 n3 raw) (m2 : n3 ≤ maxLen) (b2 : ∀ z ∈ raw, (Lit.int .u16 z).wf = true) :
    Calls Tryd.prog 3 #[.slice A e.length c, .slice A2 n2 c2, .slice A3 n3 c3] w fun en w' => en = .returned (.bool true) ∧ Below w.heap.size w w' :=
  sound_any A c e A2 n2 c2 l A3 n3 c3 raw w w0 m0 w1 m1 w2 (fun z hz => u16_in (b2 z hz)) (fun x hx => (b0 x hx).1) (fun r hr => (b1 r hr).1) (fun x hx => (b0 x hx).2.1)
end Go.Proofs.YtnlcfbaaomdjdaaDoor
