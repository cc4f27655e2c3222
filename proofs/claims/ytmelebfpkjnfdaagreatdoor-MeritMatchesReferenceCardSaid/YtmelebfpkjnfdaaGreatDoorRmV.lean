/-
  Chapter 23: the reference's Valid and Eval.
-/
import Derived.Test.YtmelebfpkjnfdaaGreatDoorRmA
import Derived.Test.YtmelebfpkjnfdaaGreatDoorNmR
import Derived.Test.YtmelebfpkjnfdaaGreatDoorRefN
import Derived.Test.YtmelebfpkjnfdaaGreatDoorMeE
set_option linter.unusedVariables false
set_option linter.unusedSimpArgs false
namespace Go.Proofs.YtmelebfpkjnfdaaGreatDoor
open Go.RowKit Go.Deep Go.Maps

theorem hasV_take {l : List Vr} {k j : Nat} {t : ByteArray} (hj : j < k) (hk : k ≤ l.length) (h : (vrAt l j).name = t) : hasV (l.take k) t = true := by
  unfold hasV
  rw [List.any_eq_true]
  refine ⟨vrAt l j, List.mem_of_getElem? (i := j) (by rw [List.getElem?_take, if_pos hj]; exact vrAt_get (by omega)), decide_eq_true h⟩
theorem hasV_none {l : List Vr} {k : Nat} {t : ByteArray} (hk : k ≤ l.length) (h : ∀ j < k, (vrAt l j).name ≠ t) : hasV (l.take k) t = false := by
  apply hasV_of
  intro v hv hn
  obtain ⟨j, hj, rfl⟩ := List.getElem_of_mem hv
  have hj2 : j < k := by rw [List.length_take] at hj; omega
  rw [List.getElem_take] at hn
  have := h j hj2
  unfold vrAt at this
  rw [List.getD_eq_getElem?_getD, List.getElem?_eq_getElem (by omega)] at this
  exact this hn
set_option maxHeartbeats 4000000 in
set_option maxRecDepth 20000 in
theorem refVars_any (A : Option Addr) (n c : Nat) (l : List Vr) (w : World) (hl : RVr w w.heap.size A n l) (hn : n ≤ maxLen) (hm : ∀ r ∈ l, r.name.size ≤ maxLen) :
    Calls Tryz.prog 32 #[.slice A n c] w fun e w' => e = .returned (.bool (validVs l)) ∧ Below w.heap.size w w' := by
  unfold maxLen at hn
  have HL := hide hl
  have HM := hide hm
  have HLN := hide hl.len
  have b0 : Below w.heap.size w w := Below.refl _ _
  clear hl hm
  go_enter Tryz.func32, Tryz.ntmps32
  go_wp2
  go_loopw [3] (fun i wr => ∃ k : Nat, k ≤ n ∧ i = .int .i64 k ∧ (∀ j, j < k → hasV (l.take j) (vrAt l j).name = false ∧ okV (vrAt l j) = true) ∧ Below w.heap.size w wr) (fun i _ => n - (intOf i).toNat)
  case atStart => exact ⟨0, Nat.zero_le _, rfl, fun j hj => absurd hj (Nat.not_lt_zero _), b0⟩
  case round =>
    clear b0
    obtain ⟨k, hk, rfl, hv, hbr⟩ := hrel
    have HV := hide hv
    have HB := hide hbr
    clear hv hbr
    obtain ⟨wo, hwo⟩ : ∃ wo : World, wo = wr := ⟨_, rfl⟩
    subst hwo
    by_cases hlt : k < n
    · have hkl : k < l.length := by rw [HLN.out]; exact hlt
      obtain ⟨b, off, rfl, hb, g0, g1⟩ := (HL.out.next HB.out).at_ hlt
      have hnm : (vrAt l k).name.size ≤ maxLen := HM.out _ (List.mem_of_getElem? (vrAt_get hkl))
      have HEQ : Hid (∀ j < k, ∃ b' off', wo.cell? ⟨b', off' + j * 2, none⟩ = some (.string (vrAt l j).name) ∧ b' = b ∧ off' = off) := by
        intro j hj
        obtain ⟨b', off', hA', hb', y0, -⟩ := (HL.out.next HB.out).at_ (i := j) (show j < n by omega)
        injection hA' with hA'
        injection hA' with h1 h2
        exact ⟨b', off', y0, h1.symm, h2.symm⟩
      have HBAD := hide (fun h : hasV (l.take k) (vrAt l k).name = true ∨ okV (vrAt l k) = false => validVs_bad hkl h)
      have HOK : Hid (okV (vrAt l k) = (nameB (vrAt l k).name && !(decide ((vrAt l k).val < -1000000000000) || decide (1000000000000 < (vrAt l k).val)))) := rfl
      have HGO : Hid (hasV (l.take k) (vrAt l k).name = false → okV (vrAt l k) = true → ∀ j, j < k + 1 → hasV (l.take j) (vrAt l j).name = false ∧ okV (vrAt l j) = true) := hide (fun h1 h2 j hj => by
        by_cases hjk : j < k
        · exact HV.out j hjk
        · obtain rfl : j = k := by omega
          exact ⟨h1, h2⟩)
      generalize vrAt l k = r at g0 g1 hnm HBAD HOK HGO
      have HN := hide (refName_any r.name wo hnm)
      cases e1 : nameB r.name
      · rw [e1] at HN HOK
        have HF : Hid (validVs l = false) := hide (HBAD.out (.inr (by rw [HOK.out]; rfl)))
        go_wp2_with fail
        refine HN.out.mono ?_
        rintro en w' ⟨rfl, rfl⟩
        go_wp2
        go_ret
        exact ⟨by rw [HF.out]; rfl, HB.out⟩
      · rw [e1] at HN HOK
        cases e2 : decide (r.val < -1000000000000)
        · rw [e2] at HOK
          cases e3 : decide (1000000000000 < r.val)
          · rw [e3] at HOK
            go_wp2_with fail
            refine HN.out.mono ?_
            rintro en w' ⟨rfl, rfl⟩
            have q0 : wo.cell? ⟨b, off + k * 2, none⟩ = some (.string r.name) := g0
            have HEQ2 : Hid (∀ j < k, ∃ b' off', wo.cell? ⟨b', off' + j * 2, none⟩ = some (.string (vrAt l j).name) ∧ b' = b ∧ off' = off) := HEQ
            have HB2 := hide HB.out
            clear HEQ HB HN
            go_wp2
            go_loopw [4] (fun i wr => ∃ j : Nat, j ≤ k ∧ i = .int .i64 j ∧ (∀ x < j, (vrAt l x).name ≠ r.name) ∧ ∃ m, wr = wo.drewN m) (fun i _ => k - (intOf i).toNat)
            case atStart => exact ⟨0, Nat.zero_le _, rfl, fun x hx => absurd hx (by omega), 0, rfl⟩
            case round =>
              obtain ⟨j, hj, rfl, hall, m, hwm⟩ := hrel
              have HA := hide hall
              have HW := hide hwm
              have p0 : wr.cell? ⟨b, off + k * 2, none⟩ = some (.string r.name) := by rw [hwm]; exact q0
              have HBW : Hid (Below w.heap.size w wr) := by show _; rw [hwm]; exact below_drewN HB2.out m
              clear hall hwm
              by_cases hjk : j < k
              · obtain ⟨b', off', y0', rfl, rfl⟩ := HEQ2.out j hjk
                have y0 : wr.cell? ⟨b', off' + j * 2, none⟩ = some (.string (vrAt l j).name) := by rw [HW.out]; exact y0'
                have HJ : Hid ((vrAt l j).name = r.name → validVs l = false) := fun h => HBAD.out (.inl (hasV_take hjk (by omega) h))
                have HK : Hid ((vrAt l j).name ≠ r.name → ∀ x < j + 1, (vrAt l x).name ≠ r.name) := fun h x hx => by
                  by_cases hxj : x < j
                  · exact HA.out x hxj
                  · obtain rfl : x = j := by omega
                    exact h
                clear y0'
                generalize (vrAt l j).name = t at y0 HJ HK
                by_cases ht : t = r.name
                · have HF := hide (HJ.out ht)
                  rw [ht] at y0
                  go_upto_region 9 with (fail)
                  go_quiet (fail)
                  go_wp2
                  go_ret
                  exact ⟨by rw [HF.out]; rfl, below_drewN HBW.out _⟩
                · have HX := hide (HK.out ht)
                  have ht' := bytes_ne ht
                  go_upto_region 9 with (fail)
                  go_quiet (fail)
                  go_wp2
                  go_roundw
                  case rel => exact ⟨j + 1, by omega, by go_num, HX.out, m + nq, by rw [HW.out, World.drewN_drewN]⟩
                  case measure => simp [intOf]; omega
              · obtain rfl : j = k := by omega
                have HN2 := hide (hasV_none (l := l) (t := r.name) (Nat.le_of_lt hkl) HA.out)
                go_wp2
                go_roundw
                case rel => exact ⟨j + 1, by omega, by go_num, HGO.out HN2.out (by rw [HOK.out]; rfl), HBW.out⟩
                case measure => simp [intOf]; omega
          · rw [e3] at HOK
            have HF : Hid (validVs l = false) := hide (HBAD.out (.inr (by rw [HOK.out]; rfl)))
            go_wp2_with fail
            refine HN.out.mono ?_
            rintro en w' ⟨rfl, rfl⟩
            go_wp2
            go_ret
            exact ⟨by rw [HF.out]; rfl, HB.out⟩
        · rw [e2] at HOK
          have HF : Hid (validVs l = false) := hide (HBAD.out (.inr (by rw [HOK.out]; rfl)))
          go_wp2_with fail
          refine HN.out.mono ?_
          rintro en w' ⟨rfl, rfl⟩
          go_wp2
          go_ret
          exact ⟨by rw [HF.out]; rfl, HB.out⟩
    · obtain rfl : k = n := by omega
      have HF : Hid (validVs l = true) := validVs_good fun j hj => HV.out j (by rw [← HLN.out]; exact hj)
      go_wp2
      go_ret
      exact ⟨by rw [HF.out]; rfl, HB.out⟩

/-- The reference's apply, at operands of its own row. -/
theorem refApplyAll_any {x : Nod} (hf : formedL x = true) (h3 : 3 ≤ x.op) (A : Option Addr) (c base : Nat) (zs : List Int) (w : World) (ho : Own w base 3 1 A x.kids.length c (ints zs)) (hz : ∀ i, inB (zs.getD i 0)) :
    Calls Tryz.prog 42 #[.int .i64 x.op, .slice A x.kids.length c] w fun e w' => e = .returned (.int .i64 (applyR x.op (zs.getD 0 0) (zs.getD 1 0) (zs.getD 2 0))) ∧ ∃ q, w' = w.drewN q := by
  have hl : zs.length = x.kids.length := by
    have := ho.len
    rw [ints_length] at this
    omega
  have hk := formed_k hf
  have hok := (formed_ok hf).2.1
  have hok1 := (formed_ok hf).1
  have h300 := formed_kids hf
  unfold operands at hk
  rw [if_neg (by omega)] at hk
  have hpos : 0 < x.kids.length := by
    by_cases e12 : x.op = 12
    · rw [if_pos e12] at hk; omega
    · rw [if_neg e12] at hk
      by_cases e9 : x.op = 9
      · rw [if_pos e9] at hk; omega
      · rw [if_neg e9, if_pos (by omega)] at hk; omega
  obtain ⟨g, cap, hv, hgb, hlt⟩ := World.ownsRow.form ho hpos
  injection hv with hA _ hc
  subst hA
  have hcell := (World.ownsRow.cells ho (g := g) rfl)
  have hat : ∀ i, i < x.kids.length → w.cell? ⟨g, i, none⟩ = some (.int .i64 (zs.getD i 0)) := fun i hi => by
    have h1 := ints_get (xs := zs) (k := i) (by omega)
    have h2 := hcell i _ h1
    rwa [add_lit, Nat.zero_add] at h2
  have hnil : ∀ i, x.kids.length ≤ i → zs.getD i 0 = 0 := fun i hi => by
    rw [List.getD_eq_getElem?_getD, List.getElem?_eq_none (by omega)]
    rfl
  by_cases e12 : x.op = 12
  · rw [if_pos e12] at hk
    have hk1 : x.kids.length = 1 := by omega
    rw [hnil 1 (by omega), hnil 2 (by omega), e12]
    exact refApplyNeg_any _ g _ c w (by omega) (by omega) (hz 0) (hat 0 (by omega))
  · rw [if_neg e12] at hk
    by_cases e9 : x.op = 9
    · rw [if_pos e9] at hk
      rw [e9]
      exact refApplyIf_any _ _ _ g _ c w (by omega) (by omega) (hat 0 (by omega)) (hat 1 (by omega)) (hat 2 (by omega))
    · rw [if_neg e9, if_pos (by omega)] at hk
      rw [hnil 2 (by omega)]
      have hk2 : 2 ≤ x.kids.length := by omega
      by_cases e5 : x.op = 5
      · rw [e5]
        exact refApplyMul_any _ _ g _ c w hk2 (by omega) (hz 0) (hz 1) (hat 0 (by omega)) (hat 1 (by omega))
      · by_cases e6 : x.op = 6
        · rw [e6]
          exact refApplyDiv_any _ _ g _ c w hk2 (by omega) (hz 0) (hat 0 (by omega)) (hat 1 (by omega))
        · by_cases e10 : x.op = 10 ∨ x.op = 11
          · exact refApplyCmp_any _ _ _ g _ c w e10 hk2 (by omega) (hat 0 (by omega)) (hat 1 (by omega))
          · exact refApply2_any _ _ _ g _ c w (by omega) hk2 (by omega) (hz 0) (hz 1) (hat 0 (by omega)) (hat 1 (by omega))

theorem sigV_step {l : List Vr} (hv : validVs l = true) {j : Nat} (hj : j < l.length) (t : ByteArray) : sigV (l.take (j + 1)) t = if (vrAt l j).name = t then some (vrAt l j).val else sigV (l.take j) t := by
  rw [vr_take hj, sigV_snoc]
  by_cases h : (vrAt l j).name = t
  · rw [if_pos h, if_pos h]
    have := (validVs_out hv j hj).1
    rw [h] at this
    rw [sigV_none this]
  · rw [if_neg h, if_neg h]
    cases sigV (l.take j) t <;> rfl
end Go.Proofs.YtmelebfpkjnfdaaGreatDoor
