/-
  Chapter 22: the reference's 'Valid' of ranges.
-/
import Derived.Test.YtnlcfbaaomdjdaaGreatDoorNmR
import Derived.Test.YtnlcfbaaomdjdaaGreatDoorFewA
set_option linter.unusedVariables false
set_option linter.unusedSimpArgs false
namespace Go.Proofs.YtnlcfbaaomdjdaaGreatDoor
open Go.RowKit Go.Deep Go.Maps

theorem distinct_prefix : ∀ l m : List Rng, distinctR (l ++ m) = true → distinctR l = true
  | [], _, _ => rfl
  | r :: l, m, h => by
    rw [List.cons_append] at h
    unfold distinctR at h ⊢
    rw [Bool.and_eq_true, List.all_append, Bool.and_eq_true] at h
    rw [distinct_prefix l m h.1, h.2.1]
    rfl
theorem valid_prefix {l : List Rng} {k : Nat} {r : Rng} (h : l.take (k + 1) = l.take k ++ [r]) (hd : hasR (l.take k) r.name = true) : validRs l = false := by
  rw [valid_split]
  cases hx : distinctR l
  · simp
  · rw [← List.take_append_drop (k + 1) l] at hx
    have := distinct_prefix _ _ hx
    rw [h, distinct_snoc, hd] at this
    simp at this
theorem okR_eq (r : Rng) : okR r = (nameB r.name && !decide (r.low < -MB) && !decide (MB < r.high) && decide (r.low ≤ r.high)) := by
  unfold okR beyondL
  by_cases h : r.low ≤ r.high
  · rw [decide_eq_true h]
    by_cases h1 : r.low < -MB
    · rw [decide_eq_true h1]; simp
    · rw [decide_eq_false h1]
      by_cases h2 : MB < r.high
      · rw [decide_eq_true h2]; simp
      · rw [decide_eq_false h2, decide_eq_false (show ¬ (MB < r.low) by omega), decide_eq_false (show ¬ (r.high < -MB) by omega)]
        rfl
  · rw [decide_eq_false h]; simp
theorem has_take {l : List Rng} {k j : Nat} {t : ByteArray} (hj : j < k) (hk : k ≤ l.length) (h : (rngAt l j).name = t) : hasR (l.take k) t = true := by
  unfold hasR
  rw [List.any_eq_true]
  refine ⟨rngAt l j, List.mem_of_getElem? (i := j) (by rw [List.getElem?_take, if_pos hj]; exact rngAt_get (by omega)), by rw [h]; simp⟩
theorem has_not {l : List Rng} {k : Nat} {t : ByteArray} (hk : k ≤ l.length) (h : ∀ j < k, (rngAt l j).name ≠ t) : hasR (l.take k) t = false := by
  cases hh : hasR (l.take k) t
  · rfl
  · unfold hasR at hh
    obtain ⟨x, hx, hy⟩ := List.any_eq_true.1 hh
    obtain ⟨j, hj, rfl⟩ := List.getElem_of_mem hx
    have hj2 : j < k := by rw [List.length_take] at hj; omega
    rw [List.getElem_take] at hy
    have := h j hj2
    unfold rngAt at this
    rw [List.getD_eq_getElem?_getD, List.getElem?_eq_getElem (by omega)] at this
    exact absurd (of_decide_eq_true hy) this
set_option maxHeartbeats 4000000 in
set_option maxRecDepth 20000 in
theorem refValid_any (A : Option Addr) (n c : Nat) (l : List Rng) (w : World) (hl : RRg w w.heap.size A n l) (hn : n ≤ maxLen) (hm : ∀ r ∈ l, r.name.size ≤ maxLen) :
    Calls Tryz.prog 24 #[.slice A n c] w fun e w' => e = .returned (.bool (validRs l)) ∧ Below w.heap.size w w' := by
  unfold maxLen at hn
  have HL := hide hl
  have HM := hide hm
  have HLN := hide hl.len
  have b0 : Below w.heap.size w w := Below.refl _ _
  clear hl hm
  go_enter Tryz.func24, Tryz.ntmps24
  go_wp2
  go_loopw [3] (fun i wr => ∃ k : Nat, k ≤ n ∧ i = .int .i64 k ∧ validRs (l.take k) = true ∧ Below w.heap.size w wr) (fun i _ => n - (intOf i).toNat)
  case atStart => exact ⟨0, Nat.zero_le _, rfl, rfl, b0⟩
  case round =>
    clear b0
    obtain ⟨k, hk, rfl, hv, hbr⟩ := hrel
    have HV := hide hv
    have HB := hide hbr
    clear hv hbr
    obtain ⟨wo, hwo⟩ : ∃ wo : World, wo = wr := ⟨_, rfl⟩
    subst hwo
    by_cases hlt : k < n
    · have hkl : k < l.length := by rw [HLN.out]; exact hlt
      obtain ⟨b, off, rfl, hb, g0, g1, g2⟩ := (HL.out.next HB.out).at_ hlt
      have HT := hide (rng_take (rs := l) (i := k) hkl)
      have hnm : (rngAt l k).name.size ≤ maxLen := HM.out _ (List.mem_of_getElem? (rngAt_get hkl))
      have HEQ : Hid (∀ j < k, ∃ b' off', wo.cell? ⟨b', off' + j * 3, none⟩ = some (.string (rngAt l j).name) ∧ b' = b ∧ off' = off) := by
        intro j hj
        obtain ⟨b', off', hA', hb', y0, -, -⟩ := (HL.out.next HB.out).at_ (i := j) (show j < n by omega)
        injection hA' with hA'
        injection hA' with h1 h2
        exact ⟨b', off', y0, h1.symm, h2.symm⟩
      obtain ⟨r, hr⟩ : ∃ r, r = rngAt l k := ⟨_, rfl⟩
      rw [← hr] at g0 g1 g2 HT hnm
      have HR := hide hr
      clear hr
      have HOK : Hid (okR r = (nameB r.name && !decide (r.low < -1000000000000) && !decide (1000000000000 < r.high) && decide (r.low ≤ r.high))) := okR_eq r
      cases e1 : nameB r.name
      · have HN := hide (fun m => (refName_any r.name (wo.drewN m) hnm : Calls _ _ _ _ _))
        rw [e1] at HN HOK
        have HF : Hid (validRs l = false) := hide (valid_false HT.out (by rw [HOK.out]; rfl))
        go_upto_region 4 with (fail)
        go_quiet ((go_at_call 36; exact quiet_left (HN.out _)))
        go_wp2
        go_ret
        exact ⟨by rw [HF.out]; rfl, below_drewN HB.out _⟩
      · have HN := hide (fun m => (refName_any r.name (wo.drewN m) hnm : Calls _ _ _ _ _))
        rw [e1] at HN HOK
        cases e2 : decide (r.low < -1000000000000)
        · rw [e2] at HOK
          cases e3 : decide (1000000000000 < r.high)
          · rw [e3] at HOK
            by_cases h4 : r.low ≤ r.high
            · have e4 : decide (r.high < r.low) = false := decide_eq_false (by omega)
              rw [decide_eq_true h4] at HOK
              go_upto_region 4 with (fail)
              go_quiet ((go_at_call 36; exact quiet_left (HN.out _)))
              have q0 : (wo.drewN nq).cell? ⟨b, off + k * 3, none⟩ = some (.string r.name) := g0
              have HEQ2 : Hid (∀ j < k, ∃ b' off', (wo.drewN nq).cell? ⟨b', off' + j * 3, none⟩ = some (.string (rngAt l j).name) ∧ b' = b ∧ off' = off) := HEQ
              have HB2 := hide (below_drewN HB.out nq)
              clear g0 g1 g2 HEQ HB HN
              generalize wo.drewN nq = w1 at q0 HEQ2 HB2 ⊢
              go_wp2
              go_loopw [4] (fun i wr => ∃ j : Nat, j ≤ k ∧ i = .int .i64 j ∧ (∀ x < j, (rngAt l x).name ≠ r.name) ∧ ∃ m, wr = w1.drewN m) (fun i _ => k - (intOf i).toNat)
              case atStart => exact ⟨0, Nat.zero_le _, rfl, fun x hx => absurd hx (by omega), 0, rfl⟩
              case round =>
                obtain ⟨j, hj, rfl, hall, m, hwm⟩ := hrel
                have HA := hide hall
                have HW := hide hwm
                have p0 : wr.cell? ⟨b, off + k * 3, none⟩ = some (.string r.name) := by rw [hwm]; exact q0
                have HBW : Hid (Below w.heap.size w wr) := by show _; rw [hwm]; exact below_drewN HB2.out m
                clear hall hwm
                by_cases hjk : j < k
                · obtain ⟨b', off', y0', rfl, rfl⟩ := HEQ2.out j hjk
                  have y0 : wr.cell? ⟨b', off' + j * 3, none⟩ = some (.string (rngAt l j).name) := by rw [HW.out]; exact y0'
                  have HJ : Hid ((rngAt l j).name = r.name → validRs l = false) := fun h => valid_prefix HT.out (has_take hjk (by omega) h)
                  have HK : Hid ((rngAt l j).name ≠ r.name → ∀ x < j + 1, (rngAt l x).name ≠ r.name) := fun h x hx => by
                    by_cases hxj : x < j
                    · exact HA.out x hxj
                    · obtain rfl : x = j := by omega
                      exact h
                  clear y0'
                  generalize (rngAt l j).name = t at y0 HJ HK
                  by_cases ht : t = r.name
                  · have HF := hide (HJ.out ht)
                    rw [ht] at y0
                    go_upto_region 9 with (fail)
                    go_quiet (fail)
                    go_wp2
                    go_ret
                    exact ⟨by rw [HF.out]; rfl, below_drewN HBW.out _⟩
                  · have HX := hide (HK.out ht)
                    have ht' := bytes_ne ht
                    go_upto_region 9 with (fail)
                    go_quiet (fail)
                    go_wp2
                    go_roundw
                    case rel => exact ⟨j + 1, by omega, by go_num, HX.out, m + nq, by rw [HW.out, World.drewN_drewN]⟩
                    case measure => simp [intOf]; omega
                · obtain rfl : j = k := by omega
                  have HN2 := hide (has_not (l := l) (t := r.name) (Nat.le_of_lt hkl) HA.out)
                  go_wp2
                  go_roundw
                  case rel =>
                    refine ⟨j + 1, by omega, by go_num, ?_, HBW.out⟩
                    have hv := HV.out
                    rw [valid_split, Bool.and_eq_true] at hv
                    rw [HT.out, valid_split, List.all_append, distinct_snoc, HN2.out, hv.1, hv.2, List.all_cons, HOK.out]
                    rfl
                  case measure => simp [intOf]; omega
            · have e4 : decide (r.high < r.low) = true := decide_eq_true (by omega)
              rw [decide_eq_false h4] at HOK
              have HF : Hid (validRs l = false) := hide (valid_false HT.out (by rw [HOK.out]; rfl))
              go_upto_region 4 with (fail)
              go_quiet ((go_at_call 36; exact quiet_left (HN.out _)))
              go_wp2
              go_ret
              exact ⟨by rw [HF.out]; rfl, below_drewN HB.out _⟩
          · rw [e3] at HOK
            have HF : Hid (validRs l = false) := hide (valid_false HT.out (by rw [HOK.out]; rfl))
            go_upto_region 4 with (fail)
            go_quiet ((go_at_call 36; exact quiet_left (HN.out _)))
            go_wp2
            go_ret
            exact ⟨by rw [HF.out]; rfl, below_drewN HB.out _⟩
        · rw [e2] at HOK
          have HF : Hid (validRs l = false) := hide (valid_false HT.out (by rw [HOK.out]; rfl))
          go_upto_region 4 with (fail)
          go_quiet ((go_at_call 36; exact quiet_left (HN.out _)))
          go_wp2
          go_ret
          exact ⟨by rw [HF.out]; rfl, below_drewN HB.out _⟩
    · obtain rfl : k = n := by omega
      have HF : Hid (validRs l = true) := by
        have := HV.out
        rw [List.take_of_length_le (by rw [HLN.out]; omega)] at this
        exact this
      go_wp2
      go_ret
      exact ⟨by rw [HF.out]; rfl, HB.out⟩
end Go.Proofs.YtnlcfbaaomdjdaaGreatDoor
