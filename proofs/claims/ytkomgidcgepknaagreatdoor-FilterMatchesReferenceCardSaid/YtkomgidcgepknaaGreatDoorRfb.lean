/-
  Chapter 23: the reference's Eval.
-/
import Derived.Test.YtkomgidcgepknaaGreatDoorTools
import Derived.Test.YtkomgidcgepknaaGreatDoorNameP
import Derived.Lib.Strings
import Derived.Test.YtkomgidcgepknaaGreatDoorParP
import Derived.Test.YtkomgidcgepknaaGreatDoorRfa
import Derived.Test.YtkomgidcgepknaaGreatDoorBndP
import Derived.Test.YtkomgidcgepknaaGreatDoorNodA
import Derived.Test.YtkomgidcgepknaaGreatDoorExpL
import Derived.ArgAppend
import Derived.Test.YtkomgidcgepknaaGreatDoorBnds
import Derived.Test.YtkomgidcgepknaaGreatDoorMeA
import Derived.Test.YtkomgidcgepknaaGreatDoorMeB
import Derived.Test.YtkomgidcgepknaaGreatDoorMeE
set_option linter.unusedVariables false
set_option linter.unusedSimpArgs false
namespace Go.Proofs.YtkomgidcgepknaaGreatDoor
open Go.RowKit Go.Deep Go.Maps

set_option maxHeartbeats 1000000 in
theorem letter_any (n : Nat) (hn : n < 256) (w : World) : Calls Tryz.prog 140 #[.int .u8 n] w fun e w' => e = .returned (.bool (isLetter n)) ∧ w = w' := by
  have HB : Hid (isLetter n = ((decide (97 ≤ n) && decide (n ≤ 122)) || (decide (65 ≤ n) && decide (n ≤ 90)))) := rfl
  cases e1 : decide (97 ≤ n) <;> cases e2 : decide (n ≤ 122) <;> cases e3 : decide (65 ≤ n) <;> cases e4 : decide (n ≤ 90)
  all_goals
    rw [e1, e2, e3, e4] at HB
    have g1 : decide ((97 : Int) ≤ (n : Int)) = _ := (decide_eq_decide.2 (by omega)).trans e1
    have g2 : decide ((n : Int) ≤ 122) = _ := (decide_eq_decide.2 (by omega)).trans e2
    have g3 : decide ((65 : Int) ≤ (n : Int)) = _ := (decide_eq_decide.2 (by omega)).trans e3
    have g4 : decide ((n : Int) ≤ 90) = _ := (decide_eq_decide.2 (by omega)).trans e4
    go_enter Tryz.func140, Tryz.ntmps140
    go_wp2
    go_ret
    exact ⟨by rw [HB.out]; rfl, rfl⟩
set_option maxHeartbeats 1000000 in
theorem digit_any (n : Nat) (hn : n < 256) (w : World) : Calls Tryz.prog 171 #[.int .u8 n] w fun e w' => e = .returned (.bool (isDigit n)) ∧ w = w' := by
  have HB : Hid (isDigit n = (decide (48 ≤ n) && decide (n ≤ 57))) := rfl
  cases e1 : decide (48 ≤ n) <;> cases e2 : decide (n ≤ 57)
  all_goals
    rw [e1, e2] at HB
    have g1 : decide ((48 : Int) ≤ (n : Int)) = _ := (decide_eq_decide.2 (by omega)).trans e1
    have g2 : decide ((n : Int) ≤ 57) = _ := (decide_eq_decide.2 (by omega)).trans e2
    go_enter Tryz.func171, Tryz.ntmps171
    go_wp2
    go_ret
    exact ⟨by rw [HB.out]; rfl, rfl⟩
set_option maxHeartbeats 1000000 in
theorem word_any (n : Nat) (hn : n < 256) (w : World) : Calls Tryz.prog 139 #[.int .u8 n] w fun e w' => e = .returned (.bool (isWord n)) ∧ w = w' := by
  have HB : Hid (isWord n = (isLetter n || isDigit n || (n == 95))) := rfl
  have HL := hide (letter_any n hn w)
  have HD := hide (digit_any n hn w)
  cases e1 : isLetter n
  · cases e2 : isDigit n
    · cases e3 : (n == 95)
      all_goals
        rw [e1, e2, e3] at HB
        rw [e1] at HL
        rw [e2] at HD
        have g3 : decide (n = 95) = _ := (by rw [Bool.eq_iff_iff]; simp : decide (n = 95) = (n == 95)).trans e3
        have g4 : ((n : Int) == 95) = _ := (by rw [Bool.eq_iff_iff]; simp; omega : ((n : Int) == 95) = decide (n = 95)).trans g3
        go_enter Tryz.func139, Tryz.ntmps139
        go_wp2_with fail
        refine HL.out.mono ?_
        rintro en w' ⟨rfl, rfl⟩
        go_wp2_with fail
        refine HD.out.mono ?_
        rintro en w' ⟨rfl, rfl⟩
        go_wp2
        go_ret
        exact ⟨by rw [HB.out]; rfl, rfl⟩
    · rw [e1, e2] at HB
      rw [e1] at HL
      rw [e2] at HD
      go_enter Tryz.func139, Tryz.ntmps139
      go_wp2_with fail
      refine HL.out.mono ?_
      rintro en w' ⟨rfl, rfl⟩
      go_wp2_with fail
      refine HD.out.mono ?_
      rintro en w' ⟨rfl, rfl⟩
      go_wp2
      go_ret
      exact ⟨by rw [HB.out]; simp, rfl⟩
  · rw [e1] at HB
    rw [e1] at HL
    go_enter Tryz.func139, Tryz.ntmps139
    go_wp2_with fail
    refine HL.out.mono ?_
    rintro en w' ⟨rfl, rfl⟩
    go_wp2
    go_ret
    exact ⟨by rw [HB.out]; simp, rfl⟩

open Go.RowKit Go.Deep Go.Maps

theorem all_range {p : Nat → Bool} {n : Nat} : ((List.range n).all p = true) ↔ ∀ i < n, p i = true := by
  rw [List.all_eq_true]
  exact ⟨fun h i hi => h i (List.mem_range.2 hi), fun h i hi => h i (List.mem_range.1 hi)⟩
theorem name_bad {s : ByteArray} {i : Nat} (hi : i < s.size) (h : isWord (bAt s i) = false) : nameB s = false := by
  unfold nameB
  cases ha : (List.range s.size).all fun i => isWord (bAt s i)
  · simp
  · have := all_range.1 ha i hi
    rw [h] at this
    cases this
theorem name_good {s : ByteArray} (h : ∀ i < s.size, isWord (bAt s i) = true) : nameB s = (decide (1 ≤ s.size) && decide (s.size ≤ 24) && isLetter (bAt s 0)) := by
  unfold nameB
  rw [all_range.2 h, Bool.and_true]
set_option maxHeartbeats 2000000 in
set_option maxRecDepth 20000 in
theorem refName_any (s : ByteArray) (w : World) (hs : s.size ≤ maxLen) : Calls Tryz.prog 90 #[.string s] w fun e w' => e = .returned (.bool (nameB s)) ∧ w = w' := by
  unfold maxLen at hs
  go_enter Tryz.func90, Tryz.ntmps90
  go_wp2
  go_loop [3] (fun i => ∃ k : Nat, k ≤ s.size ∧ i = .int .i64 k ∧ ∀ j < k, isWord (bAt s j) = true) (fun i => s.size - (intOf i).toNat)
  case atStart => exact ⟨0, Nat.zero_le _, rfl, fun j hj => absurd hj (by omega)⟩
  case round =>
    obtain ⟨k, hk, rfl, hall⟩ := hrel
    have HA := hide hall
    clear hall
    by_cases hlt : k < s.size
    · have hb : bAt s k = s[k].toNat := bAt_eq hlt
      have h256 : s[k].toNat < 256 := UInt8.toNat_lt _
      have HW := hide (word_any s[k].toNat h256 w)
      have HB := hide hb
      clear hb
      cases hw : isWord s[k].toNat
      · have HF := hide (name_bad hlt (by rw [HB.out]; exact hw))
        rw [hw] at HW
        go_wp2_with fail
        refine HW.out.mono ?_
        rintro en w' ⟨rfl, rfl⟩
        go_wp2
        go_ret
        exact ⟨by rw [HF.out]; rfl, rfl⟩
      · rw [hw] at HW
        go_wp2_with fail
        refine HW.out.mono ?_
        rintro en w' ⟨rfl, rfl⟩
        go_wp2
        go_round
        case rel =>
          refine ⟨k + 1, hlt, by go_num, fun j hj => ?_⟩
          by_cases hj2 : j < k
          · exact HA.out j hj2
          · obtain rfl : j = k := by omega
            rw [HB.out]
            exact hw
        case measure => simp [intOf]; omega
    · obtain rfl : k = s.size := by omega
      have HG := hide (name_good HA.out)
      clear HA
      cases e1 : decide (0 < s.size)
      · have HF : Hid (nameB s = false) := by
          show _ = _
          have : ¬ (1 ≤ s.size) := fun h => by have := of_decide_eq_false e1; omega
          rw [HG.out, decide_eq_false this]
          rfl
        have g1 : decide ((0 : Int) < (s.size : Int)) = false := (decide_eq_decide.2 (by omega)).trans e1
        go_wp2
        go_ret
        exact ⟨by rw [HF.out]; rfl, rfl⟩
      · have hpos : 0 < s.size := of_decide_eq_true e1
        have h1 : decide (1 ≤ s.size) = true := decide_eq_true (by omega)
        have g1 : decide ((0 : Int) < (s.size : Int)) = true := decide_eq_true (by omega)
        cases e2 : decide (s.size ≤ 24)
        · have HF : Hid (nameB s = false) := by
            show _ = _
            rw [HG.out, h1, e2]
            rfl
          have g2 : decide ((s.size : Int) ≤ 24) = false := (decide_eq_decide.2 (by omega)).trans e2
          clear h1
          go_wp2
          go_ret
          exact ⟨by rw [HF.out]; rfl, rfl⟩
        · have g2 : decide ((s.size : Int) ≤ 24) = true := (decide_eq_decide.2 (by omega)).trans e2
          have hb : bAt s 0 = s[0].toNat := bAt_eq hpos
          have HF : Hid (nameB s = isLetter s[0].toNat) := by
            show _ = _
            rw [HG.out, h1, e2, hb]
            rfl
          have HL := hide (letter_any s[0].toNat (UInt8.toNat_lt _) w)
          clear h1 hb
          go_wp2_with fail
          refine HL.out.mono ?_
          rintro en w' ⟨rfl, rfl⟩
          go_wp2
          go_ret
          exact ⟨by rw [HF.out]; rfl, rfl⟩
end Go.Proofs.YtkomgidcgepknaaGreatDoor

set_option linter.unusedVariables false
set_option linter.unusedSimpArgs false
namespace Go.Proofs.YtkomgidcgepknaaGreatDoor
open Go.RowKit Go.Deep Go.Maps

theorem distinct_prefix : ∀ l m : List Rng, distinctR (l ++ m) = true → distinctR l = true
  | [], _, _ => rfl
  | r :: l, m, h => by
    rw [List.cons_append] at h
    unfold distinctR at h ⊢
    rw [Bool.and_eq_true, List.all_append, Bool.and_eq_true] at h
    rw [distinct_prefix l m h.1, h.2.1]
    rfl
theorem valid_prefix {l : List Rng} {k : Nat} {r : Rng} (h : l.take (k + 1) = l.take k ++ [r]) (hd : hasR (l.take k) r.name = true) : validRs l = false := by
  rw [valid_split]
  cases hx : distinctR l
  · simp
  · rw [← List.take_append_drop (k + 1) l] at hx
    have := distinct_prefix _ _ hx
    rw [h, distinct_snoc, hd] at this
    simp at this
theorem okR_eq (r : Rng) : okR r = (nameB r.name && !decide (r.low < -MB) && !decide (MB < r.high) && decide (r.low ≤ r.high)) := by
  unfold okR beyondL
  by_cases h : r.low ≤ r.high
  · rw [decide_eq_true h]
    by_cases h1 : r.low < -MB
    · rw [decide_eq_true h1]; simp
    · rw [decide_eq_false h1]
      by_cases h2 : MB < r.high
      · rw [decide_eq_true h2]; simp
      · rw [decide_eq_false h2, decide_eq_false (show ¬ (MB < r.low) by omega), decide_eq_false (show ¬ (r.high < -MB) by omega)]
        rfl
  · rw [decide_eq_false h]; simp
theorem has_take {l : List Rng} {k j : Nat} {t : ByteArray} (hj : j < k) (hk : k ≤ l.length) (h : (rngAt l j).name = t) : hasR (l.take k) t = true := by
  unfold hasR
  rw [List.any_eq_true]
  refine ⟨rngAt l j, List.mem_of_getElem? (i := j) (by rw [List.getElem?_take, if_pos hj]; exact rngAt_get (by omega)), by rw [h]; simp⟩
theorem has_not {l : List Rng} {k : Nat} {t : ByteArray} (hk : k ≤ l.length) (h : ∀ j < k, (rngAt l j).name ≠ t) : hasR (l.take k) t = false := by
  cases hh : hasR (l.take k) t
  · rfl
  · unfold hasR at hh
    obtain ⟨x, hx, hy⟩ := List.any_eq_true.1 hh
    obtain ⟨j, hj, rfl⟩ := List.getElem_of_mem hx
    have hj2 : j < k := by rw [List.length_take] at hj; omega
    rw [List.getElem_take] at hy
    have := h j hj2
    unfold rngAt at this
    rw [List.getD_eq_getElem?_getD, List.getElem?_eq_getElem (by omega)] at this
    exact absurd (of_decide_eq_true hy) this
set_option maxHeartbeats 4000000 in
set_option maxRecDepth 20000 in
theorem refValid_any (A : Option Addr) (n c : Nat) (l : List Rng) (w : World) (hl : RRg w w.heap.size A n l) (hn : n ≤ maxLen) (hm : ∀ r ∈ l, r.name.size ≤ maxLen) :
    Calls Tryz.prog 105 #[.slice A n c] w fun e w' => e = .returned (.bool (validRs l)) ∧ Below w.heap.size w w' := by
  unfold maxLen at hn
  have HL := hide hl
  have HM := hide hm
  have HLN := hide hl.len
  have b0 : Below w.heap.size w w := Below.refl _ _
  clear hl hm
  go_enter Tryz.func105, Tryz.ntmps105
  go_wp2
  go_loopw [3] (fun i wr => ∃ k : Nat, k ≤ n ∧ i = .int .i64 k ∧ validRs (l.take k) = true ∧ Below w.heap.size w wr) (fun i _ => n - (intOf i).toNat)
  case atStart => exact ⟨0, Nat.zero_le _, rfl, rfl, b0⟩
  case round =>
    clear b0
    obtain ⟨k, hk, rfl, hv, hbr⟩ := hrel
    have HV := hide hv
    have HB := hide hbr
    clear hv hbr
    obtain ⟨wo, hwo⟩ : ∃ wo : World, wo = wr := ⟨_, rfl⟩
    subst hwo
    by_cases hlt : k < n
    · have hkl : k < l.length := by rw [HLN.out]; exact hlt
      obtain ⟨b, off, rfl, hb, g0, g1, g2⟩ := (HL.out.next HB.out).at_ hlt
      have HT := hide (rng_take (rs := l) (i := k) hkl)
      have hnm : (rngAt l k).name.size ≤ maxLen := HM.out _ (List.mem_of_getElem? (rngAt_get hkl))
      have HEQ : Hid (∀ j < k, ∃ b' off', wo.cell? ⟨b', off' + j * 3, none⟩ = some (.string (rngAt l j).name) ∧ b' = b ∧ off' = off) := by
        intro j hj
        obtain ⟨b', off', hA', hb', y0, -, -⟩ := (HL.out.next HB.out).at_ (i := j) (show j < n by omega)
        injection hA' with hA'
        injection hA' with h1 h2
        exact ⟨b', off', y0, h1.symm, h2.symm⟩
      obtain ⟨r, hr⟩ : ∃ r, r = rngAt l k := ⟨_, rfl⟩
      rw [← hr] at g0 g1 g2 HT hnm
      have HR := hide hr
      clear hr
      have HOK : Hid (okR r = (nameB r.name && !decide (r.low < -1000000000000) && !decide (1000000000000 < r.high) && decide (r.low ≤ r.high))) := okR_eq r
      cases e1 : nameB r.name
      · have HN := hide (fun m => (refName_any r.name (wo.drewN m) hnm : Calls _ _ _ _ _))
        rw [e1] at HN HOK
        have HF : Hid (validRs l = false) := hide (valid_false HT.out (by rw [HOK.out]; rfl))
        go_upto_region 4 with (fail)
        go_quiet ((go_at_call 90; exact quiet_left (HN.out _)))
        go_wp2
        go_ret
        exact ⟨by rw [HF.out]; rfl, below_drewN HB.out _⟩
      · have HN := hide (fun m => (refName_any r.name (wo.drewN m) hnm : Calls _ _ _ _ _))
        rw [e1] at HN HOK
        cases e2 : decide (r.low < -1000000000000)
        · rw [e2] at HOK
          cases e3 : decide (1000000000000 < r.high)
          · rw [e3] at HOK
            by_cases h4 : r.low ≤ r.high
            · have e4 : decide (r.high < r.low) = false := decide_eq_false (by omega)
              rw [decide_eq_true h4] at HOK
              go_upto_region 4 with (fail)
              go_quiet ((go_at_call 90; exact quiet_left (HN.out _)))
              have q0 : (wo.drewN nq).cell? ⟨b, off + k * 3, none⟩ = some (.string r.name) := g0
              have HEQ2 : Hid (∀ j < k, ∃ b' off', (wo.drewN nq).cell? ⟨b', off' + j * 3, none⟩ = some (.string (rngAt l j).name) ∧ b' = b ∧ off' = off) := HEQ
              have HB2 := hide (below_drewN HB.out nq)
              clear g0 g1 g2 HEQ HB HN
              generalize wo.drewN nq = w1 at q0 HEQ2 HB2 ⊢
              go_wp2
              go_loopw [4] (fun i wr => ∃ j : Nat, j ≤ k ∧ i = .int .i64 j ∧ (∀ x < j, (rngAt l x).name ≠ r.name) ∧ ∃ m, wr = w1.drewN m) (fun i _ => k - (intOf i).toNat)
              case atStart => exact ⟨0, Nat.zero_le _, rfl, fun x hx => absurd hx (by omega), 0, rfl⟩
              case round =>
                obtain ⟨j, hj, rfl, hall, m, hwm⟩ := hrel
                have HA := hide hall
                have HW := hide hwm
                have p0 : wr.cell? ⟨b, off + k * 3, none⟩ = some (.string r.name) := by rw [hwm]; exact q0
                have HBW : Hid (Below w.heap.size w wr) := by show _; rw [hwm]; exact below_drewN HB2.out m
                clear hall hwm
                by_cases hjk : j < k
                · obtain ⟨b', off', y0', rfl, rfl⟩ := HEQ2.out j hjk
                  have y0 : wr.cell? ⟨b', off' + j * 3, none⟩ = some (.string (rngAt l j).name) := by rw [HW.out]; exact y0'
                  have HJ : Hid ((rngAt l j).name = r.name → validRs l = false) := fun h => valid_prefix HT.out (has_take hjk (by omega) h)
                  have HK : Hid ((rngAt l j).name ≠ r.name → ∀ x < j + 1, (rngAt l x).name ≠ r.name) := fun h x hx => by
                    by_cases hxj : x < j
                    · exact HA.out x hxj
                    · obtain rfl : x = j := by omega
                      exact h
                  clear y0'
                  generalize (rngAt l j).name = t at y0 HJ HK
                  by_cases ht : t = r.name
                  · have HF := hide (HJ.out ht)
                    rw [ht] at y0
                    go_upto_region 9 with (fail)
                    go_quiet (fail)
                    go_wp2
                    go_ret
                    exact ⟨by rw [HF.out]; rfl, below_drewN HBW.out _⟩
                  · have HX := hide (HK.out ht)
                    have ht' := bytes_ne ht
                    go_upto_region 9 with (fail)
                    go_quiet (fail)
                    go_wp2
                    go_roundw
                    case rel => exact ⟨j + 1, by omega, by go_num, HX.out, m + nq, by rw [HW.out, World.drewN_drewN]⟩
                    case measure => simp [intOf]; omega
                · obtain rfl : j = k := by omega
                  have HN2 := hide (has_not (l := l) (t := r.name) (Nat.le_of_lt hkl) HA.out)
                  go_wp2
                  go_roundw
                  case rel =>
                    refine ⟨j + 1, by omega, by go_num, ?_, HBW.out⟩
                    have hv := HV.out
                    rw [valid_split, Bool.and_eq_true] at hv
                    rw [HT.out, valid_split, List.all_append, distinct_snoc, HN2.out, hv.1, hv.2, List.all_cons, HOK.out]
                    rfl
                  case measure => simp [intOf]; omega
            · have e4 : decide (r.high < r.low) = true := decide_eq_true (by omega)
              rw [decide_eq_false h4] at HOK
              have HF : Hid (validRs l = false) := hide (valid_false HT.out (by rw [HOK.out]; rfl))
              go_upto_region 4 with (fail)
              go_quiet ((go_at_call 90; exact quiet_left (HN.out _)))
              go_wp2
              go_ret
              exact ⟨by rw [HF.out]; rfl, below_drewN HB.out _⟩
          · rw [e3] at HOK
            have HF : Hid (validRs l = false) := hide (valid_false HT.out (by rw [HOK.out]; rfl))
            go_upto_region 4 with (fail)
            go_quiet ((go_at_call 90; exact quiet_left (HN.out _)))
            go_wp2
            go_ret
            exact ⟨by rw [HF.out]; rfl, below_drewN HB.out _⟩
        · rw [e2] at HOK
          have HF : Hid (validRs l = false) := hide (valid_false HT.out (by rw [HOK.out]; rfl))
          go_upto_region 4 with (fail)
          go_quiet ((go_at_call 90; exact quiet_left (HN.out _)))
          go_wp2
          go_ret
          exact ⟨by rw [HF.out]; rfl, below_drewN HB.out _⟩
    · obtain rfl : k = n := by omega
      have HF : Hid (validRs l = true) := by
        have := HV.out
        rw [List.take_of_length_le (by rw [HLN.out]; omega)] at this
        exact this
      go_wp2
      go_ret
      exact ⟨by rw [HF.out]; rfl, HB.out⟩
end Go.Proofs.YtkomgidcgepknaaGreatDoor

set_option linter.unusedVariables false
set_option linter.unusedSimpArgs false
namespace Go.Proofs.YtkomgidcgepknaaGreatDoor
open Go.RowKit Go.Deep

set_option maxHeartbeats 2000000 in
theorem refOperands_any (op : Int) (w : World) : Calls Tryz.prog 136 #[.int .i64 op] w fun e w' => e = .returned (.int .i64 (operands op)) ∧ w = w' := by
  have H : ∀ v, (if op = 1 ∨ op = 2 then 0 else if op = 12 then 1 else if op = 9 then 3 else if 3 ≤ op ∧ op ≤ 11 then 2 else -1) = v → operands op = v := fun v h => h
  have HH := hide H
  clear H
  go_enter Tryz.func136, Tryz.ntmps136
  go_wp2
  all_goals go_ret
  all_goals refine ⟨ret_int (HH.out _ ?_).symm, rfl⟩
  all_goals first | (simp_all; done) | (repeat' split) <;> simp_all <;> omega

theorem toList_is (s : ByteArray) (l : List UInt8) : s.toList = l ↔ s = ⟨l.toArray⟩ := by
  rw [Go.Lib.toList_data]
  constructor
  · intro h
    exact ByteArray.ext (Array.toList_inj.1 (by rw [h]))
  · rintro rfl
    rfl
theorem func_split (s : ByteArray) : decide (funcOp s ≠ 0) = (s.toList == [109, 105, 110] || s.toList == [109, 97, 120] || s.toList == [105, 102]) := by
  unfold funcOp
  by_cases h1 : s.toList = [109, 105, 110]
  · rw [if_pos ((toList_is s _).1 h1), h1]; rfl
  · rw [if_neg (fun h => h1 ((toList_is s _).2 h))]
    by_cases h2 : s.toList = [109, 97, 120]
    · rw [if_pos ((toList_is s _).1 h2), h2]; rfl
    · rw [if_neg (fun h => h2 ((toList_is s _).2 h))]
      by_cases h3 : s.toList = [105, 102]
      · rw [if_pos ((toList_is s _).1 h3), h3]; rfl
      · rw [if_neg (fun h => h3 ((toList_is s _).2 h)), beq_eq_false_iff_ne.2 h1, beq_eq_false_iff_ne.2 h2, beq_eq_false_iff_ne.2 h3]
        rfl
theorem refFunction_any (s : ByteArray) (w : World) : Calls Tryz.prog 138 #[.string s] w fun e w' => e = .returned (.bool (decide (funcOp s ≠ 0))) ∧ w = w' := by
  have HF := hide (func_split s)
  go_enter Tryz.func138, Tryz.ntmps138
  go_wp2
  all_goals go_ret
  all_goals refine ⟨?_, rfl⟩
  all_goals rw [HF.out]
  all_goals simp_all

theorem byte_class (n : Nat) : (isLetter n = true ∧ isWord n = true ∧ ((97 ≤ n ∧ n ≤ 122) ∨ (65 ≤ n ∧ n ≤ 90))) ∨ (isLetter n = false ∧ isWord n = true ∧ (n = 95 ∨ (48 ≤ n ∧ n ≤ 57))) ∨
    (isLetter n = false ∧ isWord n = false ∧ (n < 48 ∨ (57 < n ∧ n < 65) ∨ (90 < n ∧ n < 95) ∨ n = 96 ∨ 122 < n)) := by
  unfold isWord isDigit isLetter
  by_cases h1 : 97 ≤ n <;> by_cases h2 : n ≤ 122 <;> by_cases h3 : 65 ≤ n <;> by_cases h4 : n ≤ 90 <;> by_cases h5 : 48 ≤ n <;> by_cases h6 : n ≤ 57 <;> by_cases h7 : n = 95 <;> first | (exfalso; omega) | (simp [h1, h2, h3, h4, h5, h6, h7] <;> omega)
theorem name_bad' {s : ByteArray} {i : Nat} (hi : i < s.size) (h : isWord (bAt s i) = false) : nameB s = false := by
  unfold nameB
  cases ha : (List.range s.size).all fun i => isWord (bAt s i)
  · simp
  · rw [List.all_eq_true] at ha
    have := ha i (List.mem_range.2 hi)
    rw [h] at this
    cases this
theorem name_bad0 {s : ByteArray} (h : isLetter (bAt s 0) = false) : nameB s = false := by
  unfold nameB
  rw [h]
  simp
theorem name_end {s : ByteArray} {k : Nat} (hk : k ≤ s.size) (hk2 : k ≤ 25) (hend : ¬ (k < s.size ∧ k < 25)) (h0 : 0 < k → isLetter (bAt s 0) = true) (hw : ∀ j, j < k → isWord (bAt s j) = true) : nameB s = (decide (1 ≤ s.size) && decide (s.size ≤ 24)) := by
  unfold nameB
  by_cases h24 : s.size ≤ 24
  · obtain rfl : k = s.size := by omega
    by_cases h1 : 1 ≤ s.size
    · rw [h0 (by omega), List.all_eq_true.2 (fun j hj => hw j (List.mem_range.1 hj))]
      simp
    · rw [decide_eq_false h1]
      rfl
  · rw [decide_eq_false h24]
    simp

set_option maxHeartbeats 4000000 in
set_option maxRecDepth 20000 in
theorem refIdent_any (s : ByteArray) (w : World) (hs : s.size ≤ maxLen) : Calls Tryz.prog 137 #[.string s] w fun e w' => e = .returned (.bool (nameB s)) ∧ w = w' := by
  unfold maxLen at hs
  go_enter Tryz.func137, Tryz.ntmps137
  go_wp2
  go_loop [3] (fun i => ∃ k : Nat, k ≤ s.size ∧ k ≤ 25 ∧ i = .int .i64 k ∧ (0 < k → isLetter (bAt s 0) = true) ∧ ∀ j, j < k → isWord (bAt s j) = true) (fun i => s.size - (intOf i).toNat)
  case atStart => exact ⟨0, Nat.zero_le _, by omega, rfl, fun h => absurd h (by omega), fun j hj => absurd hj (by omega)⟩
  case round =>
    obtain ⟨k, hk, hk25, rfl, h0, hall⟩ := hrel
    have HA := hide hall
    have H0 := hide h0
    clear hall h0
    by_cases hend : k < s.size ∧ k < 25
    · obtain ⟨hlt, hlt25⟩ := hend
      have g25 : decide ((k : Int) < 25) = true := decide_eq_true (by omega)
      have hb : bAt s k = s[k].toNat := bAt_eq hlt
      have HB := hide hb
      clear hb
      have hcl := byte_class s[k].toNat
      have HNX : Hid (isLetter s[k].toNat = true ∧ isWord s[k].toNat = true ∨ 0 < k ∧ isWord s[k].toNat = true → (0 < k + 1 → isLetter (bAt s 0) = true) ∧ ∀ j, j < k + 1 → isWord (bAt s j) = true) := hide (fun h => by
        constructor
        · intro _
          by_cases hk0 : 0 < k
          · exact H0.out hk0
          · obtain rfl : k = 0 := by omega
            rw [HB.out]
            rcases h with h | h
            · exact h.1
            · exact absurd h.1 hk0
        · intro j hj
          by_cases hj2 : j < k
          · exact HA.out j hj2
          · obtain rfl : j = k := by omega
            rw [HB.out]
            rcases h with h | h
            · exact h.2
            · exact h.2)
      have HBAD : Hid ((isLetter s[k].toNat = false ∧ k = 0) ∨ isWord s[k].toNat = false → nameB s = false) := hide (fun h => by
        rcases h with h | h
        · refine name_bad0 ?_
          rw [← h.2, HB.out]
          exact h.1
        · exact name_bad' hlt (by rw [HB.out]; exact h))
      clear HB HA H0
      rcases hcl with ⟨c1, c2, h | h⟩ | ⟨c1, c2, h | h⟩ | ⟨c1, c2, h | h | h | h | h⟩
      all_goals
        first | (have d1 : decide ((97 : Int) ≤ (s[k].toNat : Int)) = true := decide_eq_true (by omega)) | (have d1 : decide ((97 : Int) ≤ (s[k].toNat : Int)) = false := decide_eq_false (by omega))
        first | (have d2 : decide ((s[k].toNat : Int) ≤ 122) = true := decide_eq_true (by omega)) | (have d2 : decide ((s[k].toNat : Int) ≤ 122) = false := decide_eq_false (by omega))
        first | (have d3 : decide ((65 : Int) ≤ (s[k].toNat : Int)) = true := decide_eq_true (by omega)) | (have d3 : decide ((65 : Int) ≤ (s[k].toNat : Int)) = false := decide_eq_false (by omega))
        first | (have d4 : decide ((s[k].toNat : Int) ≤ 90) = true := decide_eq_true (by omega)) | (have d4 : decide ((s[k].toNat : Int) ≤ 90) = false := decide_eq_false (by omega))
        first | (have d5 : ((s[k].toNat : Int) != 95) = true := bne_iff_ne.2 (by omega)) | (have d5 : ((s[k].toNat : Int) != 95) = false := bne_eq_false_iff_eq.2 (by omega))
        first | (have d6 : decide ((s[k].toNat : Int) < 48) = true := decide_eq_true (by omega)) | (have d6 : decide ((s[k].toNat : Int) < 48) = false := decide_eq_false (by omega))
        first | (have d7 : decide ((57 : Int) < (s[k].toNat : Int)) = true := decide_eq_true (by omega)) | (have d7 : decide ((57 : Int) < (s[k].toNat : Int)) = false := decide_eq_false (by omega))
        by_cases hk0 : k = 0
        · have e0 : ((k : Int) == 0) = true := beq_iff_eq.2 (by omega)
          have HC1 := hide c1
          have HC2 := hide c2
          have HK0 := hide hk0
          clear h c1 c2 hk0
          go_wp2
          first
            | (go_round
               case rel => exact ⟨k + 1, by omega, by omega, by go_num, (HNX.out (.inl ⟨HC1.out, HC2.out⟩)).1, (HNX.out (.inl ⟨HC1.out, HC2.out⟩)).2⟩
               case measure => simp [intOf]; omega)
            | (go_ret
               exact ⟨by rw [HBAD.out (.inl ⟨HC1.out, HK0.out⟩)]; rfl, rfl⟩)
        · have e0 : ((k : Int) == 0) = false := beq_eq_false_iff_ne.2 (by omega)
          have HC1 := hide c1
          have HC2 := hide c2
          have hkp : 0 < k := by omega
          clear h c1 c2 hk0
          go_wp2
          first
            | (go_round
               case rel => exact ⟨k + 1, by omega, by omega, by go_num, (HNX.out (.inr ⟨hkp, HC2.out⟩)).1, (HNX.out (.inr ⟨hkp, HC2.out⟩)).2⟩
               case measure => simp [intOf]; omega)
            | (go_ret
               exact ⟨by rw [HBAD.out (.inr HC2.out)]; rfl, rfl⟩)
    · have HE := hide (name_end hk hk25 hend H0.out HA.out)
      clear HA H0
      by_cases hlt : k < s.size
      · have g25 : decide ((k : Int) < 25) = false := decide_eq_false (by omega)
        have g1 : decide ((1 : Int) ≤ (s.size : Int)) = true := decide_eq_true (by omega)
        have g24 : decide ((s.size : Int) ≤ 24) = false := decide_eq_false (by omega)
        have HF : Hid (nameB s = false) := by
          show _ = _
          rw [HE.out, decide_eq_false (show ¬ s.size ≤ 24 by omega), Bool.and_false]
        go_wp2
        go_ret
        exact ⟨by rw [HF.out]; rfl, rfl⟩
      · by_cases h1 : 1 ≤ s.size
        · have g1 : decide ((1 : Int) ≤ (s.size : Int)) = true := decide_eq_true (by omega)
          by_cases h24 : s.size ≤ 24
          · have g24 : decide ((s.size : Int) ≤ 24) = true := decide_eq_true (by omega)
            rw [decide_eq_true h1, decide_eq_true h24] at HE
            go_wp2
            go_ret
            exact ⟨by rw [HE.out]; rfl, rfl⟩
          · have g24 : decide ((s.size : Int) ≤ 24) = false := decide_eq_false (by omega)
            rw [decide_eq_true h1, decide_eq_false h24] at HE
            go_wp2
            go_ret
            exact ⟨by rw [HE.out]; rfl, rfl⟩
        · have g1 : decide ((1 : Int) ≤ (s.size : Int)) = false := decide_eq_false (by omega)
          rw [decide_eq_false h1] at HE
          go_wp2
          go_ret
          exact ⟨by rw [HE.out]; rfl, rfl⟩
end Go.Proofs.YtkomgidcgepknaaGreatDoor

/-
  The reference of chapter 21: nodes, and whole expressions.
-/
set_option linter.unusedVariables false
set_option linter.unusedSimpArgs false
namespace Go.Proofs.YtkomgidcgepknaaGreatDoor
open Go.RowKit Go.Deep

theorem refOp_is (op : Int) (w : World) : Calls Tryz.prog 136 #[.int .i64 op] w fun e w' => e = .returned (.int .i64 (operands op)) ∧ w = w' := refOperands_any op w

set_option maxHeartbeats 4000000 in
set_option maxRecDepth 20000 in
theorem refNode_any (x : Nod) (A : Option Addr) (c : Nat) (w : World) (hs : x.name.size ≤ maxLen) : Calls Tryz.prog 84 #[x.val A c] w fun e w' => e = .returned (.bool (formedL x)) ∧ Below w.heap.size w w' := by
  unfold Nod.val
  have hb0 : Below w.heap.size w (w.alloc (Obj.cells #[.int .i64 x.op, .int .i64 x.n, .string x.name, .slice A x.kids.length c] 56)) := (Below.refl _ _).alloc (Nat.le_refl _) _
  have hB0 : Blk (w.alloc (Obj.cells #[.int .i64 x.op, .int .i64 x.n, .string x.name, .slice A x.kids.length c] 56)) w.heap.size 56 #[.int .i64 x.op, .int .i64 x.n, .string x.name, .slice A x.kids.length c] := Blk.new _ _ _
  go_enter Tryz.func84, Tryz.ntmps84
  go_upto_region 1 with (fail)
  generalize w.alloc (Obj.cells #[.int .i64 x.op, .int .i64 x.n, .string x.name, .slice A x.kids.length c] 56) = w0 at hb0 hB0 ⊢
  have hlt0 := Blk.lt hB0
  obtain ⟨c0, c1, c2, c3, _, _, _, _⟩ := blk4 hB0
  have HB0 := hide hB0
  have HBL := hide hb0
  clear hB0 hb0
  by_cases hk : operands x.op = x.kids.length
  · have hk' : (operands x.op != ((x.kids.length : Nat) : Int)) = false := bne_eq_false_iff_eq.2 hk
    by_cases h2 : x.op = 2
    · have h1' : (x.op != 1) = true := bne_iff_ne.2 (by omega)
      have h1'' : (x.op == 1) = false := beq_eq_false_iff_ne.2 (by omega)
      have h2' : (x.op != 2) = false := bne_eq_false_iff_eq.2 h2
      by_cases hn : x.n = 0
      · have hn' : (x.n != 0) = false := bne_eq_false_iff_eq.2 hn
        have HF : Hid (formedL x = (nameB x.name && decide (funcOp x.name = 0))) := by
          show _ = _
          unfold formedL
          rw [decide_eq_true hk, if_neg (by omega), if_pos h2, decide_eq_true hn]
          simp
        clear hk h2 hn
        go_quiet ((go_at_call 136; exact quiet_left (refOp_is _ _)))
        obtain ⟨wq, hwq⟩ : ∃ wq, wq = w0.drewN nq := ⟨_, rfl⟩
        have HBQ : Hid (Below w.heap.size w wq) := hide (by rw [hwq]; exact below_drewN HBL.out nq)
        have d0 : wq.cell? ⟨w.heap.size, 0, none⟩ = some (.int .i64 x.op) := by rw [hwq]; exact c0
        have d2 : wq.cell? ⟨w.heap.size, 2, none⟩ = some (.string x.name) := by rw [hwq]; exact c2
        rw [← hwq]
        clear hwq c0 c1 c2 c3
        have HI := hide (refIdent_any x.name wq hs)
        have HG := hide (refFunction_any x.name wq)
        cases e1 : nameB x.name
        · rw [e1] at HF HI
          go_wp2_with fail
          refine HI.out.mono ?_
          rintro en w3 ⟨rfl, rfl⟩
          go_wp2
          go_ret
          exact ⟨by rw [HF.out]; rfl, HBQ.out⟩
        · rw [e1] at HF HI
          go_wp2_with fail
          refine HI.out.mono ?_
          rintro en w3 ⟨rfl, rfl⟩
          go_wp2_with fail
          refine HG.out.mono ?_
          rintro en w3 ⟨rfl, rfl⟩
          go_wp2
          go_ret
          exact ⟨by rw [HF.out]; simp, HBQ.out⟩
      · have hn' : (x.n != 0) = true := bne_iff_ne.2 hn
        have HF : Hid (formedL x = false) := by
          show _ = _
          unfold formedL
          rw [decide_eq_true hk, if_neg (by omega), if_pos h2, decide_eq_false hn]
          simp
        clear hk h2 hn
        go_quiet ((go_at_call 136; exact quiet_left (refOp_is _ _)))
        go_wp2
        go_ret
        exact ⟨by rw [HF.out]; rfl, below_drewN HBL.out nq⟩
    · have h2' : (x.op != 2) = true := bne_iff_ne.2 h2
      by_cases h1 : x.op = 1
      · have h1' : (x.op != 1) = false := bne_eq_false_iff_eq.2 h1
        have h1'' : (x.op == 1) = true := beq_iff_eq.2 h1
        have HF := hide (formed_one hk h1)
        clear hk h2 h1
        cases hem : x.name.toList.isEmpty
        · rw [hem] at HF
          go_quiet ((go_at_call 136; exact quiet_left (refOp_is _ _)))
          go_wp2
          go_ret
          exact ⟨by rw [HF.out]; rfl, below_drewN HBL.out nq⟩
        · rw [hem, Bool.true_and] at HF
          go_quiet ((go_at_call 136; exact quiet_left (refOp_is _ _)))
          cases d1 : decide (0 ≤ x.n)
          all_goals
            cases d2 : decide (x.n ≤ 1000000)
            all_goals
              rw [d1, d2] at HF
              go_wp2
              go_ret
              exact ⟨by rw [HF.out]; rfl, below_drewN HBL.out nq⟩
      · have h1' : (x.op != 1) = true := bne_iff_ne.2 h1
        have h1'' : (x.op == 1) = false := beq_eq_false_iff_ne.2 h1
        have HF := hide (formed_else hk h1 h2)
        clear hk h2 h1
        by_cases hn : x.n = 0
        · have hn' : (x.n != 0) = false := bne_eq_false_iff_eq.2 hn
          rw [decide_eq_true hn, Bool.true_and] at HF
          clear hn
          cases hem : x.name.toList.isEmpty
          all_goals
            rw [hem] at HF
            go_quiet ((go_at_call 136; exact quiet_left (refOp_is _ _)))
            go_wp2
            go_ret
            exact ⟨by rw [HF.out]; rfl, below_drewN HBL.out nq⟩
        · have hn' : (x.n != 0) = true := bne_iff_ne.2 hn
          rw [decide_eq_false hn, Bool.false_and] at HF
          clear hn
          go_quiet ((go_at_call 136; exact quiet_left (refOp_is _ _)))
          go_wp2
          go_ret
          exact ⟨by rw [HF.out]; rfl, below_drewN HBL.out nq⟩
  · have hk' : (operands x.op != ((x.kids.length : Nat) : Int)) = true := bne_iff_ne.2 hk
    have HF : Hid (formedL x = false) := by
      show _ = _
      unfold formedL
      rw [decide_eq_false hk, Bool.false_and]
    clear hk
    go_quiet ((go_at_call 136; exact quiet_left (refOp_is _ _)))
    go_wp2
    go_ret
    exact ⟨by rw [HF.out]; rfl, below_drewN HBL.out nq⟩

theorem Own.lower {w : World} {base base' : Nat} {e : TypeId} {size : Nat} {A : Option Addr} {n c : Nat} {xs : List Value} (h : Own w base e size A n c xs) (hb : base' ≤ base) : Own w base' e size A n c xs := by
  refine ⟨h.1, ?_⟩
  rcases h.2 with h2 | ⟨g, cap, cur, hv, hg, r⟩
  · exact .inl h2
  · exact .inr ⟨g, cap, cur, hv, Nat.le_trans hb hg, r⟩
theorem Own.far {w : World} {base : Nat} {e : TypeId} {size : Nat} {A : Option Addr} {n c : Nat} {xs : List Value} (h : Own w base e size A n c xs) {p : Addr} (hp : p.block < base) (u : Value) : Own (w.setCell p u) base e size A n c xs :=
  h.keepC fun g hg _ => Below.heap_setCell w p u g (by omega)
/-- A node that lies in memory, in whatever world above. -/
theorem nod_cells {w w' : World} {B b off i : Nat} {x : Nod} {K : Option Addr} {kc : Nat} (hb : Below B w w') (hB : b < B) (h0 : w.cell? ⟨b, off + i * 4, none⟩ = some (.int .i64 x.op)) (h1 : w.cell? ⟨b, off + i * 4 + 1, none⟩ = some (.int .i64 x.n))
    (h2 : w.cell? ⟨b, off + i * 4 + 2, none⟩ = some (.string x.name)) (h3 : w.cell? ⟨b, off + i * 4 + 3, none⟩ = some (.slice K x.kids.length kc)) :
    w'.cell? ⟨b, off + i * 4, none⟩ = some (.int .i64 x.op) ∧ w'.cell? ⟨b, off + i * 4 + 1, none⟩ = some (.int .i64 x.n) ∧ w'.cell? ⟨b, off + i * 4 + 2, none⟩ = some (.string x.name) ∧ w'.cell? ⟨b, off + i * 4 + 3, none⟩ = some (.slice K x.kids.length kc) :=
  ⟨(hb.cell (p := ⟨b, off + i * 4, none⟩) hB).trans h0, (hb.cell (p := ⟨b, off + i * 4 + 1, none⟩) hB).trans h1, (hb.cell (p := ⟨b, off + i * 4 + 2, none⟩) hB).trans h2, (hb.cell (p := ⟨b, off + i * 4 + 3, none⟩) hB).trans h3⟩
/-- The depths lie beside the roots. -/
def DepthsOk (os : List (Nat × Nat)) (k : Nat) (ds : List Int) : Prop := ∀ x ∈ os, x.1 < k ∧ nth ds x.1 = (x.2 : Int)
theorem depths_next {os : List (Nat × Nat)} {k n d : Nat} {ds : List Int} (h : DepthsOk os k ds) (hk : k < ds.length) : DepthsOk ((k, d) :: os.drop n) (k + 1) (ds.set k (d : Int)) := by
  intro x hx
  rcases List.mem_cons.1 hx with rfl | hx
  · refine ⟨by omega, ?_⟩
    unfold nth
    rw [List.getD_eq_getElem?_getD, List.getElem?_set_self (by exact hk)]
    rfl
  · have := h x (List.mem_of_mem_drop hx)
    refine ⟨by omega, ?_⟩
    rw [← this.2]
    unfold nth
    rw [List.getD_eq_getElem?_getD, List.getElem?_set_ne (by omega), ← List.getD_eq_getElem?_getD]
theorem scan_depth {e : List Nod} : ∀ (n : Nat) (os : List (Nat × Nat)), scanN e n = some os → ∀ x ∈ os, x.2 ≤ x.1 + 1
  | 0, os, h => by
    injection h with h
    subst h
    exact fun x hx => absurd hx List.not_mem_nil
  | n + 1, os, h => by
    rw [scanN_succ] at h
    cases hs : scanN e n with
    | none => rw [hs] at h; cases h
    | some os0 =>
      rw [hs] at h
      dsimp only at h
      split at h
      · injection h with h
        subst h
        intro x hx
        have ih := scan_depth n os0 hs
        rcases List.mem_cons.1 hx with rfl | hx
        · have := deepest_bd n (os0.take (nodAt e n).kids.length) (fun y hy => by
            have h1 := ih y (List.mem_of_mem_take hy)
            have h2 := scan_lt n os0 hs y (List.mem_of_mem_take hy)
            omega)
          show deepest _ + 1 ≤ n + 1
          omega
        · exact ih x (List.mem_of_mem_drop hx)
      · cases h
theorem getD_mem2 {os : List (Nat × Nat)} {i : Nat} (h : i < os.length) : os.getD i (0, 0) ∈ os := getD_mem os i (0, 0) h

set_option maxHeartbeats 8000000 in
set_option maxRecDepth 20000 in
theorem refValidE_any (A : Option Addr) (c : Nat) (e : List Nod) (w : World) (h : ExprAt w w.heap.size A e) (hn : ∀ x ∈ e, x.name.size ≤ maxLen) (hm : e.length ≤ maxLen) :
    Calls Tryz.prog 34 #[.slice A e.length c] w fun en w' => en = .returned (.bool (validL e)) ∧ Below w.heap.size w w' := by
  have HE := hide h
  have HN := hide hn
  unfold maxLen at hm
  clear h hn
  by_cases h1 : e.length < 1
  · have d1 : decide ((e.length : Int) < 1) = true := decide_eq_true (by omega)
    have HF : Hid (validL e = false) := by
      show _ = _
      unfold validL
      rw [decide_eq_false (show ¬ 1 ≤ e.length by omega)]
      rfl
    go_enter Tryz.func34, Tryz.ntmps34
    go_wp2
    go_ret
    exact ⟨by rw [HF.out]; rfl, Below.refl _ _⟩
  · have d1 : decide ((e.length : Int) < 1) = false := decide_eq_false (by omega)
    by_cases h3 : 300 < e.length
    · have d3 : decide ((300 : Int) < (e.length : Int)) = true := decide_eq_true (by omega)
      have HF : Hid (validL e = false) := by
        show _ = _
        unfold validL
        rw [decide_eq_false (show ¬ e.length ≤ 300 by omega)]
        simp
      go_enter Tryz.func34, Tryz.ntmps34
      go_wp2
      go_ret
      exact ⟨by rw [HF.out]; rfl, Below.refl _ _⟩
    · have d3 : decide ((300 : Int) < (e.length : Int)) = false := decide_eq_false (by omega)
      have hmk := fun (w : World) => make_run (P := Tryz.prog) 31 3 (.int .i64 0) 8 Tryz.underlying31 int_info rfl e.length (by omega) (by omega) w
      have hga : Blk (w.alloc (.cells (Array.replicate e.length (.int .i64 0)) 3)) w.heap.size 3 (ints (List.replicate e.length 0)).toArray := by
        have : Array.replicate e.length (Value.int .i64 0) = (ints (List.replicate e.length 0)).toArray := by
          unfold ints
          apply Array.toList_inj.1
          simp
        rw [← this]
        exact Blk.new _ _ _
      have hb4 : Below w.heap.size w (w.alloc (.cells (Array.replicate e.length (.int .i64 0)) 3)) := (Below.refl _ _).alloc (Nat.le_refl _) _
      go_enter Tryz.func34, Tryz.ntmps34
      go_upto_region 5 with (fail)
      generalize w.alloc (.cells (Array.replicate e.length (.int .i64 0)) 3) = w4 at hga hb4 ⊢
      clear hmk d1 d3
      have HG4 := hide hga
      have HB4 := hide hb4
      have hgl4 := hga.lt
      clear hga hb4
      go_wp2
      go_loopw [3, 5] (fun v i wr => ∃ (k : Nat) (os : List (Nat × Nat)) (A4 : Option Addr) (c4 : Nat) (ds : List Int), k ≤ e.length ∧ i = .int .i64 k ∧ v = .slice A4 os.length c4 ∧ scanN e k = some os ∧ Own wr w4.heap.size 3 1 A4 os.length c4 (ints (rootsL os)) ∧
        ds.length = e.length ∧ Blk wr w.heap.size 3 (ints ds).toArray ∧ DepthsOk os k ds ∧ os.length ≤ k ∧ Below w.heap.size w wr ∧ w4.heap.size ≤ wr.heap.size) (fun _ i _ => e.length - (intOf i).toNat)
      case atStart => exact ⟨0, [], none, 0, _, Nat.zero_le _, rfl, rfl, rfl, Own.nil _ _ _ _, by simp, HG4.out, fun x hx => absurd hx List.not_mem_nil, Nat.le_refl _, HB4.out, Nat.le_refl _⟩
      case round =>
        obtain ⟨k, os, A4, c4, ds, hk, rfl, rfl, hsc, hown, hdl, hblk, hdo, hol, hbr, hw4⟩ := hrel
        have HSC := hide hsc
        have HOW := hide hown
        have HDL := hide hdl
        have HBK := hide hblk
        have HDO := hide hdo
        have HBR := hide hbr
        clear hsc hown hdl hblk hdo hbr HG4 HB4
        by_cases hlt : k < e.length
        · obtain ⟨b, off, K, kc, rfl, hb, x0, x1, x2, x3, hK⟩ := HE.out.at_ hlt
          have HXN := hide (HN.out _ (List.mem_of_getElem? (nodAt_get hlt)))
          have HSU := hide (scanN_succ e k)
          rw [HSC.out] at HSU
          have HBAD := hide (fun h : scanN e (k + 1) = none => validR_none (e := e) hlt h)
          generalize nodAt e k = x at x0 x1 x2 x3 hK HXN HSU
          have HKD := hide hK
          have hwb := HBR.out.size
          have HXC := hide (fun (wq : World) (h : Below w.heap.size w wq) => nod_cells h hb x0 x1 x2 x3)
          clear hK x0 x1 x2 x3
          obtain ⟨x0, x1, x2, x3⟩ := HXC.out wr HBR.out
          go_wp2_with fail
          refine (refNode_any x K kc wr HXN.out).mono ?_
          rintro en w5 ⟨rfl, hb5⟩
          have hs5 := hb5.size
          have HBK5 := hide (HBK.out.below hb5 HBK.out.lt)
          have HOW5 := hide (HOW.out.below hb5)
          have HB5 := hide (HBR.out.trans (hb5.mono hwb))
          obtain ⟨y0, y1, y2, y3⟩ := HXC.out w5 HB5.out
          clear x0 x1 x2 x3 hb5 HBK HOW HBR
          cases hf : formedL x
          · have HF := hide (HBAD.out (by rw [HSU.out]; simp [hf]))
            go_wp2
            go_ret
            exact ⟨by rw [HF.out]; rfl, HB5.out⟩
          · have hk3 := formed_kids hf
            have HFM := hide hf
            clear hf
            by_cases hno : os.length < x.kids.length
            · have hno' : decide ((os.length : Int) < (x.kids.length : Int)) = true := decide_eq_true (by omega)
              have HF := hide (HBAD.out (by rw [HSU.out, if_neg (fun h => by have := h.2.1; omega)]))
              go_wp2
              go_ret
              exact ⟨by rw [HF.out]; rfl, HB5.out⟩
            · have hno' : decide ((os.length : Int) < (x.kids.length : Int)) = false := decide_eq_false (by omega)
              have f5 := HBK5.out.frozen k
              have g5 := HBK5.out.int (k := k) (by rw [HDL.out]; exact hlt)
              have R1 := hide (HBK5.out.setInt k 1)
              have HO6 := hide (HOW5.out.far (p := ⟨w.heap.size, k, none⟩) hgl4 (.int .i64 1))
              have HB6 := hide (HB5.out.setCell (p := ⟨w.heap.size, k, none⟩) (Nat.le_refl _) (.int .i64 1))
              have hs6 : w4.heap.size ≤ (w5.setCell ⟨w.heap.size, k, none⟩ (.int .i64 1)).heap.size := by
                rw [World.size_setCell]
                omega
              go_upto_region 15 with (fail)
              generalize w5.setCell ⟨w.heap.size, k, none⟩ (.int .i64 1) = w6 at R1 HO6 HB6 hs6 ⊢
              clear f5 g5 HBK5 HOW5 HB5 y0 y1 y2 y3
              have HDP := hide (scan_depth k os HSC.out)
              go_loopw [7] (fun j wq => ∃ t : Nat, t ≤ x.kids.length ∧ j = .int .i64 t ∧ (∀ i, i < t → nth x.kids i = ((os.getD (x.kids.length - 1 - i) (0, 0)).1 : Int)) ∧ Blk wq w.heap.size 3 (ints (ds.set k (lastD os x.kids.length t : Int))).toArray ∧
                Own wq w4.heap.size 3 1 A4 os.length c4 (ints (rootsL os)) ∧ Below w.heap.size w wq ∧ w4.heap.size ≤ wq.heap.size) (fun j _ => x.kids.length - (intOf j).toNat)
              case atStart => exact ⟨0, Nat.zero_le _, rfl, fun i h => absurd h (by omega), by rw [lastD_zero]; exact R1.out, HO6.out, HB6.out, hs6⟩
              case round =>
                obtain ⟨t, ht, rfl, hma, hkq, hoq, hbq, hsq⟩ := hrel
                have HMA := hide hma
                have HKQ := hide hkq
                have HOQ := hide hoq
                have HBQ := hide hbq
                clear hma hkq hoq hbq R1 HO6 HB6 hs6
                by_cases htl : t < x.kids.length
                · obtain ⟨m, hm'⟩ : ∃ m, m = os.length - x.kids.length + t := ⟨_, rfl⟩
                  have hmi : (os.length : Int) - (x.kids.length : Int) + (t : Int) = (m : Int) := by omega
                  obtain ⟨g, rfl, hgb, hglt, gc, -⟩ := Own.at_ HOQ.out (k := m) (by omega)
                  rw [ints_get (by rw [rootsL_len]; omega)] at gc
                  have gc2 : nth (rootsL os) m = ((os.getD (x.kids.length - 1 - t) (0, 0)).1 : Int) := by rw [hm']; exact rootsL_get (by omega) htl
                  rw [gc2] at gc
                  have hmem := getD_mem2 (os := os) (i := x.kids.length - 1 - t) (by omega)
                  have HLD := hide (lastD_next (os := os) (n := x.kids.length) (j := t) (by omega) htl)
                  have HDIF := hide (fun h : nth x.kids t ≠ ((os.getD (x.kids.length - 1 - t) (0, 0)).1 : Int) => HBAD.out (by rw [HSU.out, if_neg (fun hh => kids_differ (by omega) htl h hh.2.2)]))
                  have HMN := hide (fun (h : nth x.kids t = ((os.getD (x.kids.length - 1 - t) (0, 0)).1 : Int)) i (hi : i < t + 1) => (by
                    by_cases hi2 : i < t
                    · exact HMA.out i hi2
                    · obtain rfl : i = t := by omega
                      exact h : nth x.kids i = ((os.getD (x.kids.length - 1 - i) (0, 0)).1 : Int)))
                  have hy := HDO.out _ hmem
                  have hyd := HDP.out _ hmem
                  generalize os.getD (x.kids.length - 1 - t) (0, 0) = y at gc hmem HLD HDIF HMN hy hyd
                  obtain ⟨bk, offk, rfl, hbk, g0⟩ := HKD.out.at_ htl
                  have g0' : wr.cell? ⟨bk, offk + t, none⟩ = some (.int .i64 (nth x.kids t)) := (HBQ.out.cell (p := ⟨bk, offk + t, none⟩) hbk).trans g0
                  obtain ⟨y0, y1, y2, y3⟩ := HXC.out wr HBQ.out
                  clear g0 gc2 hm'
                  by_cases hd : nth x.kids t = (y.1 : Int)
                  · have hd' : (nth x.kids t != (y.1 : Int)) = false := bne_eq_false_iff_eq.2 hd
                    have z0 := HKQ.out.int (k := k) (by rw [List.length_set, HDL.out]; exact hlt)
                    have z1 := HKQ.out.int (k := y.1) (by rw [List.length_set, HDL.out]; omega)
                    have f0 := HKQ.out.frozen k
                    have e0 : nth (ds.set k (lastD os x.kids.length t : Int)) k = (lastD os x.kids.length t : Int) := by
                      unfold nth
                      rw [List.getD_eq_getElem?_getD, List.getElem?_set_self (by rw [HDL.out]; exact hlt)]
                      rfl
                    have e1 : nth (ds.set k (lastD os x.kids.length t : Int)) y.1 = (y.2 : Int) := by
                      rw [← hy.2]
                      unfold nth
                      rw [List.getD_eq_getElem?_getD, List.getElem?_set_ne (by omega), ← List.getD_eq_getElem?_getD]
                    rw [e0] at z0
                    rw [e1] at z1
                    have HML := hide (HMN.out hd)
                    have hy1 : y.1 < e.length := by omega
                    have hy2 : y.2 ≤ 300 := by omega
                    clear hd e0 e1 hy hyd hmem HDIF HMN
                    have hml : max (lastD os x.kids.length t : Int) ((y.2 : Int) + 1) = ((lastD os x.kids.length (t + 1) : Nat) : Int) := by rw [HLD.out]; omega
                    have R2 : Hid (Blk (wr.drew.setCell ⟨w.heap.size, k, none⟩ (.int .i64 (max (lastD os x.kids.length t : Int) ((y.2 : Int) + 1)))) w.heap.size 3 (ints (ds.set k ((lastD os x.kids.length (t + 1) : Nat) : Int))).toArray) := hide (by
                      have := HKQ.out.drew.setInt k (max (lastD os x.kids.length t : Int) ((y.2 : Int) + 1))
                      rw [List.set_set] at this
                      rw [← hml]
                      exact this)
                    have HOD : Own wr.drew w4.heap.size 3 1 (some ⟨g, 0, none⟩) os.length c4 (ints (rootsL os)) := HOQ.out
                    have HODH := hide HOD
                    clear hml HOD
                    go_upto_region 20 with (fail)
                    have HB2 := hide (HBQ.out.drew.setCell (p := ⟨w.heap.size, k, none⟩) (Nat.le_refl _) (.int .i64 (max (lastD os x.kids.length t : Int) ((y.2 : Int) + 1))))
                    have HO2 := hide (HODH.out.far (p := ⟨w.heap.size, k, none⟩) hgl4 (.int .i64 (max (lastD os x.kids.length t : Int) ((y.2 : Int) + 1))))
                    have hs2 : w4.heap.size ≤ (wr.drew.setCell ⟨w.heap.size, k, none⟩ (.int .i64 (max (lastD os x.kids.length t : Int) ((y.2 : Int) + 1)))).heap.size := by
                      rw [World.size_setCell]
                      exact hsq
                    have hwrp : IntKind.i64.wrap ((y.2 : Int) + 1) = (y.2 : Int) + 1 := by
                      simp [IntKind.wrap, IntKind.bits, IntKind.signed]
                      omega
                    go_still_tail 13, (by kernel_rfl)
                    change wpList _ _ _ _ _ wr.drew
                    clear hwrp
                    have z0' : wr.drew.cell? ⟨w.heap.size, k, none⟩ = some (.int .i64 (lastD os x.kids.length t : Int)) := z0
                    have f0' : wr.drew.frozen? ⟨w.heap.size, k, none⟩ = false := f0
                    generalize wr.drew = wd at R2 HB2 HO2 hs2 z0' f0' ⊢
                    clear z0 z1 f0
                    go_upto_region 16 with (fail)
                    generalize wd.setCell ⟨w.heap.size, k, none⟩ (.int .i64 (max (lastD os x.kids.length t : Int) ((y.2 : Int) + 1))) = w7 at R2 HB2 HO2 hs2 ⊢
                    go_wp2
                    go_roundw
                    case rel => exact ⟨t + 1, htl, by go_num, HML.out, R2.out, HO2.out, HB2.out, hs2⟩
                    case measure => simp [intOf]; omega
                  · have hd' : (nth x.kids t != (y.1 : Int)) = true := bne_iff_ne.2 hd
                    have HF := hide (HDIF.out hd)
                    clear hd HDIF HMN
                    go_wp2
                    go_ret
                    exact ⟨by rw [HF.out]; rfl, HBQ.out⟩
                · obtain rfl : t = x.kids.length := by omega
                  have hcap := HOQ.out.cap
                  have hmi : (os.length : Int) - (x.kids.length : Int) = ((os.length - x.kids.length : Nat) : Int) := by omega
                  have HSC2 : Hid (scanN e (k + 1) = some ((k, lastD os x.kids.length x.kids.length) :: os.drop x.kids.length)) := by
                    show _ = _
                    rw [HSU.out, if_pos ⟨HFM.out, by omega, kids_match (by omega) (fun j hj => HMA.out j hj)⟩, lastD_all]
                  have HDN := hide (depths_next (n := x.kids.length) (d := lastD os x.kids.length x.kids.length) HDO.out (by rw [HDL.out]; exact hlt))
                  have hdl2 : ((k, lastD os x.kids.length x.kids.length) :: os.drop x.kids.length).length = os.length - x.kids.length + 1 := by rw [List.length_cons, List.length_drop]
                  have HRL : Hid (rootsL ((k, lastD os x.kids.length x.kids.length) :: os.drop x.kids.length) = (rootsL os).take (os.length - x.kids.length) ++ [(k : Int)]) := by
                    show _ = _
                    rw [rootsL_cons, rootsL_drop]
                  obtain ⟨i0, hi0, hz0, hz1, hz2⟩ := info_parts int_info
                  have HB7 := hide (HBQ.out.alloc HBQ.out.size (Obj.cells #[.int .i64 (k : Int)] 3))
                  have HK7 := hide (HKQ.out.alloc (Obj.cells #[.int .i64 (k : Int)] 3))
                  have fin : ∀ (v' : Value) (w7 : World), w7.ownsRow (wr.alloc (Obj.cells #[.int .i64 (k : Int)] 3)).heap.size 3 1 v' (os.length - x.kids.length + 1) (ints ((rootsL os).take (os.length - x.kids.length)) ++ ints [(k : Int)]) → (wr.alloc (Obj.cells #[.int .i64 (k : Int)] 3)).grownBy w7 none →
                      ∃ A7 c7, v' = .slice A7 (os.length - x.kids.length + 1) c7 ∧ Own w7 w4.heap.size 3 1 A7 (os.length - x.kids.length + 1) c7 (ints (rootsL ((k, lastD os x.kids.length x.kids.length) :: os.drop x.kids.length))) ∧
                        Blk w7 w.heap.size 3 (ints (ds.set k (lastD os x.kids.length x.kids.length : Int))).toArray ∧ Below w.heap.size w w7 ∧ w4.heap.size ≤ w7.heap.size := fun v' w7 h1 h2 => by
                    have hv : ∃ A2 c2, v' = .slice A2 (os.length - x.kids.length + 1) c2 := by
                      rcases h1.2 with ⟨_, h0⟩ | ⟨g, cap, cur, rfl, _⟩
                      · omega
                      · exact ⟨_, cap, rfl⟩
                    obtain ⟨A2, c2, rfl⟩ := hv
                    refine ⟨A2, c2, rfl, ?_, HK7.out.grown h2 (fun h => by cases h), HB7.out.grown h2 HB7.out.size (fun k h => by cases h), ?_⟩
                    · rw [HRL.out, ints_append]
                      exact Own.lower h1 (by rw [World.size_alloc]; omega)
                    · have := h2.size
                      rw [World.size_alloc] at this
                      omega
                  have HFIN := hide fin
                  clear fin
                  have HX0 : Hid (∀ j u, (ints [(k : Int)])[j]? = some u → (wr.alloc (Obj.cells #[.int .i64 (k : Int)] 3)).cell? ((⟨wr.heap.size, 0, none⟩ : Addr).add j) = some u) := hide (fun j u hu => by
                    have hr := reads_new wr #[.int .i64 (k : Int)] 3 1 1 rfl
                    obtain ⟨ad, e1, _, hc⟩ := hr.2 (by omega)
                    injection e1 with e1
                    subst e1
                    exact hc j u hu)
                  rcases HOQ.out.2 with ⟨hv, hl0⟩ | ⟨g, cap, cur, hv, hgb, hh, r⟩
                  · injection hv with hA _ hc
                    subst hA
                    subst hc
                    have hz : x.kids.length = 0 := by omega
                    have he1 : os.length - x.kids.length = 0 := by omega
                    rw [he1] at HFIN hdl2 hmi
                    rw [List.take_zero] at HFIN
                    have HHZ := hide hz
                    have HL0 := hide hl0
                    clear he1
                    go_upto_region 7 with ((
                      refine wpList_append_grows _ rfl (.tmp 91) (.tmp 93) 31 rfl 3 i0 (.int .i64 0) 1 8 Tryz.underlying31 hi0 hz0 hz1 hz2 rfl (by omega) none 0 0 (ints []) rfl (fun _ => ⟨rfl, rfl⟩) rfl (fun b h => by cases h) ⟨wr.heap.size, 0, none⟩ 1 1 (ints [(k : Int)]) rfl rfl HX0.out (ints_oneCell _) (by omega) (by unfold maxLen; omega) (by omega) ?_
                      intro v' w7 h1 h2
                      obtain ⟨A7, c7, rfl, ho7, hk7, hb7, hs7⟩ := HFIN.out v' w7 h1 h2
                      have HO7 := hide ho7
                      have HK7' := hide hk7
                      have HB7' := hide hb7
                      clear h1 h2 ho7 hk7 hb7))
                    go_wp2
                    go_roundw
                    case rel => exact ⟨k + 1, _, A7, c7, _, hlt, by go_num, by rw [hdl2], HSC2.out, by rw [hdl2]; exact HO7.out, by rw [List.length_set]; exact HDL.out, HK7'.out, HDN.out, by rw [hdl2]; omega, HB7'.out, hs7⟩
                    case measure => simp [intOf]; omega
                  · injection hv with hA _ hc
                    subst hA
                    subst hc
                    clear r hh
                    have HO0 : Hid (∀ b, some (⟨g, 0, none⟩ : Addr) = some b → ∀ j u, (ints ((rootsL os).take (os.length - x.kids.length)))[j]? = some u → (wr.alloc (Obj.cells #[.int .i64 (k : Int)] 3)).cell? (b.add j) = some u) := hide (fun b hb j u hu => by
                      injection hb with hb
                      subst hb
                      have hj : j < os.length - x.kids.length := by
                        have := (List.getElem?_eq_some_iff.1 hu).1
                        rw [ints_length, List.length_take] at this
                        omega
                      have h2 : (ints (rootsL os))[j]? = some u := by
                        rw [← hu]
                        unfold ints
                        rw [List.getElem?_map, List.getElem?_map, List.getElem?_take_of_lt hj]
                      have h3 := World.ownsRow.cells (World.ownsRow.alloc HOQ.out (Obj.cells #[.int .i64 (k : Int)] 3)) (g := g) rfl
                      exact h3 j u h2)
                    go_upto_region 7 with ((
                      refine wpList_append_grows _ rfl (.tmp 91) (.tmp 93) 31 rfl 3 i0 (.int .i64 0) 1 8 Tryz.underlying31 hi0 hz0 hz1 hz2 rfl (by omega) (some ⟨g, 0, none⟩) (os.length - x.kids.length) (os.length - x.kids.length) (ints ((rootsL os).take (os.length - x.kids.length))) rfl (fun h => by cases h) (by rw [ints_length, List.length_take, rootsL_len]; omega) HO0.out ⟨wr.heap.size, 0, none⟩ 1 1 (ints [(k : Int)]) rfl rfl HX0.out (ints_oneCell _) (by omega) (by unfold maxLen; omega) (by omega) ?_
                      intro v' w7 h1 h2
                      obtain ⟨A7, c7, rfl, ho7, hk7, hb7, hs7⟩ := HFIN.out v' w7 h1 h2
                      have HO7 := hide ho7
                      have HK7' := hide hk7
                      have HB7' := hide hb7
                      clear h1 h2 ho7 hk7 hb7))
                    go_wp2
                    go_roundw
                    case rel => exact ⟨k + 1, _, A7, c7, _, hlt, by go_num, by rw [hdl2], HSC2.out, by rw [hdl2]; exact HO7.out, by rw [List.length_set]; exact HDL.out, HK7'.out, HDN.out, by rw [hdl2]; omega, HB7'.out, hs7⟩
                    case measure => simp [intOf]; omega
        · obtain rfl : k = e.length := by omega
          have HV := hide (validR_some (by omega) (by omega) HSC.out)
          by_cases hos : os.length = 1
          · obtain ⟨x, rfl⟩ : ∃ x, os = [x] := by
              match os, hos with
              | [x], _ => exact ⟨x, rfl⟩
            obtain ⟨m, hm'⟩ : ∃ m, e.length = m + 1 := ⟨e.length - 1, by omega⟩
            have hsc := HSC.out
            rw [hm'] at hsc
            have htop := (scan_top e m x [] hsc).1
            have z0 := HBK.out.int (k := m) (by rw [HDL.out]; omega)
            have e0 := (HDO.out x List.mem_cons_self).2
            rw [htop] at e0
            rw [e0] at z0
            have hmi : (e.length : Int) - 1 = (m : Int) := by omega
            have hml : m < e.length := by omega
            have HF : Hid (validL e = decide ((x.2 : Int) ≤ 40)) := by
              show _ = _
              rw [HV.out, decide_eq_true hos, Bool.true_and]
              show decide (x.2 ≤ 40) = _
              exact decide_eq_decide.2 (by omega)
            clear hsc htop e0 hm' hos
            cases hd : decide ((x.2 : Int) ≤ 40)
            all_goals
              rw [hd] at HF
              go_wp2
              go_ret
              exact ⟨by rw [HF.out]; rfl, HBR.out⟩
          · have hos' : ((os.length : Int) == 1) = false := beq_eq_false_iff_ne.2 (by omega)
            have HF : Hid (validL e = false) := by
              show _ = _
              rw [HV.out, decide_eq_false hos, Bool.false_and]
            clear hos
            go_wp2
            go_ret
            exact ⟨by rw [HF.out]; rfl, HBR.out⟩
end Go.Proofs.YtkomgidcgepknaaGreatDoor

set_option linter.unusedVariables false
set_option linter.unusedSimpArgs false
namespace Go.Proofs.YtkomgidcgepknaaGreatDoor
open Go.RowKit Go.Deep Go.Maps

theorem pair_info : (Tryz.prog.info? 81).map (fun i => (i.zero, i.size, i.bytes)) = some (some (.agg #[.int .i64 0, .int .i64 0]), 2, 16) := by kernel_rfl
theorem padS_zero {n : Nat} {all : List (Int × Int)} (h : all.length < n) : padS n all = padS n (all ++ [(0, 0)]) := by
  unfold padS
  rw [List.length_append, List.append_assoc]
  congr 1
  rw [show n - all.length = (n - (all.length + 1)) + 1 from by omega, List.replicate_succ]
  rfl
theorem padS_reset {n : Nat} {all : List (Int × Int)} (h : all.length < n) (s t : Int × Int) : (padS n (all ++ [s])).set all.length t = padS n (all ++ [t]) := by
  unfold padS
  rw [List.append_assoc, List.set_append_right _ _ (Nat.le_refl _), Nat.sub_self, List.append_assoc]
  simp
theorem cellsS_append' (l m : List (Int × Int)) : cellsS (l ++ m) = cellsS l ++ cellsS m := by
  unfold cellsS
  rw [List.flatMap_append]
theorem cand_kids {all : List (Int × Int)} {x : Nod} (hf : formedL x = true) (h3 : 3 ≤ x.op ∧ x.op ≤ 12) :
    candR x.op ((x.kids.map (spanAt all)).getD 0 (0, 0)) ((x.kids.map (spanAt all)).getD 1 (0, 0)) ((x.kids.map (spanAt all)).getD 2 (0, 0)) = candR x.op (spanAt all (kidAt x 0)) (spanAt all (kidAt x 1)) (spanAt all (kidAt x 2)) := by
  have hops := formed_ops hf
  unfold kidAt
  generalize x.kids = ks at hops ⊢
  generalize x.op = op at hops h3 ⊢
  have : op = 3 ∨ op = 4 ∨ op = 5 ∨ op = 6 ∨ op = 7 ∨ op = 8 ∨ op = 9 ∨ op = 10 ∨ op = 11 ∨ op = 12 := by omega
  rcases this with rfl | rfl | rfl | rfl | rfl | rfl | rfl | rfl | rfl | rfl
  all_goals first
    | (obtain ⟨a, b, rfl⟩ := kids2 (hops.trans rfl); rfl)
    | (obtain ⟨a, b, c, rfl⟩ := kids3 (hops.trans rfl); rfl)
    | (obtain ⟨a, rfl⟩ := kids1 (hops.trans rfl); rfl)

set_option maxHeartbeats 40000000 in
set_option maxRecDepth 20000 in
theorem refBounds_any (A : Option Addr) (c : Nat) (e : List Nod) (A2 : Option Addr) (n2 c2 : Nat) (rs : List Rng) (w : World) (he : ExprAt w w.heap.size A e) (hen : ∀ x ∈ e, x.name.size ≤ maxLen) (hem : e.length ≤ maxLen)
    (hr : RRg w w.heap.size A2 n2 rs) (hrn : n2 ≤ maxLen) (hrm : ∀ r ∈ rs, r.name.size ≤ maxLen) :
    Calls Tryz.prog 53 #[.slice A e.length c, .slice A2 n2 c2] w (BndPost w (boundsL e rs)) := by
  obtain ⟨res, hres⟩ : ∃ res, boundsL e rs = res := ⟨_, rfl⟩
  rw [hres]
  have HE := hide he
  have HEN := hide hen
  have HR := hide hr
  have HRM := hide hrm
  have HLN := hide hr.len
  have HRES : Hid (boundsL e rs = res) := hres
  have HHR := hide hrn
  unfold maxLen at hrn
  clear he hres hen hr hrm
  go_enter Tryz.func53, Tryz.ntmps53
  go_wp2_with fail
  refine (refValidE_any A c e w HE.out HEN.out hem).mono ?_
  rintro en w1 ⟨rfl, hb1⟩
  cases hv2 : validL e
  · obtain rfl : (0, 0, 1) = res := by
      rw [← HRES.out]
      unfold boundsL
      rw [if_pos (.inr hv2)]
    clear HRES hv2
    go_wp2
    go_ret3
    exact ⟨rfl, hb1⟩
  · have HV2 := hide hv2
    have HR1 := hide (HR.out.next hb1)
    obtain ⟨hl1, hl300, hnod⟩ := valid_nodes hv2
    have HNOD := hide hnod
    clear hv2 hnod
    go_wp2_with fail
    refine (refValid_any A2 n2 c2 rs w1 HR1.out HHR.out HRM.out).mono ?_
    rintro en w2 ⟨rfl, hb2⟩
    have hb02 := hb1.trans (hb2.mono hb1.size)
    cases hv : validRs rs
    · obtain rfl : (0, 0, 1) = res := by
        rw [← HRES.out]
        unfold boundsL
        rw [if_pos (.inl hv)]
      clear HRES hv hb1 hb2
      go_wp2
      go_ret3
      exact ⟨rfl, hb02⟩
    · have HV := hide hv
      have hmk := fun (w : World) => make_runS (P := Tryz.prog) 152 81 (.agg #[.int .i64 0, .int .i64 0]) 2 16 Tryz.underlying152 pair_info e.length (by omega) (by omega) w
      have hga : Blk (w2.alloc (Obj.cells (madeCells #[.int .i64 0, .int .i64 0] (e.length * 2)) 81)) w2.heap.size 81 (cellsS (padS e.length [])).toArray := by
        rw [← made_span]
        exact Blk.new _ _ _
      have hb04 : Below w.heap.size w (w2.alloc (Obj.cells (madeCells #[.int .i64 0, .int .i64 0] (e.length * 2)) 81)) := hb02.alloc hb02.size _
      have hwa := hb02.size
      clear hv hb1 hb2 HR1
      go_upto_region 4 with (fail)
      generalize w2.alloc (Obj.cells (madeCells #[.int .i64 0, .int .i64 0] (e.length * 2)) 81) = w4 at hga hb04 ⊢
      generalize w2.heap.size = ga at hga hwa ⊢
      clear hmk hb02
      have HBE : Hid (∀ r, goB rs [] e = .error r → ((0, 0, r) : Int × Int × Int) = res) := hide (fun r hr => by
        rw [← HRES.out]
        unfold boundsL
        rw [if_neg (by rw [HV.out, HV2.out]; simp), hr])
      go_wp2
      go_loopw [8] (fun i wr => ∃ (k : Nat) (all : List (Int × Int)), k ≤ e.length ∧ i = .int .i64 k ∧ goB rs [] (e.take k) = .ok all ∧ Blk wr ga 81 (cellsS (padS e.length all)).toArray ∧ Below w.heap.size w wr) (fun i _ => e.length - (intOf i).toNat)
      case atStart => exact ⟨0, [], Nat.zero_le _, rfl, rfl, hga, hb04⟩
      case round =>
        clear hga hb04
        obtain ⟨k, all, hk, rfl, hgo', hga, hbr⟩ := hrel
        have hal : all.length = k := by
          have := go_len _ _ _ hgo'
          simp at this
          omega
        have HGO := hide hgo'
        have HAL := hide hal
        have HGA := hide hga
        have HBR := hide hbr
        have hgal := hga.lt
        have hwr := hbr.size
        clear hgo' hal hga hbr
        by_cases hlt : k < e.length
        · obtain ⟨be, offe, K, kc, rfl, hbe, x0, x1, x2, x3, hKd⟩ := (HE.out.below HBR.out).at_ hlt
          have hnk := HNOD.out k hlt
          have hxn : (nodAt e k).name.size ≤ maxLen := HEN.out _ (List.mem_of_getElem? (nodAt_get hlt))
          have HST := hide (fun (s : Int × Int) (hs : stepB rs all (nodAt e k) = .ok s) => goB_next hlt HGO.out hs)
          have HER := hide (fun (r : Int) (hs : stepB rs all (nodAt e k) = .error r) => HBE.out r (goB_stop hlt HGO.out hs))
          have HOD := hide (go_ord HV.out (e.take k) [] all (fun s hs => absurd hs List.not_mem_nil) (fun y hy => by
            obtain ⟨i, hi, rfl⟩ := List.getElem_of_mem (List.mem_of_mem_take hy)
            have := HNOD.out i hi
            rw [← nodAt_get' hi] at this
            exact formed_ok this.1) HGO.out)
          generalize nodAt e k = x at x0 x1 x2 x3 hKd hnk hxn HST HER
          have HF := hide hnk.1
          have HKI := hide hnk.2
          have HKD := hide hKd
          have hB5 : Blk (wr.alloc (Obj.cells #[.int .i64 x.op, .int .i64 x.n, .string x.name, .slice K x.kids.length kc] 56)) wr.heap.size 56 #[.int .i64 x.op, .int .i64 x.n, .string x.name, .slice K x.kids.length kc] := Blk.new _ _ _
          have hb5 : Below wr.heap.size wr (wr.alloc (Obj.cells #[.int .i64 x.op, .int .i64 x.n, .string x.name, .slice K x.kids.length kc] 56)) := (Below.refl _ _).alloc (Nat.le_refl _) _
          clear hnk hKd
          go_upto_region 8 with (fail)
          generalize wr.alloc (Obj.cells #[.int .i64 x.op, .int .i64 x.n, .string x.name, .slice K x.kids.length kc] 56) = w5 at hB5 hb5 ⊢
          obtain ⟨c0, c1, c2', c3, _, _, _, _⟩ := blk4 hB5
          have HNB := hide hB5
          have HGA5 := hide (HGA.out.below hb5 hgal)
          have HKD5 : Hid (RI w5 w.heap.size K x.kids.length x.kids) := hide (HKD.out.below (hb5.mono hwr))
          have HB5 := hide (HBR.out.trans (hb5.mono hwr))
          have HR5 := hide (HR.out.below HB5.out)
          have hl5 := hb5.size
          have hnl := hB5.lt
          clear x0 x1 x2 x3 HGA HKD hb5 hB5 HBR
          generalize wr.heap.size = nb at hnl hl5 hgal hwr c0 c1 c2' c3 HNB ⊢
          obtain ⟨s0, s1⟩ := HGA5.out.spanAt_ (i := k) (by rw [padS_len (by rw [HAL.out]; exact hk)]; exact hlt)
          have fa0 := HGA5.out.frozen (k * 2)
          have fa1 := HGA5.out.frozen (k * 2 + 1)
          have HSET : Hid (∀ (s : Int × Int) (wq : World), Blk wq ga 81 (cellsS (padS e.length all)).toArray → Blk ((wq.setCell ⟨ga, k * 2, none⟩ (.int .i64 s.1)).setCell ⟨ga, k * 2 + 1, none⟩ (.int .i64 s.2)) ga 81 (cellsS (padS e.length (all ++ [s]))).toArray) := hide (fun s wq hq => by
            have r6 := hq.setSpan k s
            rw [← HAL.out, padS_set (by rw [HAL.out]; exact hlt), HAL.out] at r6
            exact r6)
          by_cases h1 : x.op = 1
          · have hst : stepB rs all x = .ok (x.n, x.n) := by
              unfold stepB
              rw [if_pos h1]
            have HGN := hide (HST.out _ hst)
            rw [h1] at c0
            clear hst
            have R6 := hide (HSET.out (x.n, x.n) w5 HGA5.out)
            have B6 := hide ((HB5.out.setCell (p := ⟨ga, k * 2, none⟩) hwa (.int .i64 x.n)).setCell (p := ⟨ga, k * 2 + 1, none⟩) hwa (.int .i64 x.n))
            go_wp2
            go_roundw
            case rel => exact ⟨k + 1, all ++ [(x.n, x.n)], by omega, by go_num, HGN.out, R6.out, B6.out⟩
            case measure => simp [intOf]; omega
          · by_cases h2 : x.op = 2
            · have hst : stepB rs all x = match lookJ rs x.name n2 with | some s => .ok s | none => .error 7 := by
                rw [← HLN.out, lookJ_eq HV.out x.name]
                unfold stepB
                rw [if_neg h1, if_pos h2]
                cases look rs x.name <;> rfl
              have HST2 := hide hst
              rw [h2] at c0
              clear hst h2 h1
              go_upto_region 23 with (fail)
              clear s0 s1 fa0 fa1 c0 c1 c2' c3
              go_loopw [10, 11] (fun f i wq => ∃ q : Nat, q ≤ n2 ∧ i = .int .i64 q ∧ f = .bool (lookJ rs x.name q).isSome ∧ Blk wq ga 81 (cellsS (padS e.length (all ++ [(lookJ rs x.name q).getD (0, 0)]))).toArray ∧
                Blk wq nb 56 #[.int .i64 x.op, .int .i64 x.n, .string x.name, .slice K x.kids.length kc] ∧ Below w.heap.size w wq) (fun _ i _ => n2 - (intOf i).toNat)
              case atStart =>
                refine ⟨0, Nat.zero_le _, rfl, rfl, ?_, HNB.out, HB5.out⟩
                have := HGA5.out
                rw [padS_zero (by rw [HAL.out]; exact hlt)] at this
                exact this
              case round =>
                obtain ⟨q, hq, rfl, rfl, hgq, hnq, hbq⟩ := hrel
                have HGQ := hide hgq
                have HNQ := hide hnq
                have HBQ := hide hbq
                have hgql := hgq.lt
                have e2 : wr.cell? ⟨nb, 2, none⟩ = some (.string x.name) := hnq.cell 2
                clear hgq hnq hbq
                by_cases hq2 : q < n2
                · obtain ⟨br, offr, rfl, hbr, z0, z1, z2⟩ := (HR.out.below HBQ.out).at_ hq2
                  have HLK : Hid (lookJ rs x.name (q + 1) = if (rngAt rs q).name = x.name then some ((rngAt rs q).low, (rngAt rs q).high) else lookJ rs x.name q) := rfl
                  generalize rngAt rs q = r at z0 z1 z2 HLK
                  by_cases hn : r.name = x.name
                  · rw [hn] at z0
                    rw [if_pos hn] at HLK
                    obtain ⟨t0, t1⟩ := HGQ.out.spanAt_ (i := k) (by rw [padS_len (by rw [List.length_append, HAL.out]; exact hlt)]; exact hlt)
                    have ft0 := HGQ.out.frozen (k * 2)
                    have ft1 := HGQ.out.frozen (k * 2 + 1)
                    generalize (padS e.length (all ++ [(lookJ rs x.name q).getD (0, 0)])).getD k (0, 0) = sp at t0 t1
                    obtain ⟨sp0, sp1⟩ := sp
                    dsimp only at t0 t1
                    have R7 : Hid (∀ wq : World, Blk wq ga 81 (cellsS (padS e.length (all ++ [(lookJ rs x.name q).getD (0, 0)]))).toArray → Blk ((wq.setCell ⟨ga, k * 2, none⟩ (.int .i64 r.low)).setCell ⟨ga, k * 2 + 1, none⟩ (.int .i64 r.high)) ga 81 (cellsS (padS e.length (all ++ [(r.low, r.high)]))).toArray) := hide (fun wq h => by
                      have r6 := h.setSpan k (r.low, r.high)
                      rw [← HAL.out, padS_reset (by rw [HAL.out]; exact hlt), HAL.out] at r6
                      exact r6)
                    obtain ⟨o, ho⟩ : ∃ o, lookJ rs x.name q = o := ⟨_, rfl⟩
                    rw [ho] at HGQ R7 ⊢
                    clear ho hn
                    go_upto_region 25 with (fail)
                    go_quiet (fail)
                    have HGD := hide (HGQ.out.drewN nq)
                    have HND := hide (HNQ.out.drewN nq)
                    have HBD := hide (below_drewN HBQ.out nq)
                    have z1' : (wr.drewN nq).cell? ⟨br, offr + q * 3 + 1, none⟩ = some (.int .i64 r.low) := z1
                    have z2' : (wr.drewN nq).cell? ⟨br, offr + q * 3 + 2, none⟩ = some (.int .i64 r.high) := z2
                    have t0' : (wr.drewN nq).cell? ⟨ga, k * 2, none⟩ = some (.int .i64 sp0) := t0
                    have t1' : (wr.drewN nq).cell? ⟨ga, k * 2 + 1, none⟩ = some (.int .i64 sp1) := t1
                    have ft0' : (wr.drewN nq).frozen? ⟨ga, k * 2, none⟩ = false := ft0
                    have ft1' : (wr.drewN nq).frozen? ⟨ga, k * 2 + 1, none⟩ = false := ft1
                    generalize wr.drewN nq = w6 at HGD HND HBD z1' z2' t0' t1' ft0' ft1' ⊢
                    clear z0 z1 z2 t0 t1 ft0 ft1 e2 HGQ HNQ HBQ
                    go_upto_region 26 with (fail)
                    go_still_tail 14, (by kernel_rfl)
                    change wpList _ _ _ _ _ w6.drew
                    have HG7 := hide (R7.out _ HGD.out.drew)
                    have HN7 := hide (((HND.out.drew.far (p := ⟨ga, k * 2, none⟩) (by show nb ≠ ga; omega) (.int .i64 r.low)).far (p := ⟨ga, k * 2 + 1, none⟩) (by show nb ≠ ga; omega) (.int .i64 r.high)))
                    have HB7 := hide ((HBD.out.drew.setCell (p := ⟨ga, k * 2, none⟩) hwa (.int .i64 r.low)).setCell (p := ⟨ga, k * 2 + 1, none⟩) hwa (.int .i64 r.high))
                    have t0 : w6.drew.cell? ⟨ga, k * 2, none⟩ = some (.int .i64 sp0) := t0'
                    have t1 : w6.drew.cell? ⟨ga, k * 2 + 1, none⟩ = some (.int .i64 sp1) := t1'
                    have ft0 : w6.drew.frozen? ⟨ga, k * 2, none⟩ = false := ft0'
                    have ft1 : w6.drew.frozen? ⟨ga, k * 2 + 1, none⟩ = false := ft1'
                    generalize w6.drew = w7 at HG7 HN7 HB7 t0 t1 ft0 ft1 ⊢
                    clear t0' t1' ft0' ft1' z1' z2' HGD HND HBD R7
                    go_upto_region 27 with (fail)
                    generalize (w7.setCell ⟨ga, k * 2, none⟩ (.int .i64 r.low)).setCell ⟨ga, k * 2 + 1, none⟩ (.int .i64 r.high) = w8 at HG7 HN7 HB7 ⊢
                    clear t0 t1 ft0 ft1
                    go_wp2
                    go_roundw
                    case rel => exact ⟨q + 1, by omega, by go_num, by rw [HLK.out]; rfl, by rw [HLK.out]; exact HG7.out, HN7.out, HB7.out⟩
                    case measure => simp [intOf]; omega
                  · have hn' := bytes_ne hn
                    rw [if_neg hn] at HLK
                    obtain ⟨o, ho⟩ : ∃ o, lookJ rs x.name q = o := ⟨_, rfl⟩
                    rw [ho] at HGQ HLK ⊢
                    clear ho
                    go_upto_region 25 with (fail)
                    go_quiet (fail)
                    go_wp2
                    go_roundw
                    case rel => exact ⟨q + 1, by omega, by go_num, by rw [HLK.out], by rw [HLK.out]; exact HGQ.out.drewN nq, HNQ.out.drewN nq, below_drewN HBQ.out nq⟩
                    case measure => simp [intOf]; omega
                · obtain rfl : q = n2 := by omega
                  cases hl : lookJ rs x.name q with
                  | none =>
                    rw [hl] at HST2
                    have HRS := hide (HER.out 7 HST2.out)
                    clear hl
                    go_wp2
                    go_ret3
                    rw [← HRS.out]
                    exact ⟨rfl, HBQ.out⟩
                  | some s =>
                    rw [hl] at HST2 HGQ
                    have HGN := hide (HST.out s HST2.out)
                    clear hl
                    go_wp2
                    go_roundw
                    case rel => exact ⟨k + 1, all ++ [s], by omega, by go_num, HGN.out, HGQ.out, HBQ.out⟩
                    case measure => simp [intOf]; omega
            · have hok := formed_ok HF.out
              have hop : 3 ≤ x.op ∧ x.op ≤ 12 := ⟨by have := hok.1; omega, hok.2.1⟩
              have h1' : (x.op == 1) = false := beq_eq_false_iff_ne.2 h1
              have h2' : (x.op == 2) = false := beq_eq_false_iff_ne.2 h2
              have hk3 := formed_kids HF.out
              have HOP := hide hop
              have hw5 : w.heap.size ≤ w5.heap.size := HB5.out.size
              clear hok hop h1 h2
              go_upto_region 11 with (fail)
              clear s0 s1 fa0 fa1 c0 c1 c2'
              go_loopw [12, 13] (fun v i wq => ∃ (j : Nat) (A3 : Option Addr) (c3 : Nat), j ≤ x.kids.length ∧ i = .int .i64 j ∧ v = .slice A3 j c3 ∧ Own wq w5.heap.size 81 2 A3 j c3 (cellsS ((x.kids.take j).map (spanAt all))) ∧ Below w5.heap.size w5 wq) (fun _ i _ => x.kids.length - (intOf i).toNat)
              case atStart => exact ⟨0, none, 0, Nat.zero_le _, rfl, rfl, Own.nil _ _ _ _, Below.refl _ _⟩
              case round =>
                obtain ⟨j, A3, c3v, hj, rfl, rfl, hown, hbq⟩ := hrel
                have HBQ := hide hbq
                have lq := hbq.size
                have hnbq := HNB.out.below hbq hnl
                have e3 : wr.cell? ⟨nb, 3, none⟩ = some (.slice K x.kids.length kc) := hnbq.cell 3
                by_cases hjl : j < x.kids.length
                · obtain ⟨bk, offk, rfl, hbk, gk⟩ := HKD5.out.at_ (k := j) hjl
                  have hkm : nth x.kids j ∈ x.kids := nth_mem hjl
                  have hkb := HKI.out _ hkm
                  obtain ⟨q, hq⟩ := Int.eq_ofNat_of_zero_le hkb.1
                  rw [hq] at gk hkb
                  have hqk : q < k := by omega
                  have HT : Hid ((x.kids.take (j + 1)).map (spanAt all) = (x.kids.take j).map (spanAt all) ++ [all.getD q (0, 0)]) := by
                    show _ = _
                    rw [nth_take hjl, List.map_append, hq]
                    rfl
                  have g0 : wr.cell? ⟨bk, offk + j, none⟩ = some (.int .i64 (q : Int)) := (hbq.cell (p := ⟨bk, offk + j, none⟩) (by show bk < _; omega)).trans gk
                  obtain ⟨a0, a1⟩ := (HGA5.out.below hbq (by omega)).spanAt_ (i := q) (by rw [padS_len (by rw [HAL.out]; exact hk)]; omega)
                  rw [padS_get (by rw [HAL.out]; exact hqk)] at a0 a1
                  generalize all.getD q (0, 0) = sq at a0 a1 HT
                  obtain ⟨sq1, sq2⟩ := sq
                  dsimp only at a0 a1 HT
                  have hqe : q < e.length := by omega
                  have HO7 := hide (hown.alloc (Obj.cells #[.int .i64 sq1, .int .i64 sq2] 81))
                  have RR : Hid (Reads (wr.alloc (Obj.cells #[.int .i64 sq1, .int .i64 sq2] 81)) (wr.heap.size + 1) 2 (some ⟨wr.heap.size, 0, none⟩) 1 (cellsS [(sq1, sq2)])) := hide (reads_new wr #[.int .i64 sq1, .int .i64 sq2] 81 2 1 rfl)
                  have HB7 : Hid (Below w5.heap.size w5 (wr.alloc (Obj.cells #[.int .i64 sq1, .int .i64 sq2] 81))) := hide (hbq.alloc lq _)
                  have l7 : w5.heap.size ≤ (wr.alloc (Obj.cells #[.int .i64 sq1, .int .i64 sq2] 81)).heap.size := by simp; omega
                  clear hown hkm hkb hq gk hbq hnbq
                  go_upto_region 12 with ((
                    refine wpList_app rfl (.tmp 45) (.tmp 54) 152 rfl w5.heap.size 81 (.agg #[.int .i64 0, .int .i64 0]) 2 16 Tryz.underlying152 pair_info rfl (by omega) A3 j c3v _ rfl HO7.out _ _ 1 _ _ rfl RR.out (cellsS_one _) (by unfold maxLen; omega) (by omega) l7 ?_
                    intro A8 c8 w8 hown8 hbel8 _
                    rw [← cellsS_append', ← HT.out] at hown8
                    have HO8 := hide hown8
                    have HB8 := hide (HB7.out.trans hbel8)
                    clear hown8 hbel8))
                  go_wp2
                  go_roundw
                  case rel => exact ⟨j + 1, A8, c8, by omega, by go_num, rfl, HO8.out, HB8.out⟩
                  case measure => simp [intOf]; omega
                · obtain rfl : j = x.kids.length := by omega
                  rw [List.take_length] at hown
                  have hrs : RSp wr wr.heap.size A3 x.kids.length (x.kids.map (spanAt all)) := hown.reads
                  have hsp := spans_snoc HOD.out
                  have hne := cand_ne (op := x.op) (z := spanAt all (kidAt x 2)) (hsp.1 (kidAt x 0)) (hsp.1 (kidAt x 1)) HOP.out
                  have HC := hide (refNodeS_any x.op A3 x.kids.length c3v (x.kids.map (spanAt all)) wr hrs (fun s hs => by
                    obtain ⟨i, _, rfl⟩ := List.mem_map.1 hs
                    exact hsp.2 i) (by rw [List.length_map]; exact formed_ops HF.out) HOP.out)
                  rw [cand_kids HF.out HOP.out, grow_hull hne] at HC
                  have HST2 : Hid (stepB rs all x = if (decide ((nodeR x.op (spanAt all (kidAt x 0)) (spanAt all (kidAt x 1)) (spanAt all (kidAt x 2))).1 < -1000000000000) || decide (1000000000000 < (nodeR x.op (spanAt all (kidAt x 0)) (spanAt all (kidAt x 1)) (spanAt all (kidAt x 2))).2)) = true then .error 9
                    else .ok (nodeR x.op (spanAt all (kidAt x 0)) (spanAt all (kidAt x 1)) (spanAt all (kidAt x 2)))) := hide (step_R hsp.1 hsp.2 HOP.out)
                  have HC2 : Hid (Calls Tryz.prog 106 #[.int .i64 x.op, .slice A3 x.kids.length c3v] wr fun e w' => e = .returned (.agg #[.int .i64 (nodeR x.op (spanAt all (kidAt x 0)) (spanAt all (kidAt x 1)) (spanAt all (kidAt x 2))).1, .int .i64 (nodeR x.op (spanAt all (kidAt x 0)) (spanAt all (kidAt x 1)) (spanAt all (kidAt x 2))).2, .bool true]) ∧ Below wr.heap.size wr w') := HC
                  generalize nodeR x.op (spanAt all (kidAt x 0)) (spanAt all (kidAt x 1)) (spanAt all (kidAt x 2)) = r at HST2 HC2
                  obtain ⟨r1, r2⟩ := r
                  dsimp only at HST2 HC2
                  have e0 : wr.cell? ⟨nb, 0, none⟩ = some (.int .i64 x.op) := hnbq.cell 0
                  have HGA6 := hide (HGA5.out.below hbq (by omega))
                  have HB6 := hide (HB5.out.trans (hbq.mono hw5))
                  have hz6 : ga < wr.heap.size := by omega
                  clear hown hrs hsp hne HC hbq hnbq
                  go_wp2_with fail
                  refine HC2.out.mono ?_
                  rintro en w7 ⟨rfl, hb7⟩
                  have HGA7 := hide (HGA6.out.below hb7 hz6)
                  have HB7 := hide (HB6.out.trans (hb7.mono HB6.out.size))
                  have hz7 := hb7.size
                  have hB8 := Blk.new w7 154 #[.int .i64 r1, .int .i64 r2, .bool true]
                  have hb8 : Below w7.heap.size w7 (w7.alloc (Obj.cells #[.int .i64 r1, .int .i64 r2, .bool true] 154)) := (Below.refl _ _).alloc (Nat.le_refl _) _
                  clear hb7 e0 e3 HC2 HGA6 HB6 HBQ
                  go_upto_region 15 with (fail)
                  generalize w7.alloc (Obj.cells #[.int .i64 r1, .int .i64 r2, .bool true] 154) = w8 at hB8 hb8 ⊢
                  have HGA8 := hide (HGA7.out.below hb8 HGA7.out.lt)
                  have HB8 := hide (HB7.out.trans (hb8.mono HB7.out.size))
                  have p0 : w8.cell? ⟨w7.heap.size, 0, none⟩ = some (.int .i64 r1) := hB8.cell 0
                  have p1 : w8.cell? ⟨w7.heap.size, 1, none⟩ = some (.int .i64 r2) := hB8.cell 1
                  clear hB8 hb8 HGA7 HB7
                  cases y1 : decide (r1 < -1000000000000)
                  · cases y2 : decide (1000000000000 < r2)
                    · rw [y1, y2, if_neg (by decide)] at HST2
                      have HGN := hide (HST.out _ HST2.out)
                      obtain ⟨t0, t1⟩ := HGA8.out.spanAt_ (i := k) (by rw [padS_len (by rw [HAL.out]; exact hk)]; exact hlt)
                      have ft0 := HGA8.out.frozen (k * 2)
                      have ft1 := HGA8.out.frozen (k * 2 + 1)
                      generalize (padS e.length all).getD k (0, 0) = sp at t0 t1
                      obtain ⟨sp0, sp1⟩ := sp
                      dsimp only at t0 t1
                      have R9 := hide (HSET.out (r1, r2) w8 HGA8.out)
                      have B9 := hide ((HB8.out.setCell (p := ⟨ga, k * 2, none⟩) hwa (.int .i64 r1)).setCell (p := ⟨ga, k * 2 + 1, none⟩) hwa (.int .i64 r2))
                      go_wp2
                      go_roundw
                      case rel => exact ⟨k + 1, all ++ [(r1, r2)], by omega, by go_num, HGN.out, R9.out, B9.out⟩
                      case measure => simp [intOf]; omega
                    · rw [y1, y2, if_pos (by decide)] at HST2
                      have HRS := hide (HER.out 9 HST2.out)
                      go_wp2
                      go_ret3
                      rw [← HRS.out]
                      exact ⟨rfl, HB8.out⟩
                  · rw [y1, if_pos (by rfl)] at HST2
                    have HRS := hide (HER.out 9 HST2.out)
                    go_wp2
                    go_ret3
                    rw [← HRS.out]
                    exact ⟨rfl, HB8.out⟩
        · obtain rfl : k = e.length := by omega
          obtain ⟨m, hm⟩ : ∃ m, m = e.length - 1 := ⟨_, rfl⟩
          have hmi : (e.length : Int) - 1 = (m : Int) := by omega
          have hml : m < e.length := by omega
          obtain ⟨s0, s1⟩ := HGA.out.spanAt_ (i := m) (by rw [padS_len (by rw [HAL.out]; exact hk)]; exact hml)
          rw [padS_get (by rw [HAL.out]; exact hml)] at s0 s1
          have hg := HGO.out
          rw [List.take_length] at hg
          have HRS : Hid (((all.getD m (0, 0)).1, (all.getD m (0, 0)).2, 0) = res) := by
            show _ = _
            rw [← HRES.out]
            unfold boundsL
            rw [if_neg (by rw [HV.out, HV2.out]; simp), hg]
            unfold spanAt
            rw [show ((e.length : Int) - 1).toNat = m from by omega]
          generalize all.getD m (0, 0) = sr at s0 s1 HRS
          obtain ⟨sr1, sr2⟩ := sr
          dsimp only at s0 s1 HRS
          clear hm hg HRES
          go_upto_region 30 with (fail)
          go_quiet (fail)
          go_wp2
          go_ret3
          rw [← HRS.out]
          exact ⟨rfl, below_drewN HBR.out nq⟩
end Go.Proofs.YtkomgidcgepknaaGreatDoor


set_option linter.unusedVariables false
set_option linter.unusedSimpArgs false
namespace Go.Proofs.YtkomgidcgepknaaGreatDoor
open Go.RowKit Go.Deep Go.Maps

/-- What the reference's apply returns. -/
def applyR (op a b c : Int) : Int := if op = 5 then mulR a b else opV op a b c
theorem applyR_cases {op a b c : Int} (ha : inB a) (hb : inB b) : (beyondL (opV op a b c) = false ∧ applyR op a b c = opV op a b c) ∨ (beyondL (opV op a b c) = true ∧ beyondL (applyR op a b c) = true) := by
  unfold applyR
  by_cases h : op = 5
  · subst h
    rw [if_pos rfl]
    show (beyondL (a * b) = false ∧ mulR a b = a * b) ∨ (beyondL (a * b) = true ∧ beyondL (mulR a b) = true)
    have key : ∀ m : Int, (MB < m ∨ m < -MB) → beyondL m = true := by
      intro m hm
      cases hq : beyondL m
      · have := inB_beyond.1 hq
        unfold inB at this
        unfold MB at hm
        omega
      · rfl
    rcases mul_R (a := a) (b := b) (inB_beyond.2 ha) (inB_beyond.2 hb) with ⟨h1, h2⟩ | ⟨h1, h2, _⟩ | ⟨h1, h2, _⟩
    · left
      refine ⟨h2, ?_⟩
      rw [h1]
      have h3 := inB_beyond.1 h2
      unfold inB at h3
      unfold timesL MB
      rw [if_neg (by omega), if_neg (by omega)]
    · right
      exact ⟨key _ (.inl h1), by rw [h2]; decide⟩
    · right
      exact ⟨key _ (.inr h1), by rw [h2]; decide⟩
  · rw [if_neg h]
    cases hb : beyondL (opV op a b c)
    · exact .inl ⟨rfl, rfl⟩
    · exact .inr ⟨rfl, rfl⟩
theorem refOne_any (b : Bool) (w : World) : Calls Tryz.prog 143 #[.bool b] w fun e w' => e = .returned (.int .i64 (if b = true then 1 else 0)) ∧ w = w' := by
  cases b
  all_goals
    go_enter Tryz.func143, Tryz.ntmps143
    go_wp2
    go_ret
    exact ⟨rfl, rfl⟩
set_option maxHeartbeats 4000000 in
theorem refApply2_any (op a b : Int) (g n c : Nat) (w : World) (hop : op = 3 ∨ op = 4 ∨ op = 7 ∨ op = 8) (hn : 2 ≤ n) (hn2 : n ≤ 300) (ha : -1000000000000 ≤ a ∧ a ≤ 1000000000000) (hb : -1000000000000 ≤ b ∧ b ≤ 1000000000000)
    (k0 : w.cell? ⟨g, 0, none⟩ = some (.int .i64 a)) (k1 : w.cell? ⟨g, 1, none⟩ = some (.int .i64 b)) :
    Calls Tryz.prog 91 #[.int .i64 op, .slice (some ⟨g, 0, none⟩) n c] w fun e w' => e = .returned (.int .i64 (applyR op a b 0)) ∧ ∃ q, w' = w.drewN q := by
  obtain ⟨ha1, ha2⟩ := ha
  obtain ⟨hb1, hb2⟩ := hb
  rcases hop with rfl | rfl | rfl | rfl
  all_goals
    go_enter Tryz.func91, Tryz.ntmps91
    go_wp2_with fail
    go_quiet (fail)
    go_wp2
    go_ret
    exact ⟨rfl, _, rfl⟩
set_option maxHeartbeats 4000000 in
theorem refApplyMul_any (a b : Int) (g n c : Nat) (w : World) (hn : 2 ≤ n) (hn2 : n ≤ 300) (ha : -1000000000000 ≤ a ∧ a ≤ 1000000000000) (hb : -1000000000000 ≤ b ∧ b ≤ 1000000000000)
    (k0 : w.cell? ⟨g, 0, none⟩ = some (.int .i64 a)) (k1 : w.cell? ⟨g, 1, none⟩ = some (.int .i64 b)) :
    Calls Tryz.prog 91 #[.int .i64 5, .slice (some ⟨g, 0, none⟩) n c] w fun e w' => e = .returned (.int .i64 (applyR 5 a b 0)) ∧ ∃ q, w' = w.drewN q := by
  have HM := hide (fun m => (refMul_any a b (w.drewN m) ha hb : Calls Tryz.prog 141 #[.int .i64 a, .int .i64 b] (w.drewN m) fun e w' => e = .returned (.int .i64 (mulR a b)) ∧ w.drewN m = w'))
  have HR : Hid (applyR 5 a b 0 = mulR a b) := rfl
  generalize mulR a b = m at HM HR
  go_enter Tryz.func91, Tryz.ntmps91
  go_wp2_with fail
  go_quiet ((go_at_call 141; exact quiet_left (HM.out _)))
  go_wp2
  go_ret
  exact ⟨by rw [HR.out]; rfl, _, rfl⟩
set_option maxHeartbeats 4000000 in
theorem refApplyDiv_any (a b : Int) (g n c : Nat) (w : World) (hn : 2 ≤ n) (hn2 : n ≤ 300) (ha : -1000000000000 ≤ a ∧ a ≤ 1000000000000)
    (k0 : w.cell? ⟨g, 0, none⟩ = some (.int .i64 a)) (k1 : w.cell? ⟨g, 1, none⟩ = some (.int .i64 b)) :
    Calls Tryz.prog 91 #[.int .i64 6, .slice (some ⟨g, 0, none⟩) n c] w fun e w' => e = .returned (.int .i64 (applyR 6 a b 0)) ∧ ∃ q, w' = w.drewN q := by
  have HM := hide (fun m => (refDiv_any a b (w.drewN m) ha : Calls Tryz.prog 142 #[.int .i64 a, .int .i64 b] (w.drewN m) fun e w' => e = .returned (.int .i64 (divR a b)) ∧ w.drewN m = w'))
  have HR : Hid (applyR 6 a b 0 = divR a b) := by
    show quot a b = divR a b
    rw [div_R, over_eq]
  generalize divR a b = m at HM HR
  go_enter Tryz.func91, Tryz.ntmps91
  go_wp2_with fail
  go_quiet ((go_at_call 142; exact quiet_left (HM.out _)))
  go_wp2
  go_ret
  exact ⟨by rw [HR.out]; rfl, _, rfl⟩
set_option maxHeartbeats 4000000 in
theorem refApplyCmp_any (op a b : Int) (g n c : Nat) (w : World) (hop : op = 10 ∨ op = 11) (hn : 2 ≤ n) (hn2 : n ≤ 300)
    (k0 : w.cell? ⟨g, 0, none⟩ = some (.int .i64 a)) (k1 : w.cell? ⟨g, 1, none⟩ = some (.int .i64 b)) :
    Calls Tryz.prog 91 #[.int .i64 op, .slice (some ⟨g, 0, none⟩) n c] w fun e w' => e = .returned (.int .i64 (applyR op a b 0)) ∧ ∃ q, w' = w.drewN q := by
  have HN := hide (fun q m => (refOne_any q (w.drewN m) : Calls _ _ _ _ _))
  rcases hop with rfl | rfl
  · have HR : Hid (applyR 10 a b 0 = if decide (a < b) = true then 1 else 0) := by
      show (if a < b then (1 : Int) else 0) = _
      simp only [decide_eq_true_eq]
    cases hq : decide (a < b)
    all_goals
      rw [hq] at HR
      go_enter Tryz.func91, Tryz.ntmps91
      go_wp2_with fail
      go_quiet ((go_at_call 143; exact quiet_left (HN.out _ _)))
      go_wp2
      go_ret
      exact ⟨by rw [HR.out]; rfl, _, rfl⟩
  · have HR : Hid (applyR 11 a b 0 = if (a == b) = true then 1 else 0) := by
      show (if a = b then (1 : Int) else 0) = _
      simp only [beq_iff_eq]
    cases hq : (a == b)
    all_goals
      rw [hq] at HR
      go_enter Tryz.func91, Tryz.ntmps91
      go_wp2_with fail
      go_quiet ((go_at_call 143; exact quiet_left (HN.out _ _)))
      go_wp2
      go_ret
      exact ⟨by rw [HR.out]; rfl, _, rfl⟩
set_option maxHeartbeats 4000000 in
theorem refApplyNeg_any (a : Int) (g n c : Nat) (w : World) (hn : 1 ≤ n) (hn2 : n ≤ 300) (ha : -1000000000000 ≤ a ∧ a ≤ 1000000000000)
    (k0 : w.cell? ⟨g, 0, none⟩ = some (.int .i64 a)) :
    Calls Tryz.prog 91 #[.int .i64 12, .slice (some ⟨g, 0, none⟩) n c] w fun e w' => e = .returned (.int .i64 (applyR 12 a 0 0)) ∧ ∃ q, w' = w.drewN q := by
  obtain ⟨ha1, ha2⟩ := ha
  go_enter Tryz.func91, Tryz.ntmps91
  go_wp2
  go_ret
  exact ⟨rfl, 0, rfl⟩
set_option maxHeartbeats 4000000 in
theorem refApplyIf_any (a b d : Int) (g n c : Nat) (w : World) (hn : 3 ≤ n) (hn2 : n ≤ 300)
    (k0 : w.cell? ⟨g, 0, none⟩ = some (.int .i64 a)) (k1 : w.cell? ⟨g, 1, none⟩ = some (.int .i64 b)) (k2 : w.cell? ⟨g, 2, none⟩ = some (.int .i64 d)) :
    Calls Tryz.prog 91 #[.int .i64 9, .slice (some ⟨g, 0, none⟩) n c] w fun e w' => e = .returned (.int .i64 (applyR 9 a b d)) ∧ ∃ q, w' = w.drewN q := by
  have HR : Hid (applyR 9 a b d = if 0 < a then b else d) := rfl
  by_cases h : 0 < a
  · have h' : decide (0 < a) = true := decide_eq_true h
    rw [if_pos h] at HR
    go_enter Tryz.func91, Tryz.ntmps91
    go_wp2
    go_ret
    exact ⟨by rw [HR.out]; rfl, 0, rfl⟩
  · have h' : decide (0 < a) = false := decide_eq_false h
    rw [if_neg h] at HR
    go_enter Tryz.func91, Tryz.ntmps91
    go_wp2
    go_ret
    exact ⟨by rw [HR.out]; rfl, 0, rfl⟩
end Go.Proofs.YtkomgidcgepknaaGreatDoor

set_option linter.unusedVariables false
set_option linter.unusedSimpArgs false
namespace Go.Proofs.YtkomgidcgepknaaGreatDoor
open Go.RowKit Go.Deep Go.Maps

theorem hasV_take {l : List Vr} {k j : Nat} {t : ByteArray} (hj : j < k) (hk : k ≤ l.length) (h : (vrAt l j).name = t) : hasV (l.take k) t = true := by
  unfold hasV
  rw [List.any_eq_true]
  refine ⟨vrAt l j, List.mem_of_getElem? (i := j) (by rw [List.getElem?_take, if_pos hj]; exact vrAt_get (by omega)), decide_eq_true h⟩
theorem hasV_none {l : List Vr} {k : Nat} {t : ByteArray} (hk : k ≤ l.length) (h : ∀ j < k, (vrAt l j).name ≠ t) : hasV (l.take k) t = false := by
  apply hasV_of
  intro v hv hn
  obtain ⟨j, hj, rfl⟩ := List.getElem_of_mem hv
  have hj2 : j < k := by rw [List.length_take] at hj; omega
  rw [List.getElem_take] at hn
  have := h j hj2
  unfold vrAt at this
  rw [List.getD_eq_getElem?_getD, List.getElem?_eq_getElem (by omega)] at this
  exact this hn
set_option maxHeartbeats 4000000 in
set_option maxRecDepth 20000 in
theorem refVars_any (A : Option Addr) (n c : Nat) (l : List Vr) (w : World) (hl : RVr w w.heap.size A n l) (hn : n ≤ maxLen) (hm : ∀ r ∈ l, r.name.size ≤ maxLen) :
    Calls Tryz.prog 40 #[.slice A n c] w fun e w' => e = .returned (.bool (validVs l)) ∧ Below w.heap.size w w' := by
  unfold maxLen at hn
  have HL := hide hl
  have HM := hide hm
  have HLN := hide hl.len
  have b0 : Below w.heap.size w w := Below.refl _ _
  clear hl hm
  go_enter Tryz.func40, Tryz.ntmps40
  go_wp2
  go_loopw [3] (fun i wr => ∃ k : Nat, k ≤ n ∧ i = .int .i64 k ∧ (∀ j, j < k → hasV (l.take j) (vrAt l j).name = false ∧ okV (vrAt l j) = true) ∧ Below w.heap.size w wr) (fun i _ => n - (intOf i).toNat)
  case atStart => exact ⟨0, Nat.zero_le _, rfl, fun j hj => absurd hj (Nat.not_lt_zero _), b0⟩
  case round =>
    clear b0
    obtain ⟨k, hk, rfl, hv, hbr⟩ := hrel
    have HV := hide hv
    have HB := hide hbr
    clear hv hbr
    obtain ⟨wo, hwo⟩ : ∃ wo : World, wo = wr := ⟨_, rfl⟩
    subst hwo
    by_cases hlt : k < n
    · have hkl : k < l.length := by rw [HLN.out]; exact hlt
      obtain ⟨b, off, rfl, hb, g0, g1⟩ := (HL.out.next HB.out).at_ hlt
      have hnm : (vrAt l k).name.size ≤ maxLen := HM.out _ (List.mem_of_getElem? (vrAt_get hkl))
      have HEQ : Hid (∀ j < k, ∃ b' off', wo.cell? ⟨b', off' + j * 2, none⟩ = some (.string (vrAt l j).name) ∧ b' = b ∧ off' = off) := by
        intro j hj
        obtain ⟨b', off', hA', hb', y0, -⟩ := (HL.out.next HB.out).at_ (i := j) (show j < n by omega)
        injection hA' with hA'
        injection hA' with h1 h2
        exact ⟨b', off', y0, h1.symm, h2.symm⟩
      have HBAD := hide (fun h : hasV (l.take k) (vrAt l k).name = true ∨ okV (vrAt l k) = false => validVs_bad hkl h)
      have HOK : Hid (okV (vrAt l k) = (nameB (vrAt l k).name && !(decide ((vrAt l k).val < -1000000000000) || decide (1000000000000 < (vrAt l k).val)))) := rfl
      have HGO : Hid (hasV (l.take k) (vrAt l k).name = false → okV (vrAt l k) = true → ∀ j, j < k + 1 → hasV (l.take j) (vrAt l j).name = false ∧ okV (vrAt l j) = true) := hide (fun h1 h2 j hj => by
        by_cases hjk : j < k
        · exact HV.out j hjk
        · obtain rfl : j = k := by omega
          exact ⟨h1, h2⟩)
      generalize vrAt l k = r at g0 g1 hnm HBAD HOK HGO
      have HN := hide (refName_any r.name wo hnm)
      cases e1 : nameB r.name
      · rw [e1] at HN HOK
        have HF : Hid (validVs l = false) := hide (HBAD.out (.inr (by rw [HOK.out]; rfl)))
        go_wp2_with fail
        refine HN.out.mono ?_
        rintro en w' ⟨rfl, rfl⟩
        go_wp2
        go_ret
        exact ⟨by rw [HF.out]; rfl, HB.out⟩
      · rw [e1] at HN HOK
        cases e2 : decide (r.val < -1000000000000)
        · rw [e2] at HOK
          cases e3 : decide (1000000000000 < r.val)
          · rw [e3] at HOK
            go_wp2_with fail
            refine HN.out.mono ?_
            rintro en w' ⟨rfl, rfl⟩
            have q0 : wo.cell? ⟨b, off + k * 2, none⟩ = some (.string r.name) := g0
            have HEQ2 : Hid (∀ j < k, ∃ b' off', wo.cell? ⟨b', off' + j * 2, none⟩ = some (.string (vrAt l j).name) ∧ b' = b ∧ off' = off) := HEQ
            have HB2 := hide HB.out
            clear HEQ HB HN
            go_wp2
            go_loopw [4] (fun i wr => ∃ j : Nat, j ≤ k ∧ i = .int .i64 j ∧ (∀ x < j, (vrAt l x).name ≠ r.name) ∧ ∃ m, wr = wo.drewN m) (fun i _ => k - (intOf i).toNat)
            case atStart => exact ⟨0, Nat.zero_le _, rfl, fun x hx => absurd hx (by omega), 0, rfl⟩
            case round =>
              obtain ⟨j, hj, rfl, hall, m, hwm⟩ := hrel
              have HA := hide hall
              have HW := hide hwm
              have p0 : wr.cell? ⟨b, off + k * 2, none⟩ = some (.string r.name) := by rw [hwm]; exact q0
              have HBW : Hid (Below w.heap.size w wr) := by show _; rw [hwm]; exact below_drewN HB2.out m
              clear hall hwm
              by_cases hjk : j < k
              · obtain ⟨b', off', y0', rfl, rfl⟩ := HEQ2.out j hjk
                have y0 : wr.cell? ⟨b', off' + j * 2, none⟩ = some (.string (vrAt l j).name) := by rw [HW.out]; exact y0'
                have HJ : Hid ((vrAt l j).name = r.name → validVs l = false) := fun h => HBAD.out (.inl (hasV_take hjk (by omega) h))
                have HK : Hid ((vrAt l j).name ≠ r.name → ∀ x < j + 1, (vrAt l x).name ≠ r.name) := fun h x hx => by
                  by_cases hxj : x < j
                  · exact HA.out x hxj
                  · obtain rfl : x = j := by omega
                    exact h
                clear y0'
                generalize (vrAt l j).name = t at y0 HJ HK
                by_cases ht : t = r.name
                · have HF := hide (HJ.out ht)
                  rw [ht] at y0
                  go_upto_region 9 with (fail)
                  go_quiet (fail)
                  go_wp2
                  go_ret
                  exact ⟨by rw [HF.out]; rfl, below_drewN HBW.out _⟩
                · have HX := hide (HK.out ht)
                  have ht' := bytes_ne ht
                  go_upto_region 9 with (fail)
                  go_quiet (fail)
                  go_wp2
                  go_roundw
                  case rel => exact ⟨j + 1, by omega, by go_num, HX.out, m + nq, by rw [HW.out, World.drewN_drewN]⟩
                  case measure => simp [intOf]; omega
              · obtain rfl : j = k := by omega
                have HN2 := hide (hasV_none (l := l) (t := r.name) (Nat.le_of_lt hkl) HA.out)
                go_wp2
                go_roundw
                case rel => exact ⟨j + 1, by omega, by go_num, HGO.out HN2.out (by rw [HOK.out]; rfl), HBW.out⟩
                case measure => simp [intOf]; omega
          · rw [e3] at HOK
            have HF : Hid (validVs l = false) := hide (HBAD.out (.inr (by rw [HOK.out]; rfl)))
            go_wp2_with fail
            refine HN.out.mono ?_
            rintro en w' ⟨rfl, rfl⟩
            go_wp2
            go_ret
            exact ⟨by rw [HF.out]; rfl, HB.out⟩
        · rw [e2] at HOK
          have HF : Hid (validVs l = false) := hide (HBAD.out (.inr (by rw [HOK.out]; rfl)))
          go_wp2_with fail
          refine HN.out.mono ?_
          rintro en w' ⟨rfl, rfl⟩
          go_wp2
          go_ret
          exact ⟨by rw [HF.out]; rfl, HB.out⟩
    · obtain rfl : k = n := by omega
      have HF : Hid (validVs l = true) := validVs_good fun j hj => HV.out j (by rw [← HLN.out]; exact hj)
      go_wp2
      go_ret
      exact ⟨by rw [HF.out]; rfl, HB.out⟩

/-- The reference's apply, at operands of its own row. -/
theorem refApplyAll_any {x : Nod} (hf : formedL x = true) (h3 : 3 ≤ x.op) (A : Option Addr) (c base : Nat) (zs : List Int) (w : World) (ho : Own w base 3 1 A x.kids.length c (ints zs)) (hz : ∀ i, inB (zs.getD i 0)) :
    Calls Tryz.prog 91 #[.int .i64 x.op, .slice A x.kids.length c] w fun e w' => e = .returned (.int .i64 (applyR x.op (zs.getD 0 0) (zs.getD 1 0) (zs.getD 2 0))) ∧ ∃ q, w' = w.drewN q := by
  have hl : zs.length = x.kids.length := by
    have := ho.len
    rw [ints_length] at this
    omega
  have hk := formed_k hf
  have hok := (formed_ok hf).2.1
  have hok1 := (formed_ok hf).1
  have h300 := formed_kids hf
  unfold operands at hk
  rw [if_neg (by omega)] at hk
  have hpos : 0 < x.kids.length := by
    by_cases e12 : x.op = 12
    · rw [if_pos e12] at hk; omega
    · rw [if_neg e12] at hk
      by_cases e9 : x.op = 9
      · rw [if_pos e9] at hk; omega
      · rw [if_neg e9, if_pos (by omega)] at hk; omega
  obtain ⟨g, cap, hv, hgb, hlt⟩ := World.ownsRow.form ho hpos
  injection hv with hA _ hc
  subst hA
  have hcell := (World.ownsRow.cells ho (g := g) rfl)
  have hat : ∀ i, i < x.kids.length → w.cell? ⟨g, i, none⟩ = some (.int .i64 (zs.getD i 0)) := fun i hi => by
    have h1 := ints_get (xs := zs) (k := i) (by omega)
    have h2 := hcell i _ h1
    rwa [add_lit, Nat.zero_add] at h2
  have hnil : ∀ i, x.kids.length ≤ i → zs.getD i 0 = 0 := fun i hi => by
    rw [List.getD_eq_getElem?_getD, List.getElem?_eq_none (by omega)]
    rfl
  by_cases e12 : x.op = 12
  · rw [if_pos e12] at hk
    have hk1 : x.kids.length = 1 := by omega
    rw [hnil 1 (by omega), hnil 2 (by omega), e12]
    exact refApplyNeg_any _ g _ c w (by omega) (by omega) (hz 0) (hat 0 (by omega))
  · rw [if_neg e12] at hk
    by_cases e9 : x.op = 9
    · rw [if_pos e9] at hk
      rw [e9]
      exact refApplyIf_any _ _ _ g _ c w (by omega) (by omega) (hat 0 (by omega)) (hat 1 (by omega)) (hat 2 (by omega))
    · rw [if_neg e9, if_pos (by omega)] at hk
      rw [hnil 2 (by omega)]
      have hk2 : 2 ≤ x.kids.length := by omega
      by_cases e5 : x.op = 5
      · rw [e5]
        exact refApplyMul_any _ _ g _ c w hk2 (by omega) (hz 0) (hz 1) (hat 0 (by omega)) (hat 1 (by omega))
      · by_cases e6 : x.op = 6
        · rw [e6]
          exact refApplyDiv_any _ _ g _ c w hk2 (by omega) (hz 0) (hat 0 (by omega)) (hat 1 (by omega))
        · by_cases e10 : x.op = 10 ∨ x.op = 11
          · exact refApplyCmp_any _ _ _ g _ c w e10 hk2 (by omega) (hat 0 (by omega)) (hat 1 (by omega))
          · exact refApply2_any _ _ _ g _ c w (by omega) hk2 (by omega) (hz 0) (hz 1) (hat 0 (by omega)) (hat 1 (by omega))

theorem sigV_step {l : List Vr} (hv : validVs l = true) {j : Nat} (hj : j < l.length) (t : ByteArray) : sigV (l.take (j + 1)) t = if (vrAt l j).name = t then some (vrAt l j).val else sigV (l.take j) t := by
  rw [vr_take hj, sigV_snoc]
  by_cases h : (vrAt l j).name = t
  · rw [if_pos h, if_pos h]
    have := (validVs_out hv j hj).1
    rw [h] at this
    rw [sigV_none this]
  · rw [if_neg h, if_neg h]
    cases sigV (l.take j) t <;> rfl
end Go.Proofs.YtkomgidcgepknaaGreatDoor

set_option linter.unusedVariables false
set_option linter.unusedSimpArgs false
namespace Go.Proofs.YtkomgidcgepknaaGreatDoor
open Go.RowKit Go.Deep Go.Maps

set_option maxHeartbeats 8000000 in
set_option maxRecDepth 100000 in
theorem refEval_any (A : Option Addr) (c : Nat) (e : List Nod) (A2 : Option Addr) (n2 c2 : Nat) (rs : List Vr) (w : World) (he : ExprAt w w.heap.size A e) (hen : ∀ x ∈ e, x.name.size ≤ maxLen) (hlen : e.length ≤ maxLen)
    (hl : RVr w w.heap.size A2 n2 rs) (hln : n2 ≤ maxLen) (hrn : ∀ r ∈ rs, r.name.size ≤ maxLen) :
    Calls Tryz.prog 45 #[.slice A e.length c, .slice A2 n2 c2] w fun en w' => en = .returned (.tuple #[.int .i64 (evalM e rs).1, .int .i64 (evalM e rs).2]) ∧ Below w.heap.size w w' := by
  obtain ⟨res, hres⟩ : ∃ res, evalM e rs = res := ⟨_, rfl⟩
  rw [hres]
  have HRES := hide hres
  have HE := hide he
  have HL := hide hl
  have HEN := hide hen
  have HLEN := hide hlen
  have HLN := hide hln
  have HRN := hide hrn
  have HRL := hide hl.len
  have HBAD : Hid (validVs rs = false ∨ validL e = false → res = (0, 1)) := hide (fun h => by
    rw [← HRES.out]
    unfold evalM
    rw [if_pos h])
  unfold maxLen at hlen hln
  clear he hl hen hrn hres
  go_enter Tryz.func45, Tryz.ntmps45
  go_wp2_with fail
  refine (refValidE_any A c e w HE.out HEN.out HLEN.out).mono ?_
  rintro en w1 ⟨rfl, hb1⟩
  have HE1 := hide (HE.out.next hb1)
  have HL1 := hide (HL.out.next hb1)
  have HB1 := hide hb1
  clear hb1 HE HL
  cases hve : validL e
  · have HR := hide (HBAD.out (.inr hve))
    clear hve
    go_wp2
    go_ret2
    exact ⟨by rw [HR.out]; rfl, HB1.out⟩
  · go_wp2_with fail
    refine (refVars_any A2 n2 c2 rs w1 HL1.out HLN.out HRN.out).mono ?_
    rintro en w2 ⟨rfl, hb2⟩
    have HE2 := hide (HE1.out.next hb2)
    have HL2 := hide (HL1.out.next hb2)
    have HB2 := hide (HB1.out.trans (hb2.mono HB1.out.size))
    clear hb2 HE1 HL1 HB1
    cases hv : validVs rs
    · have HR := hide (HBAD.out (.inl hv))
      clear hve hv
      go_wp2
      go_ret2
      exact ⟨by rw [HR.out]; rfl, HB2.out⟩
    · have HG : Hid (res = endM (goM (sigV rs) [] e) e.length) := hide (by
        rw [← HRES.out, evalM_of hv hve]
        unfold endM
        cases goM (sigV rs) [] e <;> rfl)
      have HND := hide (valid_nodes hve)
      have HVT := hide hv
      clear HBAD HRES hve hv
      obtain ⟨σ, hσ⟩ : ∃ σ, σ = sigV rs := ⟨_, rfl⟩
      have HSG := hide hσ
      rw [← hσ] at HG
      have hl300 : e.length ≤ 300 := HND.out.2.1
      have hl1 : 1 ≤ e.length := HND.out.1
      clear hσ
      go_wp2
      go_loopw [6, 7] (fun t6 t7 wr => ∃ (k : Nat) (vs : List Int) (A6 : Option Addr) (c6 : Nat), k ≤ e.length ∧ t7 = .int .i64 k ∧ t6 = .slice A6 k c6 ∧ goM σ [] (e.take k) = Except.ok vs ∧ Own wr w2.heap.size 3 1 A6 k c6 (ints vs) ∧ Below w2.heap.size w2 wr) (fun _ t7 _ => e.length - (intOf t7).toNat)
      case atStart => exact ⟨0, [], none, 0, Nat.zero_le _, rfl, rfl, rfl, Own.nil _ _ _ _, Below.refl _ _⟩
      case round =>
        obtain ⟨k, vs, A6, c6, hk, rfl, rfl, hgo, hown, hbr⟩ := hrel
        have hvl : vs.length = k := by
          have := goM_len _ _ _ hgo
          simp at this
          omega
        have HVI := hide (goM_in _ [] vs (fun v hv => absurd hv List.not_mem_nil) hgo)
        have HGO := hide hgo
        have HVL := hide hvl
        have HOW := hide hown
        have HB := hide hbr
        clear hgo hown hbr hvl
        obtain ⟨wo, hwo⟩ : ∃ wo : World, wo = wr := ⟨_, rfl⟩
        subst hwo
        by_cases hlt : k < e.length
        · obtain ⟨be, offe, K, kc, rfl, hbe, x0, x1, x2, x3, hKd⟩ := (HE2.out.below HB.out).at_ hlt
          have hnk := HND.out.2.2 k hlt
          have hxn1 : (nodAt e k).name.size ≤ maxLen := HEN.out _ (List.mem_of_getElem? (nodAt_get hlt))
          have HST := hide (fun (v : Int) (hs : stepM σ vs (nodAt e k) = Except.ok v) => goM_next hlt HGO.out hs)
          have HER := hide (fun (r : Int) (hs : stepM σ vs (nodAt e k) = Except.error r) => goM_stop hlt HGO.out hs)
          generalize nodAt e k = x at x0 x1 x2 x3 hKd hnk hxn1 HST HER
          have HFM := hide hnk.1
          have HKI := hide hnk.2
          have HKD := hide hKd
          have HXN := hide hxn1
          have hk3 := formed_kids hnk.1
          clear hnk hKd hxn1
          by_cases h1 : x.op = 1
          · have hst : stepM σ vs x = if beyondL x.n = true then Except.error 9 else Except.ok x.n := by
              unfold stepM
              rw [if_pos h1]
            rw [h1] at x0
            -- TAIL wo x.n ONE
            cases hbd : beyondL x.n
            · have HN := hide (HST.out _ (by rw [hst, hbd, if_neg (by decide)]))
              have hin := inB_beyond.1 hbd
              unfold inB at hin
              have e1 : decide (x.n < -1000000000000) = false := decide_eq_false (by omega)
              have e2 : decide (1000000000000 < x.n) = false := decide_eq_false (by omega)
              have hmx : k + 1 ≤ maxLen := by unfold maxLen; omega
              have hq5 : w2.heap.size ≤ (wo.alloc (Obj.cells #[.int .i64 x.n] 3)).heap.size := by
                have := HB.out.size
                rw [World.size_alloc]
                omega
              have RR : Hid (Reads (wo.alloc (Obj.cells #[.int .i64 x.n] 3)) (wo.heap.size + 1) 1 (some ⟨wo.heap.size, 0, none⟩) 1 (ints [x.n])) := hide (reads_new wo #[.int .i64 x.n] 3 1 1 rfl)
              have HOA := hide (HOW.out.alloc (Obj.cells #[.int .i64 x.n] 3))
              have HBA := hide (HB.out.alloc HB.out.size (Obj.cells #[.int .i64 x.n] 3))
              clear hin hbd
              go_wp2_with (at_builtin; refine wpList_app rfl (.tmp 102) (.tmp 104) 31 rfl w2.heap.size 3 (.int .i64 0) 1 8 Tryz.underlying31 int_info rfl (by omega) _ k c6 (ints vs) rfl HOA.out _ _ 1 _ _ rfl RR.out (ints_oneCell _) hmx (by omega) hq5 ?_; intro A7 c7 w7 hown7 hbw7 _; rw [← ints_append] at hown7; have HO7 := hide hown7; have HB7 := hide (HBA.out.trans hbw7); clear hown7 hbw7)
              go_roundw
              case rel => exact ⟨k + 1, _, A7, c7, by omega, by go_num, rfl, HN.out, HO7.out, HB7.out⟩
              case measure => simp [intOf]; omega
            · have HN := hide (HER.out _ (by rw [hst, hbd, if_pos rfl]))
              have HRS : Hid (res = (0, 9)) := by
                show _ = _
                rw [HG.out, HN.out]
                rfl
              have hcases : (decide (x.n < -1000000000000) = true) ∨ (decide (x.n < -1000000000000) = false ∧ decide (1000000000000 < x.n) = true) := by
                unfold beyondL at hbd
                cases hq : decide (x.n < -1000000000000)
                · rw [show (-MB : Int) = -1000000000000 from rfl, hq, Bool.false_or] at hbd
                  exact .inr ⟨rfl, hbd⟩
                · exact .inl rfl
              clear hbd
              rcases hcases with e1 | ⟨e1, e2⟩
              all_goals
                go_wp2
                go_ret2
                exact ⟨by rw [HRS.out]; rfl, HB2.out.trans (HB.out.mono HB2.out.size)⟩
            -- END
          · have h1' : (x.op == 1) = false := beq_eq_false_iff_ne.2 h1
            by_cases h2 : x.op = 2
            · rw [h2] at x0
              have HX2 := hide (show ∀ wq : World, Below wo.heap.size wo wq → wq.cell? ⟨be, offe + k * 4 + 2, none⟩ = some (.string x.name) from fun wq hb => (hb.cell (p := ⟨be, offe + k * 4 + 2, none⟩) (by show be < _; have := HB.out.size; omega)).trans x2)
              have HST2 : Hid (stepM σ vs x = match sigV rs x.name with | some v => (if beyondL v = true then Except.error 9 else Except.ok v) | none => Except.error 7) := hide (by
                unfold stepM
                rw [if_neg h1, if_pos h2, HSG.out]
                cases sigV rs x.name <;> rfl)
              go_wp2
              go_loopw [8, 9, 10] (fun t8 t9 t10 wq => ∃ j : Nat, j ≤ n2 ∧ t10 = .int .i64 j ∧ t9 = .bool (sigV (rs.take j) x.name).isSome ∧ t8 = .int .i64 ((sigV (rs.take j) x.name).getD 0) ∧ ∃ q, wq = wo.drewN q) (fun _ _ t10 _ => n2 - (intOf t10).toNat)
              case atStart => exact ⟨0, Nat.zero_le _, rfl, rfl, rfl, 0, rfl⟩
              case round =>
                obtain ⟨j, hj, rfl, rfl, rfl, q, hwq⟩ := hrel
                have HWQ := hide hwq
                have hbq : Below wo.heap.size wo wr := by rw [hwq]; exact drewN_below _ _ _
                have HBQ := hide hbq
                have y2 := HX2.out wr hbq
                clear hwq hbq x0 x1 x2 x3
                by_cases hjl : j < n2
                · obtain ⟨bl, offl, rfl, hbl, g0, g1⟩ := (HL2.out.below (HB.out.trans (HBQ.out.mono HB.out.size))).at_ hjl
                  have HSS := hide (sigV_step HVT.out (j := j) (by rw [HRL.out]; exact hjl) x.name)
                  generalize vrAt rs j = v at g0 g1 HSS
                  generalize sigV (rs.take j) x.name = o at HSS ⊢
                  by_cases ht : v.name = x.name
                  · rw [ht] at g0
                    rw [if_pos ht] at HSS
                    go_upto_region 22 with (fail)
                    go_quiet (fail)
                    have g1' : (wr.drewN nq).cell? ⟨bl, offl + j * 2 + 1, none⟩ = some (.int .i64 v.val) := g1
                    go_wp2
                    go_roundw
                    case rel => exact ⟨j + 1, by omega, by go_num, by rw [HSS.out]; rfl, by rw [HSS.out]; rfl, q + nq, by rw [HWQ.out, World.drewN_drewN]⟩
                    case measure => simp [intOf]; omega
                  · have ht' := bytes_ne ht
                    rw [if_neg ht] at HSS
                    go_upto_region 22 with (fail)
                    go_quiet (fail)
                    go_wp2
                    go_roundw
                    case rel => exact ⟨j + 1, by omega, by go_num, by rw [HSS.out], by rw [HSS.out], q + nq, by rw [HWQ.out, World.drewN_drewN]⟩
                    case measure => simp [intOf]; omega
                · obtain rfl : j = n2 := by omega
                  have HTL : Hid (rs.take j = rs) := hide (by rw [List.take_of_length_le (by rw [HRL.out]; exact Nat.le_refl _)])
                  rw [HTL.out]
                  have HOW2 := hide (HOW.out.below HBQ.out)
                  have HB3 := hide (HB.out.trans (HBQ.out.mono HB.out.size))
                  generalize sigV rs x.name = o at HST2 ⊢
                  cases o with
                  | none =>
                    have HN := hide (HER.out _ HST2.out)
                    have HRS : Hid (res = (0, 7)) := by
                      show _ = _
                      rw [HG.out, HN.out]
                      rfl
                    show _
                    simp only [Option.isSome_none, Option.getD_none]
                    go_wp2
                    go_ret2
                    exact ⟨by rw [HRS.out]; rfl, HB2.out.trans (HB3.out.mono HB2.out.size)⟩
                  | some v =>
                    have hst : stepM σ vs x = if beyondL v = true then Except.error 9 else Except.ok v := HST2.out
                    simp only [Option.isSome_some, Option.getD_some]
                    clear HOW HB
                    -- TAIL wr v TWO
                    cases hbd : beyondL v
                    · have HN := hide (HST.out _ (by rw [hst, hbd, if_neg (by decide)]))
                      have hin := inB_beyond.1 hbd
                      unfold inB at hin
                      have e1 : decide (v < -1000000000000) = false := decide_eq_false (by omega)
                      have e2 : decide (1000000000000 < v) = false := decide_eq_false (by omega)
                      have hmx : k + 1 ≤ maxLen := by unfold maxLen; omega
                      have hq5 : w2.heap.size ≤ (wr.alloc (Obj.cells #[.int .i64 v] 3)).heap.size := by
                        have := HB3.out.size
                        rw [World.size_alloc]
                        omega
                      have RR : Hid (Reads (wr.alloc (Obj.cells #[.int .i64 v] 3)) (wr.heap.size + 1) 1 (some ⟨wr.heap.size, 0, none⟩) 1 (ints [v])) := hide (reads_new wr #[.int .i64 v] 3 1 1 rfl)
                      have HOA := hide (HOW2.out.alloc (Obj.cells #[.int .i64 v] 3))
                      have HBA := hide (HB3.out.alloc HB3.out.size (Obj.cells #[.int .i64 v] 3))
                      clear hin hbd
                      go_wp2_with (at_builtin; refine wpList_app rfl (.tmp 102) (.tmp 104) 31 rfl w2.heap.size 3 (.int .i64 0) 1 8 Tryz.underlying31 int_info rfl (by omega) _ k c6 (ints vs) rfl HOA.out _ _ 1 _ _ rfl RR.out (ints_oneCell _) hmx (by omega) hq5 ?_; intro A7 c7 w7 hown7 hbw7 _; rw [← ints_append] at hown7; have HO7 := hide hown7; have HB7 := hide (HBA.out.trans hbw7); clear hown7 hbw7)
                      go_roundw
                      case rel => exact ⟨k + 1, _, A7, c7, by omega, by go_num, rfl, HN.out, HO7.out, HB7.out⟩
                      case measure => simp [intOf]; omega
                    · have HN := hide (HER.out _ (by rw [hst, hbd, if_pos rfl]))
                      have HRS : Hid (res = (0, 9)) := by
                        show _ = _
                        rw [HG.out, HN.out]
                        rfl
                      have hcases : (decide (v < -1000000000000) = true) ∨ (decide (v < -1000000000000) = false ∧ decide (1000000000000 < v) = true) := by
                        unfold beyondL at hbd
                        cases hq : decide (v < -1000000000000)
                        · rw [show (-MB : Int) = -1000000000000 from rfl, hq, Bool.false_or] at hbd
                          exact .inr ⟨rfl, hbd⟩
                        · exact .inl rfl
                      clear hbd
                      rcases hcases with e1 | ⟨e1, e2⟩
                      all_goals
                        go_wp2
                        go_ret2
                        exact ⟨by rw [HRS.out]; rfl, HB2.out.trans (HB3.out.mono HB2.out.size)⟩
                    -- END
            · have h2' : (x.op == 2) = false := beq_eq_false_iff_ne.2 h2
              have h3 : 3 ≤ x.op := by have := (formed_ok HFM.out).1; omega
              have HCS : Hid ((beyondL (applyR x.op (kidV vs x x.kids.length 0) (kidV vs x x.kids.length 1) (kidV vs x x.kids.length 2)) = false → stepM σ vs x = Except.ok (applyR x.op (kidV vs x x.kids.length 0) (kidV vs x x.kids.length 1) (kidV vs x x.kids.length 2))) ∧
                  (beyondL (applyR x.op (kidV vs x x.kids.length 0) (kidV vs x x.kids.length 1) (kidV vs x x.kids.length 2)) = true → stepM σ vs x = Except.error 9)) := hide (by
                rw [stepM_op HFM.out h3]
                rcases applyR_cases (op := x.op) (c := kidV vs x x.kids.length 2) (kidV_in HVI.out x x.kids.length 0) (kidV_in HVI.out x x.kids.length 1) with ⟨c1, c2⟩ | ⟨c1, c2⟩
                · rw [c2, c1]
                  exact ⟨fun _ => by rw [if_neg (by decide)], fun h => by cases h⟩
                · rw [c2, c1]
                  exact ⟨fun h => (by cases h), fun _ => by rw [if_pos rfl]⟩)
              have HX := hide (show ∀ wq : World, Below wo.heap.size wo wq → wq.cell? ⟨be, offe + k * 4, none⟩ = some (.int .i64 x.op) ∧ wq.cell? ⟨be, offe + k * 4 + 3, none⟩ = some (.slice K x.kids.length kc) from fun wq hb => ⟨(hb.cell (p := ⟨be, offe + k * 4, none⟩) (by show be < _; have := HB.out.size; omega)).trans x0, (hb.cell (p := ⟨be, offe + k * 4 + 3, none⟩) (by show be < _; have := HB.out.size; omega)).trans x3⟩)
              go_wp2
              go_loopw [11, 12] (fun s j wq => ∃ (t : Nat) (A4 : Option Addr) (c4 : Nat), t ≤ x.kids.length ∧ j = .int .i64 t ∧ s = .slice A4 t c4 ∧ Own wq wo.heap.size 3 1 A4 t c4 (ints (opsL vs x t)) ∧ Below wo.heap.size wo wq) (fun _ j _ => x.kids.length - (intOf j).toNat)
              case atStart => exact ⟨0, none, 0, Nat.zero_le _, rfl, rfl, Own.nil _ _ _ _, Below.refl _ _⟩
              case round =>
                obtain ⟨t, A4, c4, ht, rfl, rfl, hown, hbq⟩ := hrel
                have HOK := hide hown
                have HBQ := hide hbq
                obtain ⟨y0, y3⟩ := HX.out wr hbq
                have HVO := hide (HOW.out.below hbq)
                clear hown hbq x0 x1 x2 x3
                by_cases htl : t < x.kids.length
                · obtain ⟨bk, offk, rfl, hbk, g0⟩ := HKD.out.at_ htl
                  have g0' : wr.cell? ⟨bk, offk + t, none⟩ = some (.int .i64 (nth x.kids t)) := (HBQ.out.cell (p := ⟨bk, offk + t, none⟩) (by show bk < _; have := HB.out.size; omega)).trans g0
                  have hkk : 0 ≤ nth x.kids t ∧ nth x.kids t < k := HKI.out _ (getD_mem x.kids t 0 htl)
                  obtain ⟨m, hm⟩ : ∃ m : Nat, nth x.kids t = m := ⟨(nth x.kids t).toNat, by omega⟩
                  have hmk : m < k := by omega
                  obtain ⟨g6, cap6, hv6, hgb6, hlt6⟩ := World.ownsRow.form HVO.out (by omega)
                  injection hv6 with hA6 _ hc6
                  subst hA6
                  have gm : wr.cell? ⟨g6, m, none⟩ = some (.int .i64 (valAt vs (kidAt x t))) := by
                    have h1 := ints_get (xs := vs) (k := m) (by rw [HVL.out]; exact hmk)
                    have h2 := (World.ownsRow.cells HVO.out (g := g6) rfl) m _ h1
                    rw [add_lit, Nat.zero_add] at h2
                    rw [h2]
                    have e1 : kidAt x t = m := hm
                    rw [e1]
                    rfl
                  rw [hm] at g0'
                  have HNX := hide (opsL_next vs x t)
                  obtain ⟨u, hu⟩ : ∃ u, u = valAt vs (kidAt x t) := ⟨_, rfl⟩
                  rw [← hu] at gm HNX
                  clear hu hm g0 hkk
                  have hd1 : decide ((m : Int) < 0) = false := decide_eq_false (by omega)
                  have hd2 : decide ((k : Int) ≤ (m : Int)) = false := decide_eq_false (by omega)
                  have hd3 : decide (k ≤ m) = false := decide_eq_false (by omega)
                  have hme : (m : Int) < (k : Int) := by omega
                  have hmx : t + 1 ≤ maxLen := by unfold maxLen; omega
                  have hq5 : wo.heap.size ≤ (wr.alloc (Obj.cells #[.int .i64 u] 3)).heap.size := by
                    have := HBQ.out.size
                    rw [World.size_alloc]
                    omega
                  have RR : Hid (Reads (wr.alloc (Obj.cells #[.int .i64 u] 3)) (wr.heap.size + 1) 1 (some ⟨wr.heap.size, 0, none⟩) 1 (ints [u])) := hide (reads_new wr #[.int .i64 u] 3 1 1 rfl)
                  have HOA := hide (HOK.out.alloc (Obj.cells #[.int .i64 u] 3))
                  have HBA := hide (HBQ.out.alloc HBQ.out.size (Obj.cells #[.int .i64 u] 3))
                  go_wp2_with (at_builtin; refine wpList_app rfl (.tmp 42) (.tmp 54) 31 rfl wo.heap.size 3 (.int .i64 0) 1 8 Tryz.underlying31 int_info rfl (by omega) A4 t c4 (ints (opsL vs x t)) rfl HOA.out _ _ 1 _ _ rfl RR.out (ints_oneCell _) hmx (by omega) hq5 ?_; intro A7 c7 w7 hown7 hbw7 _; rw [← ints_append, ← HNX.out] at hown7; have HO7 := hide hown7; have HB7 := hide (HBA.out.trans hbw7); clear hown7 hbw7)
                  go_roundw
                  case rel => exact ⟨t + 1, by omega, by go_num, A7, c7, ⟨rfl, rfl, rfl⟩, HO7.out, HB7.out⟩
                  case measure => simp [intOf]; omega
                · obtain rfl : t = x.kids.length := by omega
                  have hd5 : decide (x.kids.length < x.kids.length) = false := decide_eq_false (by omega)
                  have HKV : Hid (∀ i, (opsL vs x x.kids.length).getD i 0 = kidV vs x x.kids.length i) := fun i => opsL_get vs x _ i
                  have HIN : Hid (∀ i, inB ((opsL vs x x.kids.length).getD i 0)) := fun i => by rw [opsL_get]; exact kidV_in HVI.out x _ i
                  go_wp2_with fail
                  refine (refApplyAll_any HFM.out h3 A4 c4 wo.heap.size _ wr HOK.out HIN.out).mono ?_
                  rintro en w6 ⟨rfl, q, rfl⟩
                  rw [HKV.out 0, HKV.out 1, HKV.out 2]
                  generalize applyR x.op (kidV vs x x.kids.length 0) (kidV vs x x.kids.length 1) (kidV vs x x.kids.length 2) = v at HCS ⊢
                  have HOW2 := hide (HVO.out.drewN q)
                  have HB3 := hide (below_drewN (HB.out.trans (HBQ.out.mono HB.out.size)) q)
                  clear HOW HB HKV HIN HOK HBQ HVO y0 y3 HX
                  generalize wr.drewN q = w6 at HOW2 HB3 ⊢
                  -- TAIL w6 v OP
                  cases hbd : beyondL v
                  · have HN := hide (HST.out _ (HCS.out.1 hbd))
                    have hin := inB_beyond.1 hbd
                    unfold inB at hin
                    have e1 : decide (v < -1000000000000) = false := decide_eq_false (by omega)
                    have e2 : decide (1000000000000 < v) = false := decide_eq_false (by omega)
                    have hmx : k + 1 ≤ maxLen := by unfold maxLen; omega
                    have hq5 : w2.heap.size ≤ (w6.alloc (Obj.cells #[.int .i64 v] 3)).heap.size := by
                      have := HB3.out.size
                      rw [World.size_alloc]
                      omega
                    have RR : Hid (Reads (w6.alloc (Obj.cells #[.int .i64 v] 3)) (w6.heap.size + 1) 1 (some ⟨w6.heap.size, 0, none⟩) 1 (ints [v])) := hide (reads_new w6 #[.int .i64 v] 3 1 1 rfl)
                    have HOA := hide (HOW2.out.alloc (Obj.cells #[.int .i64 v] 3))
                    have HBA := hide (HB3.out.alloc HB3.out.size (Obj.cells #[.int .i64 v] 3))
                    clear hin hbd
                    go_wp2_with (at_builtin; refine wpList_app rfl (.tmp 102) (.tmp 104) 31 rfl w2.heap.size 3 (.int .i64 0) 1 8 Tryz.underlying31 int_info rfl (by omega) _ k c6 (ints vs) rfl HOA.out _ _ 1 _ _ rfl RR.out (ints_oneCell _) hmx (by omega) hq5 ?_; intro A7 c7 w7 hown7 hbw7 _; rw [← ints_append] at hown7; have HO7 := hide hown7; have HB7 := hide (HBA.out.trans hbw7); clear hown7 hbw7)
                    go_roundw
                    case rel => exact ⟨k + 1, _, A7, c7, by omega, by go_num, rfl, HN.out, HO7.out, HB7.out⟩
                    case measure => simp [intOf]; omega
                  · have HN := hide (HER.out _ (HCS.out.2 hbd))
                    have HRS : Hid (res = (0, 9)) := by
                      show _ = _
                      rw [HG.out, HN.out]
                      rfl
                    have hcases : (decide (v < -1000000000000) = true) ∨ (decide (v < -1000000000000) = false ∧ decide (1000000000000 < v) = true) := by
                      unfold beyondL at hbd
                      cases hq : decide (v < -1000000000000)
                      · rw [show (-MB : Int) = -1000000000000 from rfl, hq, Bool.false_or] at hbd
                        exact .inr ⟨rfl, hbd⟩
                      · exact .inl rfl
                    clear hbd
                    rcases hcases with e1 | ⟨e1, e2⟩
                    all_goals
                      go_wp2
                      go_ret2
                      exact ⟨by rw [HRS.out]; rfl, HB2.out.trans (HB3.out.mono HB2.out.size)⟩
                  -- END
        · obtain rfl : k = e.length := by omega
          have HRS : Hid (res = (lastI vs, 0)) := by
            show _ = _
            have := HGO.out
            rw [List.take_length] at this
            rw [HG.out, this]
            show (vs.getD (e.length - 1) 0, (0 : Int)) = _
            rw [← HVL.out]
            rfl
          obtain ⟨g6, cap6, hv6, hgb6, hlt6⟩ := World.ownsRow.form HOW.out (by omega)
          injection hv6 with hA6 _ hc6
          subst hA6
          have HLS : Hid (nth vs (e.length - 1) = lastI vs) := hide (by unfold lastI nth; rw [HVL.out])
          have h1 := ints_get (xs := vs) (k := e.length - 1) (by rw [HVL.out]; omega)
          have g := (World.ownsRow.cells HOW.out (g := g6) rfl) (e.length - 1) _ h1
          rw [add_lit, Nat.zero_add, HLS.out] at g
          have HBW := hide (HB2.out.trans (HB.out.mono HB2.out.size))
          clear h1 HOW HB HLS HVI HGO HND HSG HG HE2 HL2
          generalize lastI vs = lv at g HRS
          generalize e.length = n at g ⊢ hl1 hl300
          obtain ⟨n1, rfl⟩ : ∃ n1, n = n1 + 1 := ⟨n - 1, by omega⟩
          rw [Nat.add_sub_cancel] at g
          go_wp2
          go_ret2
          exact ⟨by rw [HRS.out]; rfl, HBW.out⟩
end Go.Proofs.YtkomgidcgepknaaGreatDoor
