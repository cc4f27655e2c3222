/-
  MeritVariables: from the walk to the card.
-/
import Derived.Test.YtkofmiegnfgbjaaGreatDoorBndR
import Derived.Test.YtkofmiegnfgbjaaGreatDoorMeA
import Derived.Test.YtkofmiegnfgbjaaGreatDoorMeB
import Derived.Test.YtkofmiegnfgbjaaGreatDoorNmR
import Derived.Test.YtkofmiegnfgbjaaGreatDoorRefN
import Derived.Test.YtkofmiegnfgbjaaGreatDoorMeE
import Derived.Test.YtkofmiegnfgbjaaGreatDoorMerB
import Derived.Test.YtkofmiegnfgbjaaGreatDoorHeadM
import Derived.Test.YtkofmiegnfgbjaaGreatDoorNmW
import Derived.Test.YtkofmiegnfgbjaaGreatDoorFewB
import Derived.Test.YtkofmiegnfgbjaaGreatDoorExpH
import Derived.Test.YtkofmiegnfgbjaaGreatDoorOpnV
import Derived.Test.YtkofmiegnfgbjaaGreatDoorLiftK
import Derived.Test.YtkofmiegnfgbjaaGreatDoorRows
import Derived.Test.YtkofmiegnfgbjaaGreatDoorTie
import Derived.Test.YtkofmiegnfgbjaaGreatDoorCards
import Derived.ShutString
import Derived.ChangeMaps5
import Derived.ChangeOld
import Derived.LaidMore
import Derived.Stop.Joined
import Derived.SevenTiedAt
set_option linter.unusedVariables false
set_option linter.unusedSimpArgs false
namespace Go.Proofs.YtkofmiegnfgbjaaGreatDoor
open Go.RowKit Go.Deep
set_option maxHeartbeats 2000000 in
theorem refDiv_any (a b : Int) (w : World) (ha : -1000000000000 ≤ a ∧ a ≤ 1000000000000) : Calls Tryz.prog 167 #[.int .i64 a, .int .i64 b] w fun e w' => e = .returned (.int .i64 (divR a b)) ∧ w = w' := by
  have hd := tdiv_bdM a b ha
  obtain ⟨ha1, ha2⟩ := ha
  by_cases hb : b = 0
  · subst hb
    go_enter Tryz.func167, Tryz.ntmps167
    go_wp2
    go_ret
    exact ⟨rfl, rfl⟩
  · have hb' : (b == 0) = false := beq_eq_false_iff_ne.2 hb
    have HO : Hid (divR a b = if a.tmod b ≠ 0 ∧ (decide (a < 0) ≠ decide (b < 0)) then a.tdiv b - 1 else a.tdiv b) := by
      show _ = _
      unfold divR
      rw [if_neg hb]
    by_cases hm : a.tmod b = 0
    · have hm' : (a.tmod b != 0) = false := bne_eq_false_iff_eq.2 hm
      rw [if_neg (fun h => h.1 hm)] at HO
      clear hm
      go_enter Tryz.func167, Tryz.ntmps167
      go_wp2
      go_ret
      exact ⟨by rw [HO.out]; rfl, rfl⟩
    · have hm' : (a.tmod b != 0) = true := bne_iff_ne.2 hm
      by_cases hs : decide (a < 0) = decide (b < 0)
      · rw [if_neg (fun h => h.2 hs)] at HO
        have hs' : (decide (a < 0) == decide (b < 0)) = true := beq_iff_eq.2 hs
        clear hm hs
        go_enter Tryz.func167, Tryz.ntmps167
        go_wp2
        go_ret
        exact ⟨by rw [HO.out]; rfl, rfl⟩
      · rw [if_pos ⟨hm, hs⟩] at HO
        have hs' : (decide (a < 0) == decide (b < 0)) = false := beq_eq_false_iff_ne.2 hs
        clear hm hs
        go_enter Tryz.func167, Tryz.ntmps167
        go_wp2
        go_ret
        exact ⟨by rw [HO.out]; rfl, rfl⟩
theorem prod_fitR {a b : Int} (h : ¬ (0 < max a (-a) ∧ 1000000000000 / (max a (-a)) < max b (-b))) : -1000000000000 ≤ a * b ∧ a * b ≤ 1000000000000 := by
  by_cases h0 : 0 < max a (-a)
  · have h1 : max b (-b) ≤ 1000000000000 / (max a (-a)) := by
      have : ¬ (1000000000000 / (max a (-a)) < max b (-b)) := fun x => h ⟨h0, x⟩
      omega
    have h2 : max b (-b) * max a (-a) ≤ 1000000000000 := (Int.le_ediv_iff_mul_le h0).1 h1
    rcases Int.le_total 0 a with ha | ha <;> rcases Int.le_total 0 b with hb | hb
    · rw [Int.max_eq_left (by omega), Int.max_eq_left (by omega)] at h2
      have := Int.mul_nonneg ha hb
      rw [Int.mul_comm] at h2
      omega
    · rw [Int.max_eq_right (by omega), Int.max_eq_left (by omega), Int.neg_mul, Int.mul_comm] at h2
      have := Int.mul_nonneg ha (show 0 ≤ -b by omega)
      rw [Int.mul_neg] at this
      omega
    · rw [Int.max_eq_left (by omega), Int.max_eq_right (by omega), Int.mul_neg, Int.mul_comm] at h2
      have := Int.mul_nonneg (show 0 ≤ -a by omega) hb
      rw [Int.neg_mul] at this
      omega
    · rw [Int.max_eq_right (by omega), Int.max_eq_right (by omega), Int.neg_mul_neg, Int.mul_comm] at h2
      have := Int.mul_nonneg (show 0 ≤ -a by omega) (show 0 ≤ -b by omega)
      rw [Int.neg_mul_neg] at this
      omega
  · have : a = 0 := by omega
    subst this
    rw [Int.zero_mul]
    decide

set_option maxHeartbeats 2000000 in
theorem refMul_any (a b : Int) (w : World) (ha : -1000000000000 ≤ a ∧ a ≤ 1000000000000) (hb : -1000000000000 ≤ b ∧ b ≤ 1000000000000) : Calls Tryz.prog 166 #[.int .i64 a, .int .i64 b] w fun e w' => e = .returned (.int .i64 (mulR a b)) ∧ w = w' := by
  have HO : Hid (mulR a b = if absL a = 0 ∨ absL b ≤ (1000000000000 : Int).tdiv (absL a) then a * b else if decide (a < 0) ≠ decide (b < 0) then -1000000000001 else 1000000000001) := rfl
  have hA : absL a = max a (-a) := by unfold absL; omega
  have hB : absL b = max b (-b) := by unfold absL; omega
  have hA2 : absL a ≤ 1000000000000 ∧ 0 ≤ absL a := by unfold absL; omega
  have hB2 : absL b ≤ 1000000000000 ∧ 0 ≤ absL b := by unfold absL; omega
  have hA' : max a (-a) = absL a := hA.symm
  have hB' : max b (-b) = absL b := hB.symm
  have hfit : (absL a = 0 ∨ absL b ≤ (1000000000000 : Int).tdiv (absL a)) → -1000000000000 ≤ a * b ∧ a * b ≤ 1000000000000 := by
    intro h
    rcases h with h | h
    · have : a = 0 := by unfold absL at h; omega
      subst this
      simp
    · by_cases h0 : absL a = 0
      · have : a = 0 := by unfold absL at h0; omega
        subst this
        simp
      · refine prod_fitR (fun hh => ?_)
        rw [← hA, ← hB] at hh
        rw [Int.tdiv_eq_ediv_of_nonneg (by omega)] at h
        omega
  have htd : (1000000000000 : Int).tdiv (absL a) = 1000000000000 / absL a := Int.tdiv_eq_ediv_of_nonneg (by omega)
  rw [htd] at HO hfit
  have HFIT := hide hfit
  clear hfit hA hB htd
  by_cases h0 : absL a = 0
  · have h0' : (absL a == 0) = true := beq_iff_eq.2 h0
    rw [if_pos (.inl h0)] at HO
    have hf := HFIT.out (.inl h0)
    have hw : wrap64 (a * b) = a * b := W_in (by omega)
    clear h0
    go_enter Tryz.func166, Tryz.ntmps166
    go_wp2
    go_ret
    exact ⟨by rw [HO.out]; rfl, rfl⟩
  · have h0' : (absL a == 0) = false := beq_eq_false_iff_ne.2 h0
    by_cases h1 : absL b ≤ 1000000000000 / absL a
    · have h1' : decide (absL b ≤ 1000000000000 / absL a) = true := decide_eq_true h1
      rw [if_pos (.inr h1)] at HO
      have hf := HFIT.out (.inr h1)
      have hw : wrap64 (a * b) = a * b := W_in (by omega)
      clear h1
      go_enter Tryz.func166, Tryz.ntmps166
      go_wp2
      go_ret
      exact ⟨by rw [HO.out]; rfl, rfl⟩
    · have h1' : decide (absL b ≤ 1000000000000 / absL a) = false := decide_eq_false h1
      rw [if_neg (fun h => h.elim h0 h1)] at HO
      clear h1
      by_cases hs : decide (a < 0) = decide (b < 0)
      · rw [if_neg (fun h => h hs)] at HO
        have hs' : (decide (a < 0) == decide (b < 0)) = true := beq_iff_eq.2 hs
        clear hs
        go_enter Tryz.func166, Tryz.ntmps166
        go_wp2
        go_ret
        exact ⟨by rw [HO.out]; rfl, rfl⟩
      · rw [if_pos hs] at HO
        have hs' : (decide (a < 0) == decide (b < 0)) = false := beq_eq_false_iff_ne.2 hs
        clear hs
        go_enter Tryz.func166, Tryz.ntmps166
        go_wp2
        go_ret
        exact ⟨by rw [HO.out]; rfl, rfl⟩
end Go.Proofs.YtkofmiegnfgbjaaGreatDoor

set_option linter.unusedVariables false
set_option linter.unusedSimpArgs false
namespace Go.Proofs.YtkofmiegnfgbjaaGreatDoor
open Go.RowKit Go.Deep Go.Maps

/-- What the reference's apply returns. -/
def applyR (op a b c : Int) : Int := if op = 5 then mulR a b else opV op a b c
theorem applyR_cases {op a b c : Int} (ha : inB a) (hb : inB b) : (beyondL (opV op a b c) = false ∧ applyR op a b c = opV op a b c) ∨ (beyondL (opV op a b c) = true ∧ beyondL (applyR op a b c) = true) := by
  unfold applyR
  by_cases h : op = 5
  · subst h
    rw [if_pos rfl]
    show (beyondL (a * b) = false ∧ mulR a b = a * b) ∨ (beyondL (a * b) = true ∧ beyondL (mulR a b) = true)
    have key : ∀ m : Int, (MB < m ∨ m < -MB) → beyondL m = true := by
      intro m hm
      cases hq : beyondL m
      · have := inB_beyond.1 hq
        unfold inB at this
        unfold MB at hm
        omega
      · rfl
    rcases mul_R (a := a) (b := b) (inB_beyond.2 ha) (inB_beyond.2 hb) with ⟨h1, h2⟩ | ⟨h1, h2, _⟩ | ⟨h1, h2, _⟩
    · left
      refine ⟨h2, ?_⟩
      rw [h1]
      have h3 := inB_beyond.1 h2
      unfold inB at h3
      unfold timesL MB
      rw [if_neg (by omega), if_neg (by omega)]
    · right
      exact ⟨key _ (.inl h1), by rw [h2]; decide⟩
    · right
      exact ⟨key _ (.inr h1), by rw [h2]; decide⟩
  · rw [if_neg h]
    cases hb : beyondL (opV op a b c)
    · exact .inl ⟨rfl, rfl⟩
    · exact .inr ⟨rfl, rfl⟩
theorem refOne_any (b : Bool) (w : World) : Calls Tryz.prog 168 #[.bool b] w fun e w' => e = .returned (.int .i64 (if b = true then 1 else 0)) ∧ w = w' := by
  cases b
  all_goals
    go_enter Tryz.func168, Tryz.ntmps168
    go_wp2
    go_ret
    exact ⟨rfl, rfl⟩
set_option maxHeartbeats 4000000 in
theorem refApply2_any (op a b : Int) (g n c : Nat) (w : World) (hop : op = 3 ∨ op = 4 ∨ op = 7 ∨ op = 8) (hn : 2 ≤ n) (hn2 : n ≤ 300) (ha : -1000000000000 ≤ a ∧ a ≤ 1000000000000) (hb : -1000000000000 ≤ b ∧ b ≤ 1000000000000)
    (k0 : w.cell? ⟨g, 0, none⟩ = some (.int .i64 a)) (k1 : w.cell? ⟨g, 1, none⟩ = some (.int .i64 b)) :
    Calls Tryz.prog 123 #[.int .i64 op, .slice (some ⟨g, 0, none⟩) n c] w fun e w' => e = .returned (.int .i64 (applyR op a b 0)) ∧ ∃ q, w' = w.drewN q := by
  obtain ⟨ha1, ha2⟩ := ha
  obtain ⟨hb1, hb2⟩ := hb
  rcases hop with rfl | rfl | rfl | rfl
  all_goals
    go_enter Tryz.func123, Tryz.ntmps123
    go_wp2_with fail
    go_quiet (fail)
    go_wp2
    go_ret
    exact ⟨rfl, _, rfl⟩
set_option maxHeartbeats 4000000 in
theorem refApplyMul_any (a b : Int) (g n c : Nat) (w : World) (hn : 2 ≤ n) (hn2 : n ≤ 300) (ha : -1000000000000 ≤ a ∧ a ≤ 1000000000000) (hb : -1000000000000 ≤ b ∧ b ≤ 1000000000000)
    (k0 : w.cell? ⟨g, 0, none⟩ = some (.int .i64 a)) (k1 : w.cell? ⟨g, 1, none⟩ = some (.int .i64 b)) :
    Calls Tryz.prog 123 #[.int .i64 5, .slice (some ⟨g, 0, none⟩) n c] w fun e w' => e = .returned (.int .i64 (applyR 5 a b 0)) ∧ ∃ q, w' = w.drewN q := by
  have HM := hide (fun m => (refMul_any a b (w.drewN m) ha hb : Calls Tryz.prog 166 #[.int .i64 a, .int .i64 b] (w.drewN m) fun e w' => e = .returned (.int .i64 (mulR a b)) ∧ w.drewN m = w'))
  have HR : Hid (applyR 5 a b 0 = mulR a b) := rfl
  generalize mulR a b = m at HM HR
  go_enter Tryz.func123, Tryz.ntmps123
  go_wp2_with fail
  go_quiet ((go_at_call 166; exact quiet_left (HM.out _)))
  go_wp2
  go_ret
  exact ⟨by rw [HR.out]; rfl, _, rfl⟩
set_option maxHeartbeats 4000000 in
theorem refApplyDiv_any (a b : Int) (g n c : Nat) (w : World) (hn : 2 ≤ n) (hn2 : n ≤ 300) (ha : -1000000000000 ≤ a ∧ a ≤ 1000000000000)
    (k0 : w.cell? ⟨g, 0, none⟩ = some (.int .i64 a)) (k1 : w.cell? ⟨g, 1, none⟩ = some (.int .i64 b)) :
    Calls Tryz.prog 123 #[.int .i64 6, .slice (some ⟨g, 0, none⟩) n c] w fun e w' => e = .returned (.int .i64 (applyR 6 a b 0)) ∧ ∃ q, w' = w.drewN q := by
  have HM := hide (fun m => (refDiv_any a b (w.drewN m) ha : Calls Tryz.prog 167 #[.int .i64 a, .int .i64 b] (w.drewN m) fun e w' => e = .returned (.int .i64 (divR a b)) ∧ w.drewN m = w'))
  have HR : Hid (applyR 6 a b 0 = divR a b) := by
    show quot a b = divR a b
    rw [div_R, over_eq]
  generalize divR a b = m at HM HR
  go_enter Tryz.func123, Tryz.ntmps123
  go_wp2_with fail
  go_quiet ((go_at_call 167; exact quiet_left (HM.out _)))
  go_wp2
  go_ret
  exact ⟨by rw [HR.out]; rfl, _, rfl⟩
set_option maxHeartbeats 4000000 in
theorem refApplyCmp_any (op a b : Int) (g n c : Nat) (w : World) (hop : op = 10 ∨ op = 11) (hn : 2 ≤ n) (hn2 : n ≤ 300)
    (k0 : w.cell? ⟨g, 0, none⟩ = some (.int .i64 a)) (k1 : w.cell? ⟨g, 1, none⟩ = some (.int .i64 b)) :
    Calls Tryz.prog 123 #[.int .i64 op, .slice (some ⟨g, 0, none⟩) n c] w fun e w' => e = .returned (.int .i64 (applyR op a b 0)) ∧ ∃ q, w' = w.drewN q := by
  have HN := hide (fun q m => (refOne_any q (w.drewN m) : Calls _ _ _ _ _))
  rcases hop with rfl | rfl
  · have HR : Hid (applyR 10 a b 0 = if decide (a < b) = true then 1 else 0) := by
      show (if a < b then (1 : Int) else 0) = _
      simp only [decide_eq_true_eq]
    cases hq : decide (a < b)
    all_goals
      rw [hq] at HR
      go_enter Tryz.func123, Tryz.ntmps123
      go_wp2_with fail
      go_quiet ((go_at_call 168; exact quiet_left (HN.out _ _)))
      go_wp2
      go_ret
      exact ⟨by rw [HR.out]; rfl, _, rfl⟩
  · have HR : Hid (applyR 11 a b 0 = if (a == b) = true then 1 else 0) := by
      show (if a = b then (1 : Int) else 0) = _
      simp only [beq_iff_eq]
    cases hq : (a == b)
    all_goals
      rw [hq] at HR
      go_enter Tryz.func123, Tryz.ntmps123
      go_wp2_with fail
      go_quiet ((go_at_call 168; exact quiet_left (HN.out _ _)))
      go_wp2
      go_ret
      exact ⟨by rw [HR.out]; rfl, _, rfl⟩
set_option maxHeartbeats 4000000 in
theorem refApplyNeg_any (a : Int) (g n c : Nat) (w : World) (hn : 1 ≤ n) (hn2 : n ≤ 300) (ha : -1000000000000 ≤ a ∧ a ≤ 1000000000000)
    (k0 : w.cell? ⟨g, 0, none⟩ = some (.int .i64 a)) :
    Calls Tryz.prog 123 #[.int .i64 12, .slice (some ⟨g, 0, none⟩) n c] w fun e w' => e = .returned (.int .i64 (applyR 12 a 0 0)) ∧ ∃ q, w' = w.drewN q := by
  obtain ⟨ha1, ha2⟩ := ha
  go_enter Tryz.func123, Tryz.ntmps123
  go_wp2
  go_ret
  exact ⟨rfl, 0, rfl⟩
set_option maxHeartbeats 4000000 in
theorem refApplyIf_any (a b d : Int) (g n c : Nat) (w : World) (hn : 3 ≤ n) (hn2 : n ≤ 300)
    (k0 : w.cell? ⟨g, 0, none⟩ = some (.int .i64 a)) (k1 : w.cell? ⟨g, 1, none⟩ = some (.int .i64 b)) (k2 : w.cell? ⟨g, 2, none⟩ = some (.int .i64 d)) :
    Calls Tryz.prog 123 #[.int .i64 9, .slice (some ⟨g, 0, none⟩) n c] w fun e w' => e = .returned (.int .i64 (applyR 9 a b d)) ∧ ∃ q, w' = w.drewN q := by
  have HR : Hid (applyR 9 a b d = if 0 < a then b else d) := rfl
  by_cases h : 0 < a
  · have h' : decide (0 < a) = true := decide_eq_true h
    rw [if_pos h] at HR
    go_enter Tryz.func123, Tryz.ntmps123
    go_wp2
    go_ret
    exact ⟨by rw [HR.out]; rfl, 0, rfl⟩
  · have h' : decide (0 < a) = false := decide_eq_false h
    rw [if_neg h] at HR
    go_enter Tryz.func123, Tryz.ntmps123
    go_wp2
    go_ret
    exact ⟨by rw [HR.out]; rfl, 0, rfl⟩
end Go.Proofs.YtkofmiegnfgbjaaGreatDoor

set_option linter.unusedVariables false
set_option linter.unusedSimpArgs false
namespace Go.Proofs.YtkofmiegnfgbjaaGreatDoor
open Go.RowKit Go.Deep Go.Maps

theorem hasV_take {l : List Vr} {k j : Nat} {t : ByteArray} (hj : j < k) (hk : k ≤ l.length) (h : (vrAt l j).name = t) : hasV (l.take k) t = true := by
  unfold hasV
  rw [List.any_eq_true]
  refine ⟨vrAt l j, List.mem_of_getElem? (i := j) (by rw [List.getElem?_take, if_pos hj]; exact vrAt_get (by omega)), decide_eq_true h⟩
theorem hasV_none {l : List Vr} {k : Nat} {t : ByteArray} (hk : k ≤ l.length) (h : ∀ j < k, (vrAt l j).name ≠ t) : hasV (l.take k) t = false := by
  apply hasV_of
  intro v hv hn
  obtain ⟨j, hj, rfl⟩ := List.getElem_of_mem hv
  have hj2 : j < k := by rw [List.length_take] at hj; omega
  rw [List.getElem_take] at hn
  have := h j hj2
  unfold vrAt at this
  rw [List.getD_eq_getElem?_getD, List.getElem?_eq_getElem (by omega)] at this
  exact this hn
set_option maxHeartbeats 4000000 in
set_option maxRecDepth 20000 in
theorem refVars_any (A : Option Addr) (n c : Nat) (l : List Vr) (w : World) (hl : RVr w w.heap.size A n l) (hn : n ≤ maxLen) (hm : ∀ r ∈ l, r.name.size ≤ maxLen) :
    Calls Tryz.prog 26 #[.slice A n c] w fun e w' => e = .returned (.bool (validVs l)) ∧ Below w.heap.size w w' := by
  unfold maxLen at hn
  have HL := hide hl
  have HM := hide hm
  have HLN := hide hl.len
  have b0 : Below w.heap.size w w := Below.refl _ _
  clear hl hm
  go_enter Tryz.func26, Tryz.ntmps26
  go_wp2
  go_loopw [3] (fun i wr => ∃ k : Nat, k ≤ n ∧ i = .int .i64 k ∧ (∀ j, j < k → hasV (l.take j) (vrAt l j).name = false ∧ okV (vrAt l j) = true) ∧ Below w.heap.size w wr) (fun i _ => n - (intOf i).toNat)
  case atStart => exact ⟨0, Nat.zero_le _, rfl, fun j hj => absurd hj (Nat.not_lt_zero _), b0⟩
  case round =>
    clear b0
    obtain ⟨k, hk, rfl, hv, hbr⟩ := hrel
    have HV := hide hv
    have HB := hide hbr
    clear hv hbr
    obtain ⟨wo, hwo⟩ : ∃ wo : World, wo = wr := ⟨_, rfl⟩
    subst hwo
    by_cases hlt : k < n
    · have hkl : k < l.length := by rw [HLN.out]; exact hlt
      obtain ⟨b, off, rfl, hb, g0, g1⟩ := (HL.out.next HB.out).at_ hlt
      have hnm : (vrAt l k).name.size ≤ maxLen := HM.out _ (List.mem_of_getElem? (vrAt_get hkl))
      have HEQ : Hid (∀ j < k, ∃ b' off', wo.cell? ⟨b', off' + j * 2, none⟩ = some (.string (vrAt l j).name) ∧ b' = b ∧ off' = off) := by
        intro j hj
        obtain ⟨b', off', hA', hb', y0, -⟩ := (HL.out.next HB.out).at_ (i := j) (show j < n by omega)
        injection hA' with hA'
        injection hA' with h1 h2
        exact ⟨b', off', y0, h1.symm, h2.symm⟩
      have HBAD := hide (fun h : hasV (l.take k) (vrAt l k).name = true ∨ okV (vrAt l k) = false => validVs_bad hkl h)
      have HOK : Hid (okV (vrAt l k) = (nameB (vrAt l k).name && !(decide ((vrAt l k).val < -1000000000000) || decide (1000000000000 < (vrAt l k).val)))) := rfl
      have HGO : Hid (hasV (l.take k) (vrAt l k).name = false → okV (vrAt l k) = true → ∀ j, j < k + 1 → hasV (l.take j) (vrAt l j).name = false ∧ okV (vrAt l j) = true) := hide (fun h1 h2 j hj => by
        by_cases hjk : j < k
        · exact HV.out j hjk
        · obtain rfl : j = k := by omega
          exact ⟨h1, h2⟩)
      generalize vrAt l k = r at g0 g1 hnm HBAD HOK HGO
      have HN := hide (refName_any r.name wo hnm)
      cases e1 : nameB r.name
      · rw [e1] at HN HOK
        have HF : Hid (validVs l = false) := hide (HBAD.out (.inr (by rw [HOK.out]; rfl)))
        go_wp2_with fail
        refine HN.out.mono ?_
        rintro en w' ⟨rfl, rfl⟩
        go_wp2
        go_ret
        exact ⟨by rw [HF.out]; rfl, HB.out⟩
      · rw [e1] at HN HOK
        cases e2 : decide (r.val < -1000000000000)
        · rw [e2] at HOK
          cases e3 : decide (1000000000000 < r.val)
          · rw [e3] at HOK
            go_wp2_with fail
            refine HN.out.mono ?_
            rintro en w' ⟨rfl, rfl⟩
            have q0 : wo.cell? ⟨b, off + k * 2, none⟩ = some (.string r.name) := g0
            have HEQ2 : Hid (∀ j < k, ∃ b' off', wo.cell? ⟨b', off' + j * 2, none⟩ = some (.string (vrAt l j).name) ∧ b' = b ∧ off' = off) := HEQ
            have HB2 := hide HB.out
            clear HEQ HB HN
            go_wp2
            go_loopw [4] (fun i wr => ∃ j : Nat, j ≤ k ∧ i = .int .i64 j ∧ (∀ x < j, (vrAt l x).name ≠ r.name) ∧ ∃ m, wr = wo.drewN m) (fun i _ => k - (intOf i).toNat)
            case atStart => exact ⟨0, Nat.zero_le _, rfl, fun x hx => absurd hx (by omega), 0, rfl⟩
            case round =>
              obtain ⟨j, hj, rfl, hall, m, hwm⟩ := hrel
              have HA := hide hall
              have HW := hide hwm
              have p0 : wr.cell? ⟨b, off + k * 2, none⟩ = some (.string r.name) := by rw [hwm]; exact q0
              have HBW : Hid (Below w.heap.size w wr) := by show _; rw [hwm]; exact below_drewN HB2.out m
              clear hall hwm
              by_cases hjk : j < k
              · obtain ⟨b', off', y0', rfl, rfl⟩ := HEQ2.out j hjk
                have y0 : wr.cell? ⟨b', off' + j * 2, none⟩ = some (.string (vrAt l j).name) := by rw [HW.out]; exact y0'
                have HJ : Hid ((vrAt l j).name = r.name → validVs l = false) := fun h => HBAD.out (.inl (hasV_take hjk (by omega) h))
                have HK : Hid ((vrAt l j).name ≠ r.name → ∀ x < j + 1, (vrAt l x).name ≠ r.name) := fun h x hx => by
                  by_cases hxj : x < j
                  · exact HA.out x hxj
                  · obtain rfl : x = j := by omega
                    exact h
                clear y0'
                generalize (vrAt l j).name = t at y0 HJ HK
                by_cases ht : t = r.name
                · have HF := hide (HJ.out ht)
                  rw [ht] at y0
                  go_upto_region 9 with (fail)
                  go_quiet (fail)
                  go_wp2
                  go_ret
                  exact ⟨by rw [HF.out]; rfl, below_drewN HBW.out _⟩
                · have HX := hide (HK.out ht)
                  have ht' := bytes_ne ht
                  go_upto_region 9 with (fail)
                  go_quiet (fail)
                  go_wp2
                  go_roundw
                  case rel => exact ⟨j + 1, by omega, by go_num, HX.out, m + nq, by rw [HW.out, World.drewN_drewN]⟩
                  case measure => simp [intOf]; omega
              · obtain rfl : j = k := by omega
                have HN2 := hide (hasV_none (l := l) (t := r.name) (Nat.le_of_lt hkl) HA.out)
                go_wp2
                go_roundw
                case rel => exact ⟨j + 1, by omega, by go_num, HGO.out HN2.out (by rw [HOK.out]; rfl), HBW.out⟩
                case measure => simp [intOf]; omega
          · rw [e3] at HOK
            have HF : Hid (validVs l = false) := hide (HBAD.out (.inr (by rw [HOK.out]; rfl)))
            go_wp2_with fail
            refine HN.out.mono ?_
            rintro en w' ⟨rfl, rfl⟩
            go_wp2
            go_ret
            exact ⟨by rw [HF.out]; rfl, HB.out⟩
        · rw [e2] at HOK
          have HF : Hid (validVs l = false) := hide (HBAD.out (.inr (by rw [HOK.out]; rfl)))
          go_wp2_with fail
          refine HN.out.mono ?_
          rintro en w' ⟨rfl, rfl⟩
          go_wp2
          go_ret
          exact ⟨by rw [HF.out]; rfl, HB.out⟩
    · obtain rfl : k = n := by omega
      have HF : Hid (validVs l = true) := validVs_good fun j hj => HV.out j (by rw [← HLN.out]; exact hj)
      go_wp2
      go_ret
      exact ⟨by rw [HF.out]; rfl, HB.out⟩

/-- The reference's apply, at operands of its own row. -/
theorem refApplyAll_any {x : Nod} (hf : formedL x = true) (h3 : 3 ≤ x.op) (A : Option Addr) (c base : Nat) (zs : List Int) (w : World) (ho : Own w base 3 1 A x.kids.length c (ints zs)) (hz : ∀ i, inB (zs.getD i 0)) :
    Calls Tryz.prog 123 #[.int .i64 x.op, .slice A x.kids.length c] w fun e w' => e = .returned (.int .i64 (applyR x.op (zs.getD 0 0) (zs.getD 1 0) (zs.getD 2 0))) ∧ ∃ q, w' = w.drewN q := by
  have hl : zs.length = x.kids.length := by
    have := ho.len
    rw [ints_length] at this
    omega
  have hk := formed_k hf
  have hok := (formed_ok hf).2.1
  have hok1 := (formed_ok hf).1
  have h300 := formed_kids hf
  unfold operands at hk
  rw [if_neg (by omega)] at hk
  have hpos : 0 < x.kids.length := by
    by_cases e12 : x.op = 12
    · rw [if_pos e12] at hk; omega
    · rw [if_neg e12] at hk
      by_cases e9 : x.op = 9
      · rw [if_pos e9] at hk; omega
      · rw [if_neg e9, if_pos (by omega)] at hk; omega
  obtain ⟨g, cap, hv, hgb, hlt⟩ := World.ownsRow.form ho hpos
  injection hv with hA _ hc
  subst hA
  have hcell := (World.ownsRow.cells ho (g := g) rfl)
  have hat : ∀ i, i < x.kids.length → w.cell? ⟨g, i, none⟩ = some (.int .i64 (zs.getD i 0)) := fun i hi => by
    have h1 := ints_get (xs := zs) (k := i) (by omega)
    have h2 := hcell i _ h1
    rwa [add_lit, Nat.zero_add] at h2
  have hnil : ∀ i, x.kids.length ≤ i → zs.getD i 0 = 0 := fun i hi => by
    rw [List.getD_eq_getElem?_getD, List.getElem?_eq_none (by omega)]
    rfl
  by_cases e12 : x.op = 12
  · rw [if_pos e12] at hk
    have hk1 : x.kids.length = 1 := by omega
    rw [hnil 1 (by omega), hnil 2 (by omega), e12]
    exact refApplyNeg_any _ g _ c w (by omega) (by omega) (hz 0) (hat 0 (by omega))
  · rw [if_neg e12] at hk
    by_cases e9 : x.op = 9
    · rw [if_pos e9] at hk
      rw [e9]
      exact refApplyIf_any _ _ _ g _ c w (by omega) (by omega) (hat 0 (by omega)) (hat 1 (by omega)) (hat 2 (by omega))
    · rw [if_neg e9, if_pos (by omega)] at hk
      rw [hnil 2 (by omega)]
      have hk2 : 2 ≤ x.kids.length := by omega
      by_cases e5 : x.op = 5
      · rw [e5]
        exact refApplyMul_any _ _ g _ c w hk2 (by omega) (hz 0) (hz 1) (hat 0 (by omega)) (hat 1 (by omega))
      · by_cases e6 : x.op = 6
        · rw [e6]
          exact refApplyDiv_any _ _ g _ c w hk2 (by omega) (hz 0) (hat 0 (by omega)) (hat 1 (by omega))
        · by_cases e10 : x.op = 10 ∨ x.op = 11
          · exact refApplyCmp_any _ _ _ g _ c w e10 hk2 (by omega) (hat 0 (by omega)) (hat 1 (by omega))
          · exact refApply2_any _ _ _ g _ c w (by omega) hk2 (by omega) (hz 0) (hz 1) (hat 0 (by omega)) (hat 1 (by omega))

theorem sigV_step {l : List Vr} (hv : validVs l = true) {j : Nat} (hj : j < l.length) (t : ByteArray) : sigV (l.take (j + 1)) t = if (vrAt l j).name = t then some (vrAt l j).val else sigV (l.take j) t := by
  rw [vr_take hj, sigV_snoc]
  by_cases h : (vrAt l j).name = t
  · rw [if_pos h, if_pos h]
    have := (validVs_out hv j hj).1
    rw [h] at this
    rw [sigV_none this]
  · rw [if_neg h, if_neg h]
    cases sigV (l.take j) t <;> rfl
end Go.Proofs.YtkofmiegnfgbjaaGreatDoor

set_option linter.unusedVariables false
set_option linter.unusedSimpArgs false
namespace Go.Proofs.YtkofmiegnfgbjaaGreatDoor

theorem stepM_congr {σ τ : ByteArray → Option Int} {vs : List Int} {x : Nod} (h : x.op = 2 → σ x.name = τ x.name) : stepM σ vs x = stepM τ vs x := by
  unfold stepM
  by_cases h1 : x.op = 1
  · rw [if_pos h1, if_pos h1]
  · rw [if_neg h1, if_neg h1]
    by_cases h2 : x.op = 2
    · rw [if_pos h2, if_pos h2, h h2]
    · rw [if_neg h2, if_neg h2]
theorem goM_congr {σ τ : ByteArray → Option Int} : ∀ (e : List Nod) (vs : List Int), (∀ x ∈ e, x.op = 2 → σ x.name = τ x.name) → goM σ vs e = goM τ vs e
  | [], vs, _ => rfl
  | x :: e, vs, h => by
    show (match stepM σ vs x with | Except.error r => Except.error r | Except.ok v => goM σ (vs ++ [v]) e) = (match stepM τ vs x with | Except.error r => Except.error r | Except.ok v => goM τ (vs ++ [v]) e)
    rw [stepM_congr (h x List.mem_cons_self)]
    cases stepM τ vs x with
    | error r => rfl
    | ok v => exact goM_congr e _ fun y hy => h y (List.mem_cons_of_mem _ hy)
theorem evalM_congr {e : List Nod} {l k : List Vr} (hl : validVs l = true) (hk : validVs k = true) (h : ∀ x ∈ e, x.op = 2 → sigV l x.name = sigV k x.name) : evalM e l = evalM e k := by
  unfold evalM
  rw [hl, hk, goM_congr e [] h]
/-- Valid lists: valid variables with different names. -/
theorem validVs_iff {l : List Vr} : validVs l = true ↔ (∀ v ∈ l, okV v = true) ∧ (l.map Vr.name).Pairwise (· ≠ ·) := by
  constructor
  · intro h
    have hv := validVs_out h
    constructor
    · intro v hm
      obtain ⟨i, hi, rfl⟩ := List.getElem_of_mem hm
      have h1 := vrAt_get hi
      rw [List.getElem?_eq_getElem hi] at h1
      injection h1 with h1
      rw [h1]
      exact (hv i hi).2
    · rw [List.pairwise_iff_getElem]
      intro i j hi hj hij he
      have he : ((l.map Vr.name)[i]?) = ((l.map Vr.name)[j]?) := by rw [List.getElem?_eq_getElem hi, List.getElem?_eq_getElem hj, he]
      rw [List.length_map] at hi hj
      rw [List.getElem?_map, List.getElem?_map, vrAt_get (by omega), vrAt_get hj] at he
      injection he with he
      refine hasV_not (hv j hj).1 (vrAt l i) ?_ he
      have : (l.take j)[i]? = some (vrAt l i) := by rw [List.getElem?_take_of_lt hij, vrAt_get (by omega)]
      exact List.mem_of_getElem? this
  · rintro ⟨h1, h2⟩
    refine validVs_good fun k hk => ⟨hasV_of fun v hv hn => ?_, h1 _ (List.mem_of_getElem? (vrAt_get hk))⟩
    obtain ⟨i, hi, rfl⟩ := List.getElem_of_mem hv
    rw [List.length_take] at hi
    rw [List.getElem_take] at hn
    rw [List.pairwise_iff_getElem] at h2
    refine h2 i k (by rw [List.length_map]; omega) (by rw [List.length_map]; exact hk) (by omega) ?_
    have h3 := vrAt_get hk
    rw [List.getElem?_eq_getElem hk] at h3
    injection h3 with h3
    rw [List.getElem_map, List.getElem_map, hn, h3]
theorem sigV_mem {l : List Vr} (h : validVs l = true) {v : Vr} (hv : v ∈ l) : sigV l v.name = some v.val := by
  obtain ⟨i, hi, rfl⟩ := List.getElem_of_mem hv
  have h1 := vrAt_get hi
  rw [List.getElem?_eq_getElem hi] at h1
  injection h1 with h1
  rw [h1]
  exact sigV_at h hi
theorem sigV_out {l : List Vr} {t : ByteArray} (h : ∀ v ∈ l, v.name ≠ t) : sigV l t = none := sigV_none (hasV_of h)
/-- What a name stands for depends on the variables alone. -/
theorem sigV_same {l k : List Vr} (hl : validVs l = true) (hk : validVs k = true) (t : ByteArray) (h : ∀ v : Vr, v.name = t → (v ∈ l ↔ v ∈ k)) : sigV l t = sigV k t := by
  by_cases hx : ∃ v ∈ l, v.name = t
  · obtain ⟨v, hv, rfl⟩ := hx
    rw [sigV_mem hl hv, sigV_mem hk ((h v rfl).1 hv)]
  · have h1 : ∀ v ∈ l, v.name ≠ t := fun v hv hn => hx ⟨v, hv, hn⟩
    have h2 : ∀ v ∈ k, v.name ≠ t := fun v hv hn => hx ⟨v, (h v hn).2 hv, hn⟩
    rw [sigV_out h1, sigV_out h2]
theorem valid_back {l : List Vr} (h : validVs l = true) : validVs l.reverse = true := by
  obtain ⟨h1, h2⟩ := validVs_iff.1 h
  refine validVs_iff.2 ⟨fun v hv => h1 v (List.mem_reverse.1 hv), ?_⟩
  rw [List.map_reverse]
  exact List.pairwise_reverse.2 (h2.imp fun h => h.symm)
theorem var_back {e : List Nod} {l : List Vr} (h : validVs l = true) : evalM e l.reverse = evalM e l :=
  evalM_congr (valid_back h) h fun x _ _ => sigV_same (valid_back h) h _ fun v _ => List.mem_reverse
theorem var_more {e : List Nod} {l : List Vr} {f : Vr} (h : validVs l = true) (hm : validVs (l.reverse ++ [f]) = true) (hf : ∀ x ∈ e, x.op = 2 → x.name ≠ f.name) : evalM e (l.reverse ++ [f]) = evalM e l :=
  evalM_congr hm h fun x hx ho => sigV_same hm h _ fun v hv => by
    rw [List.mem_append, List.mem_reverse]
    constructor
    · rintro (h1 | h1)
      · exact h1
      · simp only [List.mem_cons, List.not_mem_nil, or_false] at h1
        subst h1
        exact absurd hv.symm (hf x hx ho)
    · exact .inl
theorem valid_less {l : List Vr} (h : validVs l = true) (p : Vr → Bool) : validVs (l.filter p) = true := by
  obtain ⟨h1, h2⟩ := validVs_iff.1 h
  exact validVs_iff.2 ⟨fun v hv => h1 v (List.mem_filter.1 hv).1, h2.sublist (List.Sublist.map _ List.filter_sublist)⟩
theorem goM_none {σ : ByteArray → Option Int} : ∀ (e : List Nod) (vs : List Int) (x : Nod), x ∈ e → x.op = 2 → σ x.name = none → ∃ r, goM σ vs e = Except.error r
  | y :: e, vs, x, hx, ho, hs => by
    show ∃ r, (match stepM σ vs y with | Except.error r => Except.error r | Except.ok v => goM σ (vs ++ [v]) e) = Except.error r
    rcases List.mem_cons.1 hx with h | h
    · subst h
      have : stepM σ vs x = Except.error 7 := by
        unfold stepM
        rw [if_neg (by omega), if_pos ho, hs]
      rw [this]
      exact ⟨7, rfl⟩
    · cases stepM σ vs y with
      | error r => exact ⟨r, rfl⟩
      | ok v => exact goM_none e _ x h ho hs
theorem var_less {e : List Nod} {l : List Vr} {x : Nod} (h : validVs l = true) (he : validL e = true) (hx : x ∈ e) (ho : x.op = 2) :
    evalM e (l.filter fun v => !decide (v.name = x.name)) = (0, 7) ∨ evalM e (l.filter fun v => !decide (v.name = x.name)) = (0, 9) := by
  have hv := valid_less h fun v => !decide (v.name = x.name)
  have hs : sigV (l.filter fun v => !decide (v.name = x.name)) x.name = none := sigV_out fun v hm hn => by
    have := (List.mem_filter.1 hm).2
    simp [hn] at this
  obtain ⟨r, hr⟩ := goM_none (σ := sigV (l.filter fun v => !decide (v.name = x.name))) e [] x hx ho hs
  rw [evalM_of hv he, hr]
  rcases goM_err e [] hr with h1 | h1
  · rw [h1]; exact .inl rfl
  · rw [h1]; exact .inr rfl
end Go.Proofs.YtkofmiegnfgbjaaGreatDoor

set_option linter.unusedVariables false
set_option linter.unusedSimpArgs false
namespace Go.Proofs.YtkofmiegnfgbjaaGreatDoor
open Go.RowKit Go.Deep Go.Maps

theorem var_info : (Tryz.prog.info? 44).map (fun i => (i.zero, i.size, i.bytes)) = some (some (.agg #[.string ⟨#[]⟩, .int .i64 0]), 2, 24) := by kernel_rfl
theorem rev_takeV {l : List Vr} {k : Nat} (h : k < l.length) : l.reverse.take (k + 1) = l.reverse.take k ++ [vrAt l (l.length - 1 - k)] := by
  have h2 : k < l.reverse.length := by rw [List.length_reverse]; exact h
  rw [List.take_succ_eq_append_getElem h2, List.getElem_reverse]
  congr 2
  have := vrAt_get (l := l) (i := l.length - 1 - k) (by omega)
  rw [List.getElem?_eq_getElem (by omega)] at this
  exact Option.some.inj this
/-- The name k of a row of names. -/
def nmV (l : List (List UInt8)) (k : Nat) : ByteArray := ⟨(l.getD k []).toArray⟩
theorem Reads.at1V {w : World} {B : Nat} {A : Option Addr} {n : Nat} {xs : List Value} (h : Reads w B 1 A n xs) (hn : 0 < n) {c0 : Value} (h0 : xs[0]? = some c0) : ∃ b off, A = some ⟨b, off, none⟩ ∧ b < B ∧ ∀ j u, xs[j]? = some u → w.cell? ⟨b, off + j, none⟩ = some u := by
  obtain ⟨ad, hA, hb, hc⟩ := h.2 hn
  obtain ⟨b, off, spot⟩ := ad
  have hsp : spot = none := by
    have := hc 0 _ h0
    simpa [Addr.add] using World.cell?_spot this
  subst hsp
  exact ⟨b, off, hA, hb, fun j u hu => by have := hc j u hu; rwa [add_lit] at this⟩
theorem Reads.nmvAt {w : World} {B : Nat} {A : Option Addr} {l : List (List UInt8)} (h : Reads w B 1 A l.length (l.map encStr)) {k : Nat} (hk : k < l.length) :
    ∃ b off, A = some ⟨b, off, none⟩ ∧ b < B ∧ w.cell? ⟨b, off + k, none⟩ = some (.string (nmV l k)) := by
  have hg : ∀ j, j < l.length → (l.map encStr)[j]? = some (.string (nmV l j)) := fun j hj => by
    rw [List.getElem?_map, List.getElem?_eq_getElem hj]
    unfold nmV
    rw [List.getD_eq_getElem?_getD, List.getElem?_eq_getElem hj]
    rfl
  obtain ⟨b, off, hA, hb, hc⟩ := Reads.at1V h (by omega) (hg 0 (by omega))
  exact ⟨b, off, hA, hb, hc k _ (hg k hk)⟩
theorem nmV_mem {l : List (List UInt8)} {k : Nat} (hk : k < l.length) : (nmV l k).data.toList ∈ l := by
  unfold nmV
  rw [List.getD_eq_getElem?_getD, List.getElem?_eq_getElem hk]
  simp
theorem mem_nmV {l : List (List UInt8)} {t : ByteArray} (h : t.data.toList ∈ l) : ∃ k, k < l.length ∧ nmV l k = t := by
  obtain ⟨k, hk, hkt⟩ := List.getElem_of_mem h
  refine ⟨k, hk, ?_⟩
  unfold nmV
  rw [List.getD_eq_getElem?_getD, List.getElem?_eq_getElem hk]
  show (⟨(l[k]).toArray⟩ : ByteArray) = t
  rw [hkt]
/-- Is the name among the first names? -/
def usedV (l : List (List UInt8)) (k : Nat) (t : ByteArray) : Bool := (l.take k).any fun x => decide (x = t.data.toList)
theorem usedV_step {l : List (List UInt8)} {k : Nat} (hk : k < l.length) (t : ByteArray) : usedV l (k + 1) t = (usedV l k t || decide (nmV l k = t)) := by
  unfold usedV
  rw [List.take_succ_eq_append_getElem hk, List.any_append]
  congr 1
  have : (nmV l k) = ⟨l[k].toArray⟩ := by
    unfold nmV
    rw [List.getD_eq_getElem?_getD, List.getElem?_eq_getElem hk]
    rfl
  rw [this]
  simp only [List.any_cons, List.any_nil, Bool.or_false]
  congr 1
  apply propext
  constructor
  · intro h
    rw [h]
  · intro h
    rw [← h]
theorem usedV_not {l : List (List UInt8)} {t : ByteArray} (h : usedV l l.length t = false) : t.data.toList ∉ l := fun hm => by
  unfold usedV at h
  rw [List.take_length, List.any_eq_false] at h
  exact h _ hm (by simp)
/-- 's = append(s, x..)' onto a row without elements, in a region that draws its order; with what is left as it was. -/
theorem step_app0G {P : Program} {w : World} {ops : Array Oper} {o : Oper} {a : Act} {K : Act → World → Prop} {Q : Exit → Act → World → Prop} {E : Prop} (hw : Region.wanted o (yielded ops a.tmps) = true) (s x : Operand) (t : TypeId)
    (ho : o.op = .call { callee := .builtin .append, args := #[s, x], argTypes := #[t, t] })
    (base : Nat) (e : TypeId) (z : Value) (size bytes : Nat) (ht : P.underlying t = some (.slice e)) (hi : (P.info? e).map (fun i => (i.zero, i.size, i.bytes)) = some (some z, size, bytes))
    (hzs : z.cells.size = size) (hsz : 0 < size)
    (A : Option Addr) (c : Nat) (hs : a.eval s = .slice A 0 c) (hown : Own w base e size A 0 c [])
    (B : Nat) (A' : Option Addr) (m c' : Nat) (news : List Value) (hx : a.eval x = .slice A' m c') (hr : Reads w B size A' m news) (h1 : ∀ u ∈ news, u.oneCell' = true)
    (h63 : m ≤ maxLen) (hbytes : m * bytes ≤ 140737488355328) (hbase : base ≤ w.heap.size)
    (h : ∀ A2 c2 w', Own w' base e size A2 m c2 news → Below base w w' → w.grownBy w' (Value.slice A 0 c).ownBlock → K (a.put o.dst (.slice A2 m c2)) w') :
    if Region.wanted o (yielded ops a.tmps) = true then Oper.wp P o a w K Q else E :=
  step_appG hw s x t ho base e z size bytes ht hi hzs hsz A 0 c [] hs hown B A' m c' news hx hr h1 (by omega) (by rw [Nat.zero_add]; exact hbytes) hbase fun A2 c2 w' h2 h3 _ => by
    have := h A2 c2 w' (by rw [Nat.zero_add] at h2; exact h2) ((Below.refl _ _).grown h3 hbase (fun k hk => (hown.lt k hk).1)) h3
    rw [Nat.zero_add]
    exact this
/-- The variables of other names. -/
def lessV (nb : ByteArray) (l : List Vr) : List Vr := l.filter fun v => !decide (v.name = nb)
theorem lessV_yes {nb : ByteArray} {l : List Vr} {k : Nat} (hk : k < l.length) (h : (vrAt l k).name = nb) : lessV nb (l.take (k + 1)) = lessV nb (l.take k) := by
  rw [vr_take hk]
  simp [lessV, h]
theorem lessV_no {nb : ByteArray} {l : List Vr} {k : Nat} (hk : k < l.length) (h : (vrAt l k).name ≠ nb) : lessV nb (l.take (k + 1)) = lessV nb (l.take k) ++ [vrAt l k] := by
  rw [vr_take hk]
  simp [lessV, h]
theorem lessV_len (nb : ByteArray) (l : List Vr) (k : Nat) : (lessV nb (l.take k)).length ≤ k := by
  have h1 : (lessV nb (l.take k)).length ≤ (l.take k).length := List.length_filter_le _ _
  rw [List.length_take] at h1
  omega
theorem Own.lowV {w : World} {base base' : Nat} {e : TypeId} {size : Nat} {A : Option Addr} {n c : Nat} {xs : List Value} (h : Own w base e size A n c xs) (hB : base' ≤ base) : Own w base' e size A n c xs := by
  refine ⟨h.1, ?_⟩
  rcases h.2 with h2 | ⟨g, cap, cur, hv, hgb, hh, r⟩
  · exact Or.inl h2
  · exact Or.inr ⟨g, cap, cur, hv, Nat.le_trans hB hgb, hh, r⟩
set_option maxHeartbeats 8000000 in
set_option maxRecDepth 20000 in
theorem variables_any (A : Option Addr) (ca : Nat) (a : List Nod) (L : Option Addr) (n cl : Nat) (l : List Vr) (f : Vr) (u : Int) (w : World)
    (ha : ExprAt w w.heap.size A a) (hl : RVr w w.heap.size L n l) (hln : n ≤ maxLen) (hrn : ∀ r ∈ l, r.name.size ≤ maxLen) (hrf : f.name.size ≤ maxLen) (hu : 0 ≤ u ∧ u ≤ 255)
    (ma : a.length ≤ maxLen) (na : ∀ x ∈ a, x.name.size ≤ maxLen) (ka : ∀ x ∈ a, x.kids.length ≤ maxLen) :
    Calls Tryz.prog 5 #[.slice A a.length ca, .slice L n cl, .agg #[.string f.name, .int .i64 f.val], .int .u8 u] w fun e w' => e = .returned (.bool true) ∧ Below w.heap.size w w' := by
  have HEA := hide ha
  have HL := hide hl
  have HA := hide (And.intro ma (And.intro na ka))
  have HLN := hide hln
  have HRN := hide hrn
  have HRF := hide hrf
  have HLL := hide hl.len
  obtain ⟨hu0, hu1⟩ := hu
  unfold maxLen at ma hln hrf
  have hB0 : Blk (w.alloc (Obj.cells #[.string f.name, .int .i64 f.val] 44)) w.heap.size 44 #[.string f.name, .int .i64 f.val] := Blk.new _ _ _
  have hb0 : Below w.heap.size w (w.alloc (Obj.cells #[.string f.name, .int .i64 f.val] 44)) := (Below.refl _ _).alloc (Nat.le_refl _) _
  clear ha hl hrn na ka
  go_enter Tryz.func5, Tryz.ntmps5
  go_upto_region 1 with (fail)
  generalize w.alloc (Obj.cells #[.string f.name, .int .i64 f.val] 44) = w0 at hB0 hb0 ⊢
  obtain ⟨q, hq⟩ : ∃ q, q = w.heap.size := ⟨_, rfl⟩
  have STEP : Hid (∀ w3 w4 : World, (ExprAt w3 w3.heap.size A a ∧ RVr w3 w3.heap.size L n l ∧ Blk w3 q 44 #[.string f.name, .int .i64 f.val] ∧ Below w.heap.size w w3) → Below w3.heap.size w3 w4 → (ExprAt w4 w4.heap.size A a ∧ RVr w4 w4.heap.size L n l ∧ Blk w4 q 44 #[.string f.name, .int .i64 f.val] ∧ Below w.heap.size w w4)) :=
    hide (fun w3 w4 h h3 => ⟨h.1.next h3, h.2.1.next h3, h.2.2.1.below h3 h.2.2.1.lt, h.2.2.2.trans (h3.mono h.2.2.2.size)⟩)
  have H0 : Hid (ExprAt w0 w0.heap.size A a ∧ RVr w0 w0.heap.size L n l ∧ Blk w0 q 44 #[.string f.name, .int .i64 f.val] ∧ Below w.heap.size w w0) := ⟨HEA.out.next hb0, HL.out.next hb0, by rw [hq]; exact hB0, hb0⟩
  rw [← hq]
  clear hB0 hb0 HEA HL hq
  go_wp2_with fail
  refine (head_any w0).mono ?_
  rintro en w1 ⟨rfl, hb1⟩
  have H1 := hide (STEP.out _ _ H0.out hb1)
  clear hb1 H0
  go_wp2_with fail
  refine (few_any A ca a L n cl l w1 H1.out.1 HA.out.1 H1.out.2.1 HLN.out HA.out.2.1 HRN.out HA.out.2.2).mono ?_
  rintro en w' ⟨rfl, rfl⟩
  cases hf1 : few23 a l
  · clear hf1
    go_wp2
    go_ret
    exact ⟨rfl, H1.out.2.2.2⟩
  · have HF1 := hide hf1
    clear hf1
    have hn12 : n ≤ 12 := by
      have := (few23_out HF1.out).2.2
      have h2 := HLL.out
      omega
    go_wp2_with fail
    refine (refVars_any L n cl l w1 H1.out.2.1 HLN.out HRN.out).mono ?_
    rintro en w2 ⟨rfl, hb2⟩
    have H2 := hide (STEP.out _ _ H1.out hb2)
    clear hb2 H1
    cases hvl : validVs l
    · clear hvl
      go_wp2
      go_ret
      exact ⟨rfl, H2.out.2.2.2⟩
    · have HVL := hide hvl
      clear hvl
      go_wp2_with fail
      refine (valid_any A ca a w2 H2.out.1 HA.out.2.1 HA.out.1).mono ?_
      rintro en w3 ⟨rfl, hb3⟩
      have H3 := hide (STEP.out _ _ H2.out hb3)
      clear hb3 H2
      cases hva : validL a
      · clear hva
        go_wp2
        go_ret
        exact ⟨rfl, H3.out.2.2.2⟩
      · have HVA := hide hva
        clear hva
        have hl300 : a.length ≤ 300 := by
          obtain ⟨t, _, h2, h3, _⟩ := valid_tree HVA.out
          rw [h2, Tr.flat_len]
          exact h3
        have hnl : (namesL a).length ≤ 300 := by
          have h1 := raw_len a
          have h2 : (namesL a).length ≤ (namesRaw a).length := compact_le _ _
          omega
        go_wp2_with fail
        refine (names_any A ca a w3 H3.out.1 HA.out.2.1 HVA.out).mono ?_
        rintro en w4 ⟨AN, cn, rfl, hrN, hb4⟩
        have H4 := hide (STEP.out _ _ H3.out hb4)
        have HRD := hide hrN
        have HNI := hide (names_inv a)
        clear hb4 hrN H3
        obtain ⟨N, hN⟩ : ∃ N, N = namesL a := ⟨_, rfl⟩
        rw [← hN] at HRD HNI hnl ⊢
        clear hN
        go_wp2_with fail
        refine (meritEval_any A ca a L n cl l w4 H4.out.1 HA.out.2.1 HA.out.1 H4.out.2.1 HLN.out HRN.out).mono ?_
        rintro en w5 ⟨rfl, hb5⟩
        have H5 := hide (STEP.out _ _ H4.out hb5)
        have HRD5 := hide ((HRD.out.keep (fun p hp => hb5.cell hp)).more hb5.size)
        clear hb5 H4 HRD
        obtain ⟨ev, hev⟩ : ∃ ev, ev = evalM a l := ⟨_, rfl⟩
        have HEV := hide hev.symm
        rw [← hev]
        clear hev
        obtain ⟨vx, ve⟩ := ev
        dsimp only
        go_wp2
        go_loopw [14, 15] (fun t14 t15 wr => ∃ (j : Nat) (A14 : Option Addr) (c14 : Nat), j ≤ n ∧ t15 = .int .i64 ((j : Int) - 1) ∧ t14 = .slice A14 (n - j) c14 ∧ Own wr w5.heap.size 44 2 A14 (n - j) c14 (cellsV (l.reverse.take (n - j))) ∧ Below w5.heap.size w5 wr) (fun _ t15 _ => (intOf t15 + 1).toNat)
        case atStart => exact ⟨n, none, 0, Nat.le_refl _, by go_num, by rw [Nat.sub_self], by rw [Nat.sub_self]; exact Own.nil _ _ _ _, Below.refl _ _⟩
        case round =>
          obtain ⟨j, A14, c14, hj, rfl, rfl, hown, hbr⟩ := hrel
          have HOW := hide hown
          have HBR := hide hbr
          clear hown hbr
          by_cases hj0 : j = 0
          · subst hj0
            rw [Nat.sub_zero] at HOW ⊢
            have hz2 : (((0 : Nat) : Int) - 1) = -1 := by decide
            rw [hz2]
            clear hz2
            have htk : l.reverse.take n = l.reverse := List.take_of_length_le (by rw [List.length_reverse, HLL.out]; exact Nat.le_refl _)
            rw [htk] at HOW
            have H6 := hide (STEP.out _ _ H5.out HBR.out)
            have HRD6 := hide ((HRD5.out.keep (fun p hp => HBR.out.cell hp)).more HBR.out.size)
            have HBK6 : Hid (RVr wr wr.heap.size A14 n l.reverse) := hide (Own.reads HOW.out)
            clear HOW HBR H5 HRD5 htk
            obtain ⟨w6, hw6⟩ : ∃ w6 : World, w6 = wr := ⟨_, rfl⟩
            subst hw6
            obtain ⟨nn, hnn⟩ : ∃ nn, nn = N.length := ⟨_, rfl⟩
            have HNN := hide hnn
            rw [← hnn] at hnl ⊢
            clear hnn
            go_wp2
            go_loopw [16, 17] (fun t16 t17 wr => ∃ k : Nat, k ≤ nn ∧ t17 = .int .i64 k ∧ t16 = .bool (usedV N k f.name) ∧ ∃ m, wr = w6.drewN m) (fun _ t17 _ => nn - (intOf t17).toNat)
            case atStart => exact ⟨0, Nat.zero_le _, rfl, rfl, 0, rfl⟩
            case round =>
              obtain ⟨k, hk, rfl, rfl, m, hwm⟩ := hrel
              have HW := hide hwm
              clear hwm
              by_cases hkn : k < nn
              · obtain ⟨bn, on, rfl, hbn, g0⟩ := Reads.nmvAt HRD6.out (k := k) (by rw [← HNN.out]; exact hkn)
                have g0 : wr.cell? ⟨bn, on + k, none⟩ = some (.string (nmV N k)) := by rw [HW.out]; exact g0
                have y0 : wr.cell? ⟨q, 0, none⟩ = some (.string f.name) := by rw [HW.out]; exact H6.out.2.2.1.cell 0
                have hus := usedV_step (l := N) (k := k) (by rw [← HNN.out]; exact hkn) f.name
                have HUS := hide hus
                clear hus
                generalize nmV N k = nb at g0 HUS
                cases huk : usedV N k f.name
                · have HU2 := hide huk
                  by_cases hnb : nb = f.name
                  · have HU3 : Hid (usedV N (k + 1) f.name = true) := hide (by rw [HUS.out, huk, decide_eq_true hnb]; rfl)
                    rw [hnb] at g0
                    clear huk
                    go_upto_region 17 with (fail)
                    go_quiet (fail)
                    go_wp2
                    go_roundw
                    case rel => exact ⟨k + 1, by omega, by go_num, by rw [HU3.out], m + nq, by rw [HW.out, World.drewN_drewN]⟩
                    case measure => simp [intOf]; omega
                  · have HU3 : Hid (usedV N (k + 1) f.name = false) := hide (by rw [HUS.out, huk, decide_eq_false hnb]; rfl)
                    have hnb' := bytes_ne hnb
                    clear huk
                    go_upto_region 17 with (fail)
                    go_quiet (fail)
                    go_wp2
                    go_roundw
                    case rel => exact ⟨k + 1, by omega, by go_num, by rw [HU3.out], m + nq, by rw [HW.out, World.drewN_drewN]⟩
                    case measure => simp [intOf]; omega
                · have HU3 : Hid (usedV N (k + 1) f.name = true) := hide (by rw [HUS.out, huk]; rfl)
                  clear huk
                  go_upto_region 17 with (fail)
                  go_quiet (fail)
                  go_wp2
                  go_roundw
                  case rel => exact ⟨k + 1, by omega, by go_num, by rw [HU3.out], m + nq, by rw [HW.out, World.drewN_drewN]⟩
                  case measure => simp [intOf]; omega
              · obtain rfl : k = nn := by omega
                have H7 : Hid (ExprAt wr wr.heap.size A a ∧ RVr wr wr.heap.size L n l ∧ Blk wr q 44 #[.string f.name, .int .i64 f.val] ∧ Below w.heap.size w wr) := by show _; rw [HW.out]; exact STEP.out _ _ H6.out (below_drewN (Below.refl _ _) m)
                have HRD7 : Hid (Reads wr wr.heap.size 1 AN N.length (N.map encStr)) := by show _; rw [HW.out]; exact HRD6.out
                have HBK7 : Hid (RVr wr wr.heap.size A14 n l.reverse) := by show _; rw [HW.out]; exact HBK6.out
                have HUN : Hid (usedV N k f.name = false → ∀ x ∈ a, x.op = 2 → x.name ≠ f.name) := hide (fun h x hx ho hnm => by
                  rw [HNN.out] at h
                  exact usedV_not h ((HNI.out.2 _).2 (names_mem.2 ⟨x, hx, ho, by rw [hnm]⟩)))
                clear H6 HRD6 HBK6 HW
                obtain ⟨us, hus⟩ : ∃ us, us = usedV N k f.name := ⟨_, rfl⟩
                rw [← hus] at HUN ⊢
                clear hus
                obtain ⟨w8, hw8⟩ : ∃ w8 : World, w8 = wr := ⟨_, rfl⟩
                subst hw8
                obtain ⟨lr, hlr⟩ : ∃ lr, lr = l.reverse := ⟨_, rfl⟩
                have HLR := hide hlr
                rw [← hlr] at HBK7
                clear hlr
                have y0 : w8.cell? ⟨q, 0, none⟩ = some (.string f.name) := H7.out.2.2.1.cell 0
                have y1 : w8.cell? ⟨q, 1, none⟩ = some (.int .i64 f.val) := H7.out.2.2.1.cell 1
                have hql : q < w8.heap.size := H7.out.2.2.1.lt
                have HYG := hide (show ∀ wq : World, Below w8.heap.size w8 wq → wq.cell? ⟨q, 0, none⟩ = some (.string f.name) ∧ wq.cell? ⟨q, 1, none⟩ = some (.int .i64 f.val) from fun wq hb => ⟨(hb.cell (p := ⟨q, 0, none⟩) hql).trans y0, (hb.cell (p := ⟨q, 1, none⟩) hql).trans y1⟩)
                have HX0 : Hid (Own (w8.alloc (Obj.cells #[] 44)).drew w8.heap.size 44 2 (some ⟨w8.heap.size, 0, none⟩) 0 0 []) := hide ((Own.of_lit w8 #[] 0 (Nat.le_refl _) (Nat.zero_le _) rfl).below (Below.drew (Below.refl _ _)))
                have HBX : Hid (Below w8.heap.size w8 (w8.alloc (Obj.cells #[] 44)).drew) := hide (((Below.refl _ _).alloc (Nat.le_refl _) _).drew)
                have HRB : Hid (Reads (w8.alloc (Obj.cells #[] 44)).drew w8.heap.size 2 A14 n (cellsV lr)) := hide (Reads.below HBK7.out HBX.out)
                have HBY : Hid (Below w8.heap.size w8 ((w8.alloc (Obj.cells #[] 44)).alloc (Obj.cells #[.string f.name, .int .i64 f.val] 44)).drew) := hide ((((Below.refl _ _).alloc (Nat.le_refl _) _).alloc (by simp) _).drew)
                have hqY : w8.heap.size ≤ ((w8.alloc (Obj.cells #[] 44)).alloc (Obj.cells #[.string f.name, .int .i64 f.val] 44)).drew.heap.size := HBY.out.size
                have HX2 : Hid (Own ((w8.alloc (Obj.cells #[] 44)).alloc (Obj.cells #[.string f.name, .int .i64 f.val] 44)).drew w8.heap.size 44 2 (some ⟨w8.heap.size, 0, none⟩) 0 0 []) := hide (((Own.of_lit w8 #[] 0 (Nat.le_refl _) (Nat.zero_le _) rfl).alloc _).below (Below.drew (Below.refl _ _)))
                have HRB2 : Hid (Reads ((w8.alloc (Obj.cells #[] 44)).alloc (Obj.cells #[.string f.name, .int .i64 f.val] 44)).drew w8.heap.size 2 A14 n (cellsV lr)) := hide (Reads.below HBK7.out HBY.out)
                have RF2 : Hid (∀ w9 : World, ((w8.alloc (Obj.cells #[] 44)).alloc (Obj.cells #[.string f.name, .int .i64 f.val] 44)).drew.grownBy w9 (some w8.heap.size) → Reads w9 w9.heap.size 2 (some ⟨w8.heap.size + 1, 0, none⟩) 1 (cellsV [f])) := hide (fun w9 hg => by
                  have h1 := reads_new (w8.alloc (Obj.cells #[] 44)) #[.string f.name, .int .i64 f.val] 44 2 1 rfl
                  rw [World.size_alloc] at h1
                  have hz : ((w8.alloc (Obj.cells #[] 44)).alloc (Obj.cells #[.string f.name, .int .i64 f.val] 44)).drew.heap.size = w8.heap.size + 1 + 1 := by show ((w8.alloc (Obj.cells #[] 44)).alloc (Obj.cells #[.string f.name, .int .i64 f.val] 44)).heap.size = _; rw [World.size_alloc, World.size_alloc]
                  refine ⟨h1.1, fun hn => ?_⟩
                  obtain ⟨ad, hA, hb, hc⟩ := h1.2 hn
                  have hs := hg.size
                  refine ⟨ad, hA, by omega, fun j u hu => ?_⟩
                  have hbl : (ad.add j).block = w8.heap.size + 1 := by
                    rw [block_of_add]
                    injection hA with hA
                    rw [← hA]
                  refine (World.cell?_of_block (hg.block _ (by rw [hbl, hz]; omega) (by rw [hbl]; intro e; injection e with e; omega))).trans (hc j u hu))
                have HBZ : Hid (Below w8.heap.size w8 ((w8.alloc (Obj.cells #[.string f.name, .int .i64 f.val] 44)).alloc (Obj.cells #[] 44)).drew) := hide ((((Below.refl _ _).alloc (Nat.le_refl _) _).alloc (by simp) _).drew)
                have hz3 : ((w8.alloc (Obj.cells #[.string f.name, .int .i64 f.val] 44)).alloc (Obj.cells #[] 44)).drew.heap.size = w8.heap.size + 1 + 1 := by show ((w8.alloc (Obj.cells #[.string f.name, .int .i64 f.val] 44)).alloc (Obj.cells #[] 44)).heap.size = _; rw [World.size_alloc, World.size_alloc]
                have hqZ : w8.heap.size + 1 ≤ ((w8.alloc (Obj.cells #[.string f.name, .int .i64 f.val] 44)).alloc (Obj.cells #[] 44)).drew.heap.size := by rw [hz3]; omega
                have HQZ := hide hqZ
                have HX3 : Hid (Own ((w8.alloc (Obj.cells #[.string f.name, .int .i64 f.val] 44)).alloc (Obj.cells #[] 44)).drew (w8.heap.size + 1) 44 2 (some ⟨w8.heap.size + 1, 0, none⟩) 0 0 []) := hide (by
                  have h1 := (Own.of_lit (w8.alloc (Obj.cells #[.string f.name, .int .i64 f.val] 44)) (e := 44) (size := 2) (base := w8.heap.size + 1) #[] 0 (by rw [World.size_alloc]; exact Nat.le_refl _) (Nat.zero_le _) rfl)
                  rw [World.size_alloc] at h1
                  exact h1.below (Below.drew (Below.refl _ _)))
                have HRB3 : Hid (Reads ((w8.alloc (Obj.cells #[.string f.name, .int .i64 f.val] 44)).alloc (Obj.cells #[] 44)).drew w8.heap.size 2 A14 n (cellsV lr)) := hide (Reads.below HBK7.out HBZ.out)
                have RF3 : Hid (Reads ((w8.alloc (Obj.cells #[.string f.name, .int .i64 f.val] 44)).alloc (Obj.cells #[] 44)).drew (w8.heap.size + 1) 2 (some ⟨w8.heap.size, 0, none⟩) 1 (cellsV [f])) := hide ((reads_new w8 #[.string f.name, .int .i64 f.val] 44 2 1 rfl).below (((Below.refl _ _).alloc (by rw [World.size_alloc]; exact Nat.le_refl _) _).drew))
                clear hz3 hqZ
                have hmx0 : n ≤ maxLen := by unfold maxLen; omega
                have hmx1 : n + 1 ≤ maxLen := by unfold maxLen; omega
                have hqX : w8.heap.size ≤ (w8.alloc (Obj.cells #[] 44)).drew.heap.size := HBX.out.size
                have hby0 : n * 24 ≤ 140737488355328 := by omega
                have hby1 : (n + 1) * 24 ≤ 140737488355328 := by omega
                clear hql
                go_upto_region 18 with (fail)
                go_cut [18] (fun t18 wx => ∃ (A10 : Option Addr) (c10 : Nat), t18 = .slice A10 (n + 1) c10 ∧ RVr wx wx.heap.size A10 (n + 1) (lr ++ [f]) ∧ Below w8.heap.size w8 wx)
                case first =>
                  obtain ⟨x0, x1⟩ := HYG.out _ HBX.out
                  go_region_law ((first
                      | (refine step_app0 (by rfl) (.tmp 85) (.tmp 86) 42 (by rfl) w8.heap.size 44 (.agg #[.string ⟨#[]⟩, .int .i64 0]) 2 24 Tryz.underlying42 var_info rfl (by omega) (some ⟨w8.heap.size, 0, none⟩) 0 (by rfl) (by exact HX0.out) w8.heap.size A14 n c14 (cellsV lr) (by rfl) (by exact HRB.out) (cellsV_one _) hmx0 hby0 hqX ?_; intro A8 c8 w9 hown8 hb8; have HB8 := hide (HBX.out.trans hb8); obtain ⟨z0, z1⟩ := HYG.out w9 (HBX.out.trans hb8); have HO9 : Hid (Own (w9.alloc (Obj.cells #[.string f.name, .int .i64 f.val] 44)) w8.heap.size 44 2 A8 n c8 (cellsV lr)) := hide (hown8.alloc _); have HB9 : Hid (Below w8.heap.size w8 (w9.alloc (Obj.cells #[.string f.name, .int .i64 f.val] 44))) := hide (HB8.out.alloc HB8.out.size _); have RR9 : Hid (Reads (w9.alloc (Obj.cells #[.string f.name, .int .i64 f.val] 44)) (w9.heap.size + 1) 2 (some ⟨w9.heap.size, 0, none⟩) 1 (cellsV [f])) := hide (reads_new w9 _ 44 2 1 rfl); have hq9 := HB9.out.size; clear hown8 hb8)
                      | (refine step_app (by rfl) (.tmp 87) (.tmp 89) 42 (by rfl) w8.heap.size 44 (.agg #[.string ⟨#[]⟩, .int .i64 0]) 2 24 Tryz.underlying42 var_info rfl (by omega) A8 n c8 _ (by rfl) (by exact HO9.out) _ _ 1 _ (cellsV [f]) (by rfl) (by exact RR9.out) (cellsV_one _) hmx1 hby1 hq9 ?_; intro A10 c10 w10 hown10 hb10; rw [← cellsV_append] at hown10; have HO10 := hide hown10; have HB10 := hide (HB9.out.trans hb10); clear hown10 hb10)
                      | (refine step_app0G (by rfl) (.tmp 85) (.tmp 86) 42 (by rfl) w8.heap.size 44 (.agg #[.string ⟨#[]⟩, .int .i64 0]) 2 24 Tryz.underlying42 var_info rfl (by omega) (some ⟨w8.heap.size, 0, none⟩) 0 (by rfl) (by exact HX2.out) w8.heap.size A14 n c14 (cellsV lr) (by rfl) (by exact HRB2.out) (cellsV_one _) hmx0 hby0 hqY ?_; intro A8 c8 w9 hown8 hb8 hg8; have RR9 : Hid (Reads w9 w9.heap.size 2 (some ⟨w8.heap.size + 1, 0, none⟩) 1 (cellsV [f])) := hide (RF2.out w9 hg8); obtain ⟨z0, z1⟩ := HYG.out w9 (HBY.out.trans hb8); have HO9 := hide hown8; have HB9 := hide (HBY.out.trans hb8); have hq9 := HB9.out.size; clear hown8 hb8 hg8)
                      | (refine step_app0 (by rfl) (.tmp 85) (.tmp 86) 42 (by rfl) (w8.heap.size + 1) 44 (.agg #[.string ⟨#[]⟩, .int .i64 0]) 2 24 Tryz.underlying42 var_info rfl (by omega) (some ⟨w8.heap.size + 1, 0, none⟩) 0 (by rfl) (by exact HX3.out) w8.heap.size A14 n c14 (cellsV lr) (by rfl) (by exact HRB3.out) (cellsV_one _) hmx0 hby0 HQZ.out ?_; intro A8 c8 w9 hown8 hb8; have HB9 := hide (HBZ.out.trans (hb8.mono (Nat.le_succ _))); have hq9 := HB9.out.size; have RR9 : Hid (Reads w9 w9.heap.size 2 (some ⟨w8.heap.size, 0, none⟩) 1 (cellsV [f])) := hide ((RF3.out.below hb8).more (Nat.le_trans HQZ.out hb8.size)); obtain ⟨z0, z1⟩ := HYG.out w9 HB9.out; have HO9 : Hid (Own w9 w8.heap.size 44 2 A8 n c8 (cellsV lr)) := hide (hown8.lowV (Nat.le_succ _)); clear hown8 hb8)))
                  all_goals
                    clear HX0 HBX HRB HBY HX2 HRB2 RF2 x0 x1 y0 y1 z0 z1 HBZ HX3 HRB3 RF3 HQZ
                  all_goals
                    go_wp2_with fail
                    go_meet
                    exact ⟨A10, c10, rfl, Own.reads HO10.out, HB10.out⟩
                case rest =>
                clear HX0 HBX HRB HBY HX2 HRB2 RF2 y0 y1 HBZ HX3 HRB3 RF3 HQZ hqX hqY hby0 hby1 HYG
                obtain ⟨A10, c10, rfl, hr10, hb10⟩ := hcut
                have HR10 := hide hr10
                have H10 := hide (STEP.out _ _ H7.out hb10)
                have HRD10 := hide ((HRD7.out.keep (fun p hp => hb10.cell hp)).more hb10.size)
                have HBK10 := hide (RVr.next HBK7.out hb10)
                have HVM : Hid (us = false → validVs (lr ++ [f]) = true → evalM a (lr ++ [f]) = evalM a l) := hide (fun h1 h2 => by
                  rw [HLR.out] at h2 ⊢
                  exact var_more HVL.out h2 (HUN.out h1))
                have HVB : Hid (evalM a lr = evalM a l) := hide (by rw [HLR.out]; exact var_back HVL.out)
                have HNB : Hid (∀ r ∈ lr, r.name.size ≤ maxLen) := hide (fun r hr => by
                  rw [HLR.out] at hr
                  exact HRN.out r (List.mem_reverse.1 hr))
                have HNM : Hid (∀ r ∈ lr ++ [f], r.name.size ≤ maxLen) := hide (fun r hr => by
                  rcases List.mem_append.1 hr with h | h
                  · exact HNB.out r h
                  · simp only [List.mem_cons, List.not_mem_nil, or_false] at h
                    rw [h]
                    exact HRF.out)
                clear hr10 hb10 H7 HRD7 HBK7 HLR HUN
                obtain ⟨w9, hw9⟩ : ∃ w9 : World, w9 = wc := ⟨_, rfl⟩
                subst hw9
                go_upto_region 19 with (fail)
                go_cut [102] (fun t102 wx => ∃ b : Bool, t102 = .bool b ∧ (b = true → evalM a (lr ++ [f]) = evalM a l) ∧ Below w9.heap.size w9 wx)
                case first =>
                  cases us
                  · go_wp2_with fail
                    refine (refVars_any A10 (n + 1) c10 (lr ++ [f]) w9 HR10.out hmx1 HNM.out).mono ?_
                    rintro en wx ⟨rfl, hbx⟩
                    have HBX := hide hbx
                    have y0 : wx.cell? ⟨q, 0, none⟩ = some (.string f.name) := (STEP.out _ _ H10.out hbx).2.2.1.cell 0
                    clear hbx
                    cases hvm : validVs (lr ++ [f])
                    · clear hvm
                      go_wp2_with fail
                      go_meet
                      exact ⟨false, rfl, (fun h => by cases h), HBX.out⟩
                    · have HMO := hide (HVM.out (by first | rfl | trivial) hvm)
                      clear hvm
                      go_wp2_with fail
                      go_meet
                      exact ⟨_, rfl, fun _ => HMO.out, HBX.out⟩
                  · go_wp2_with fail
                    go_meet
                    exact ⟨false, rfl, (fun h => by cases h), Below.refl _ _⟩
                case rest =>
                obtain ⟨b, rfl, hmo, hbx⟩ := hcut
                have HMO := hide hmo
                have HR11 := hide (RVr.next HR10.out hbx)
                have H11 := hide (STEP.out _ _ H10.out hbx)
                have HRD11 := hide ((HRD10.out.keep (fun p hp => hbx.cell hp)).more hbx.size)
                have HBK11 := hide (RVr.next HBK10.out hbx)
                clear hmo hbx HR10 H10 HRD10 HBK10 HVM
                obtain ⟨w11, hw11⟩ : ∃ w11 : World, w11 = wc := ⟨_, rfl⟩
                subst hw11
                go_upto_if 102 with (fail)
                go_cut [14] (fun t14 wx => wx = w11 ∧ ∃ (A12 : Option Addr) (m12 c12 : Nat) (L12 : List Vr), t14 = .slice A12 m12 c12 ∧ RVr w11 w11.heap.size A12 m12 L12 ∧ m12 ≤ maxLen ∧ (∀ r ∈ L12, r.name.size ≤ maxLen) ∧ evalM a L12 = evalM a l)
                case first =>
                  cases b
                  · go_wp2_with fail
                    go_meet
                    exact ⟨rfl, A14, n, c14, lr, rfl, HBK11.out, hmx0, HNB.out, HVB.out⟩
                  · go_wp2_with fail
                    go_meet
                    exact ⟨rfl, A10, n + 1, c10, lr ++ [f], rfl, HR11.out, hmx1, HNM.out, HMO.out (by first | rfl | trivial)⟩
                case rest =>
                obtain ⟨hwc, A12, m12, c12, L12, rfl, hr12, hm12, hnn12, he12⟩ := hcut
                subst hwc
                have HR12 := hide hr12
                have HN12 := hide hnn12
                have HE12 : Hid (evalM a L12 = (vx, ve)) := hide (he12.trans HEV.out)
                clear hr12 hnn12 he12 HBK11 HR11 HMO HVB HNB HNM HEV
                go_wp2_with fail
                refine (meritEval_any A ca a A12 m12 c12 L12 wc H11.out.1 HA.out.2.1 HA.out.1 HR12.out hm12 HN12.out).mono ?_
                rintro en w13 ⟨rfl, hb13⟩
                have H13 := hide (STEP.out _ _ H11.out hb13)
                have HRD13 := hide ((HRD11.out.keep (fun p hp => hb13.cell hp)).more hb13.size)
                clear hb13 H11 HRD11 HR12 HN12
                rw [HE12.out]
                clear HE12
                dsimp only
                by_cases hk0 : k = 0
                · have hkz : ((k : Int) == 0) = true := by rw [hk0]; rfl
                  clear hk0
                  go_wp2
                  go_ret
                  exact ⟨rfl, H13.out.2.2.2⟩
                · have hkz : ((k : Int) == 0) = false := beq_eq_false_iff_ne.2 (by omega)
                  have hk1 : (0 : Int) < (k : Int) := by omega
                  obtain ⟨kk, hkk⟩ : ∃ kk : Nat, u % (k : Int) = (kk : Int) := ⟨(u % (k : Int)).toNat, by rw [Int.toNat_of_nonneg (Int.emod_nonneg _ (by omega))]⟩
                  have hkl : kk < k := by
                    have h1 := Int.emod_lt_of_pos u hk1
                    rw [hkk] at h1
                    omega
                  go_upto_region 27 with (fail)
                  rw [hkk]
                  obtain ⟨bn, on, rfl, hbn, gn⟩ := Reads.nmvAt HRD13.out (k := kk) (by rw [← HNN.out]; exact hkl)
                  have hmem := nmV_mem (l := N) (k := kk) (by rw [← HNN.out]; exact hkl)
                  obtain ⟨nb, hnb⟩ : ∃ nb, nb = nmV N kk := ⟨_, rfl⟩
                  rw [← hnb] at gn hmem
                  have HLESS : Hid (evalM a (lessV nb l) = (0, 7) ∨ evalM a (lessV nb l) = (0, 9)) := hide (by
                    obtain ⟨x, hx1, hx2, hx3⟩ := names_mem.1 ((HNI.out.2 _).1 hmem)
                    have hx4 : x.name = nb := by
                      apply ByteArray.ext
                      apply Array.toList_inj.1
                      exact hx3
                    have := var_less HVL.out HVA.out hx1 hx2
                    rw [hx4] at this
                    exact this)
                  have HGN := hide (fun (wq : World) (hb : Below w13.heap.size w13 wq) => (hb.cell (p := ⟨bn, on + kk, none⟩) hbn).trans gn)
                  have HNL := hide (fun (i : Nat) => lessV_len nb l i)
                  clear hnb hmem gn hbn HRD13 hkk hkz hk0 hk1
                  go_wp2
                  go_loopw [22, 23] (fun t22 t23 wr => ∃ (i : Nat) (A22 : Option Addr) (c22 : Nat), i ≤ n ∧ t23 = .int .i64 i ∧ t22 = .slice A22 (lessV nb (l.take i)).length c22 ∧ Own wr w13.heap.size 44 2 A22 (lessV nb (l.take i)).length c22 (cellsV (lessV nb (l.take i))) ∧ Below w13.heap.size w13 wr) (fun _ t23 _ => n - (intOf t23).toNat)
                  case atStart => exact ⟨0, none, 0, Nat.zero_le _, rfl, rfl, Own.nil _ _ _ _, Below.refl _ _⟩
                  case round =>
                    obtain ⟨i, A22, c22, hi, rfl, rfl, hown, hbr⟩ := hrel
                    have HOW := hide hown
                    have HBR := hide hbr
                    clear hown hbr
                    have hil := HNL.out i
                    by_cases hlt : i < n
                    · obtain ⟨bl, offl, rfl, hbl, g0, g1⟩ := (RVr.below H13.out.2.1 HBR.out).at_ hlt
                      have gn := HGN.out wr HBR.out
                      have HY := hide (lessV_yes (nb := nb) (l := l) (k := i) (by rw [HLL.out]; exact hlt))
                      have HN := hide (lessV_no (nb := nb) (l := l) (k := i) (by rw [HLL.out]; exact hlt))
                      generalize vrAt l i = v at g0 g1 HY HN
                      obtain ⟨cu, hcu⟩ : ∃ cu, cu = lessV nb (l.take i) := ⟨_, rfl⟩
                      rw [← hcu] at HOW HY HN hil ⊢
                      clear hcu
                      by_cases hnm : v.name = nb
                      · have HY2 := hide (HY.out hnm)
                        rw [hnm] at g0
                        clear HY HN hnm
                        go_upto_region 31 with (fail)
                        go_quiet (fail)
                        go_wp2
                        go_roundw
                        case rel => exact ⟨i + 1, A22, c22, by omega, by go_num, by rw [HY2.out], by rw [HY2.out]; exact HOW.out.drewN nq, below_drewN HBR.out nq⟩
                        case measure => simp [intOf]; omega
                      · have HN2 := hide (HN.out hnm)
                        have hnm' := bytes_ne hnm
                        clear HY HN hnm
                        go_upto_region 31 with (fail)
                        go_quiet (fail)
                        have HOW2 := hide (HOW.out.drewN nq)
                        have HBR2 := hide (below_drewN HBR.out nq)
                        have g0 : (wr.drewN nq).cell? ⟨bl, offl + i * 2, none⟩ = some (.string v.name) := g0
                        have g1 : (wr.drewN nq).cell? ⟨bl, offl + i * 2 + 1, none⟩ = some (.int .i64 v.val) := g1
                        generalize wr.drewN nq = w2 at HOW2 HBR2 g0 g1 ⊢
                        have HOA : Hid (Own (w2.alloc (Obj.cells #[.string v.name, .int .i64 v.val] 44)) w13.heap.size 44 2 A22 cu.length c22 (cellsV cu)) := hide (HOW2.out.alloc _)
                        have HBA : Hid (Below w13.heap.size w13 (w2.alloc (Obj.cells #[.string v.name, .int .i64 v.val] 44))) := hide (HBR2.out.alloc HBR2.out.size _)
                        have RR : Hid (Reads (w2.alloc (Obj.cells #[.string v.name, .int .i64 v.val] 44)) (w2.heap.size + 1) 2 (some ⟨w2.heap.size, 0, none⟩) 1 (cellsV [v])) := hide (reads_new w2 _ 44 2 1 rfl)
                        have hmx : cu.length + 1 ≤ maxLen := by unfold maxLen; omega
                        have hby : (cu.length + 1) * 24 ≤ 140737488355328 := by omega
                        have hqs := HBA.out.size
                        clear HOW HBR HOW2 HBR2
                        go_wp2_with (at_builtin; refine wpList_app rfl (.tmp 143) (.tmp 148) 42 rfl w13.heap.size 44 _ 2 24 Tryz.underlying42 var_info rfl (by omega) A22 cu.length c22 (cellsV cu) rfl HOA.out _ _ 1 _ (cellsV [v]) rfl RR.out (cellsV_one _) hmx hby hqs ?_; intro A9 c9 w9 hown9 hb9 _; rw [← cellsV_append] at hown9; have HO9 := hide hown9; have HB9 := hide (HBA.out.trans hb9); clear hown9 hb9)
                        go_roundw
                        case rel => exact ⟨i + 1, A9, c9, by omega, by go_num, by rw [HN2.out, List.length_append]; rfl, by rw [HN2.out, List.length_append]; exact HO9.out, HB9.out⟩
                        case measure => simp [intOf]; omega
                    · obtain rfl : i = n := by omega
                      have HRL : Hid (RVr wr wr.heap.size A22 (lessV nb l).length (lessV nb l)) := hide (by
                        have h := HOW.out
                        rw [List.take_of_length_le (by rw [HLL.out]; exact Nat.le_refl _)] at h
                        exact Own.reads h)
                      have hlt2 : l.take i = l := List.take_of_length_le (by rw [HLL.out]; exact Nat.le_refl _)
                      rw [hlt2] at hil ⊢
                      have HNS : Hid (∀ r ∈ lessV nb l, r.name.size ≤ maxLen) := hide (fun r hr => HRN.out r (List.mem_filter.1 hr).1)
                      have H15 := hide (STEP.out _ _ H13.out HBR.out)
                      have hlm : (lessV nb l).length ≤ maxLen := by unfold maxLen; omega
                      clear HOW HBR hlt2
                      obtain ⟨ls, hls⟩ : ∃ ls, ls = lessV nb l := ⟨_, rfl⟩
                      rw [← hls] at HRL HNS hlm HLESS hil ⊢
                      clear hls
                      go_wp2_with fail
                      refine (meritEval_any A ca a A22 ls.length c22 ls wr H15.out.1 HA.out.2.1 HA.out.1 HRL.out hlm HNS.out).mono ?_
                      rintro en w16 ⟨rfl, hb16⟩
                      have H16 := hide (STEP.out _ _ H15.out hb16)
                      clear hb16
                      rcases HLESS.out with hle | hle
                      · rw [hle]
                        clear hle
                        dsimp only
                        go_wp2
                        go_ret
                        exact ⟨rfl, H16.out.2.2.2⟩
                      · rw [hle]
                        clear hle
                        dsimp only
                        go_wp2
                        go_ret
                        exact ⟨rfl, H16.out.2.2.2⟩
          · obtain ⟨i, rfl⟩ : ∃ i, j = i + 1 := ⟨j - 1, by omega⟩
            obtain ⟨m, hm⟩ : ∃ m, n - (i + 1) = m := ⟨_, rfl⟩
            have hmn : n - i = m + 1 := by omega
            have HMN := hide hmn
            have HT : Hid (l.reverse.take (m + 1) = l.reverse.take m ++ [vrAt l i]) := hide (by
              have h := rev_takeV (l := l) (k := m) (by rw [HLL.out]; omega)
              rw [h, HLL.out, show n - 1 - m = i by omega])
            have hzi : (((i + 1 : Nat) : Int) - 1) = (i : Int) := by omega
            rw [hm] at HOW ⊢
            rw [hzi]
            clear hzi
            obtain ⟨bl, offl, rfl, hbl, g0, g1⟩ := (RVr.below H5.out.2.1 HBR.out).at_ (i := i) (by omega)
            generalize vrAt l i = v at g0 g1 HT
            have HOA : Hid (Own (wr.alloc (Obj.cells #[.string v.name, .int .i64 v.val] 44)) w5.heap.size 44 2 A14 m c14 (cellsV (l.reverse.take m))) := hide (HOW.out.alloc _)
            have HBA : Hid (Below w5.heap.size w5 (wr.alloc (Obj.cells #[.string v.name, .int .i64 v.val] 44))) := hide (HBR.out.alloc HBR.out.size _)
            have RR : Hid (Reads (wr.alloc (Obj.cells #[.string v.name, .int .i64 v.val] 44)) (wr.heap.size + 1) 2 (some ⟨wr.heap.size, 0, none⟩) 1 (cellsV [v])) := hide (reads_new wr _ 44 2 1 rfl)
            have hmx : m + 1 ≤ maxLen := by unfold maxLen; omega
            have hby : (m + 1) * 24 ≤ 140737488355328 := by omega
            have hqs := HBA.out.size
            have hi' : i ≤ n := by omega
            clear hm hmn
            go_wp2_with (at_builtin; refine wpList_app rfl (.tmp 62) (.tmp 67) 42 rfl w5.heap.size 44 _ 2 24 Tryz.underlying42 var_info rfl (by omega) A14 m c14 (cellsV (l.reverse.take m)) rfl HOA.out _ _ 1 _ (cellsV [v]) rfl RR.out (cellsV_one _) hmx hby hqs ?_; intro A9 c9 w9 hown9 hb9 _; rw [← cellsV_append] at hown9; have HO9 := hide hown9; have HB9 := hide (HBA.out.trans hb9); clear hown9 hb9)
            go_roundw
            case rel => exact ⟨i, A9, c9, hi', rfl, by rw [HMN.out], by rw [HMN.out, HT.out]; exact HO9.out, HB9.out⟩
            case measure => simp [intOf]
theorem variables_walk (A : Option Addr) (ca : Nat) (a : List Nod) (L : Option Addr) (n cl : Nat) (l : List Vr) (f : Vr) (u : Int) (w : World)
    (w0 : ExprAt w w.heap.size A a) (m0 : a.length ≤ maxLen) (b0 : ∀ x ∈ a, x.name.size ≤ maxLen ∧ x.kids.length ≤ maxLen ∧ (Lit.int .i64 x.op).wf = true ∧ (Lit.int .i64 x.n).wf = true ∧ ∀ k ∈ x.kids, (Lit.int .i64 k).wf = true)
    (w1 : RVr w w.heap.size L n l) (m1 : n ≤ maxLen) (b1 : ∀ r ∈ l, r.name.size ≤ maxLen ∧ (Lit.int .i64 r.val).wf = true)
    (w2 : f.name.size ≤ maxLen ∧ (Lit.int .i64 f.val).wf = true) (w3 : (Lit.int .u8 u).wf = true) :
    Calls Tryz.prog 5 #[.slice A a.length ca, .slice L n cl, .agg #[.string f.name, .int .i64 f.val], .int .u8 u] w fun e w' => e = .returned (.bool true) ∧ Below w.heap.size w w' := by
  have hu : 0 ≤ u ∧ u ≤ 255 := by
    have h := w3
    simp only [Lit.wf, Bool.and_eq_true, IntKind.min, IntKind.max] at h
    simpa [IntKind.signed, IntKind.bits] using h
  exact variables_any A ca a L n cl l f u w w0 w1 m1 (fun r hr => (b1 r hr).1) w2.1 hu m0 (fun x hx => (b0 x hx).1) (fun x hx => (b0 x hx).2.1)
end Go.Proofs.YtkofmiegnfgbjaaGreatDoor

namespace Go.Proofs.YtkofmiegnfgbjaaGreatDoor.meritVariables
open Go.RowKit Go.ChangeShapes Go.WideShapes Go.ChangeAt
open Go.ChangeMaps (open_string shut_string)
set_option linter.unusedVariables false
set_option linter.unusedSimpArgs false

theorem own : ownKnob Tryz.prog.godebug = none := by kernel_rfl
theorem laidOut : laidOutB Tryz.prog = true := by kernel_rfl
/-- The door's own heap meets the condition. -/
theorem door_met (os : Os) (args : Array Value) : laidMetH Tryz.prog [("math/bits.deBruijn32tab", Rows.laid_math_bits_deBruijn32tab), ("math/bits.deBruijn64tab", Rows.laid_math_bits_deBruijn64tab), ("internal/strconv.uint64pow10", Rows.laid_internal_strconv_uint64pow10), ("strconv.ErrRange", Rows.laid_strconv_ErrRange), ("strconv.ErrSyntax", Rows.laid_strconv_ErrSyntax)] ((World.doorLaid Tryz.prog 400 os).forCall (fun _ _ => 0) ⟨#[], args, []⟩).memory :=
  laidMetH_of_parts3 (fuel := 8) (laidMet_of_run' 8 (by kernel_rfl) (by kernel_rfl)) (by kernel_rfl) (by kernel_rfl)

set_option maxRecDepth 100000 in
theorem lifted (os : Os) (started : os.Started) (H : Type) (enc : TypeId × Value → H) :
    ReturnsInHanded {} Tryz.checked os 5 .any (fun w args => (Rows.meritVariablesSpec.pre enc Tryz.prog Tryz.f5 [] false w args ∧ laidMetH Tryz.prog [("math/bits.deBruijn32tab", Rows.laid_math_bits_deBruijn32tab), ("math/bits.deBruijn64tab", Rows.laid_math_bits_deBruijn64tab), ("internal/strconv.uint64pow10", Rows.laid_internal_strconv_uint64pow10), ("strconv.ErrRange", Rows.laid_strconv_ErrRange), ("strconv.ErrSyntax", Rows.laid_strconv_ErrSyntax)] w) ∧ sizedMet enc Tryz.prog Tryz.f5 (OpenSpec.ofChange Rows.meritVariablesSpec) false w args)
      (Rows.meritVariablesSpec.post enc Tryz.prog Tryz.f5 false true false false) := by
  refine returnsInHanded_of_change_and (C := Tryz.checked) (X := fun w _ => laidMetH Tryz.prog [("math/bits.deBruijn32tab", Rows.laid_math_bits_deBruijn32tab), ("math/bits.deBruijn64tab", Rows.laid_math_bits_deBruijn64tab), ("internal/strconv.uint64pow10", Rows.laid_internal_strconv_uint64pow10), ("strconv.ErrRange", Rows.laid_strconv_ErrRange), ("strconv.ErrSyntax", Rows.laid_strconv_ErrSyntax)] w) (fun _ _ _ hh h => h.of_heap hh) own started (by kernel_rfl) Tryz.func5
    (ChangeSpec.witness_shaped (enc := enc) (C := Tryz.checked) (os := os) (X := fun w _ => laidMetH Tryz.prog [("math/bits.deBruijn32tab", Rows.laid_math_bits_deBruijn32tab), ("math/bits.deBruijn64tab", Rows.laid_math_bits_deBruijn64tab), ("internal/strconv.uint64pow10", Rows.laid_internal_strconv_uint64pow10), ("strconv.ErrRange", Rows.laid_strconv_ErrRange), ("strconv.ErrSyntax", Rows.laid_strconv_ErrSyntax)] w) false (World.doorLaid Tryz.prog 400 os) #[.slice none 0 0, .slice none 0 0, .agg #[.string ByteArray.empty, .int .i64 0], .int .u8 0] 8 rfl (World.shaped_of_RefB (by kernel_rfl) (by kernel_rfl)) (by kernel_rfl) (by kernel_rfl) (by kernel_rfl) (door_met os _)) ?_
  intro W base args ds gs before hval0 hW _ hsz hL _
  have hval : ∀ (j : Nat) t v, Tryz.f5.params[j]? = some t → args[j]? = some v → Value.okWide Tryz.prog W .any base t v := hval0
  have hW' := hW
  obtain ⟨p, q, hA0, hV, rfl, hfz, hnd⟩ := hW
  have hA : DataW.TrodAll enc Tryz.prog W 0 (fun _ => true) true Tryz.f5.params.toList args.toList ds p := hA0
  rw [Tryz.params5] at hA hval
  obtain ⟨v0, vs0, d0, ds0, p0, q0, hargs, rfl, rfl, h0, r0⟩ := trodAll_cons hA
  obtain ⟨v1, vs1, d1, ds1, p1, q1, rfl, rfl, rfl, h1, r1⟩ := trodAll_cons r0
  obtain ⟨v2, vs2, d2, ds2, p2, q2, rfl, rfl, rfl, h2, r2⟩ := trodAll_cons r1
  obtain ⟨v3, vs3, d3, ds3, p3, q3, rfl, rfl, rfl, h3, r3⟩ := trodAll_cons r2
  obtain ⟨rfl, rfl, rfl⟩ := trodAll_nil r3
  obtain rfl : args = #[v0, v1, v2, v3] := by cases args; simp_all
  obtain ⟨rfl, rfl⟩ := trodVars_none hV
  obtain ⟨a0, len0, cap0, rfl⟩ := okWide_slice Tryz.underlying23 (hval 0 23 v0 rfl rfl)
  have k0 := h0
  have lt0 : ∀ x ∈ p0, x.block < W.heap.size := by obtain ⟨m, hm⟩ := k0; exact DataW.trod_lt m _ _ _ hm
  obtain ⟨z0, rfl, w0, m0, b0⟩ := expr_of_arg Tryz.underlying23 Tryz.underlying40 (by kernel_rfl) rfl rfl rfl rfl (by kernel_rfl) (by kernel_rfl) (by kernel_rfl) (by kernel_rfl) Tryz.underlying3 Tryz.underlying3 Tryz.underlying9 Tryz.underlying38 Tryz.underlying3 (by kernel_rfl) h0
  obtain ⟨a1, len1, cap1, rfl⟩ := okWide_slice Tryz.underlying42 (hval 1 42 v1 rfl rfl)
  have k1 := h1
  have lt1 : ∀ x ∈ p1, x.block < W.heap.size := by obtain ⟨m, hm⟩ := k1; exact DataW.trod_lt m _ _ _ hm
  obtain ⟨z1, w1, m1, b1⟩ := vr_of_arg Tryz.underlying42 Tryz.underlying44 (by kernel_rfl) rfl rfl (by kernel_rfl) (by kernel_rfl) Tryz.underlying9 Tryz.underlying3 h1
  have k2 := h2
  have lt2 : ∀ x ∈ p2, x.block < W.heap.size := by obtain ⟨m, hm⟩ := k2; exact DataW.trod_lt m _ _ _ hm
  obtain ⟨z2, rfl, w2⟩ := vr_of_val Tryz.underlying44 (by kernel_rfl) (by kernel_rfl) Tryz.underlying9 Tryz.underlying3 (hval 2 44 v2 rfl rfl) h2
  obtain ⟨a3, rfl, rfl, rfl, w3⟩ := open_int Tryz.underlying5 (hval 3 5 v3 rfl rfl) h3
  clear hA0 hval0
  refine (variables_walk a0 cap0 z0 a1 len1 cap1 z1 z2 a3 W w0 m0 b0 w1 m1 b1 w2 w3).mono fun e W' ⟨he, bel⟩ => ?_
  subst he
  exact ⟨_, rfl, _, _, _, [], _, [], hW', trodAll_mk1 (shut_bool Tryz.underlying4 _), (trodAll_cons_mk (Below.trod laidOut (by kernel_rfl) (of_decide_eq_true (by kernel_rfl)) k0 bel lt0) (trodAll_cons_mk (Below.trod laidOut (by kernel_rfl) (of_decide_eq_true (by kernel_rfl)) k1 bel lt1) (trodAll_cons_mk (Below.trod laidOut (by kernel_rfl) (of_decide_eq_true (by kernel_rfl)) k2 bel lt2) (trodAll_cons_mk (shut_int Tryz.underlying5 w3) trodAll_mk0)))), rfl, bel.frame _, fun h => by cases h⟩

theorem over : Rows.MeritVariablesSaid :=
  OpenClaim.holds_of_wide 5 Tryz.f5 rfl rfl rfl rfl rfl rfl rfl ⟨rfl, rfl, rfl, rfl, rfl⟩ rfl rfl rfl rfl rfl (by kernel_rfl) Tryz.func5 (by kernel_rfl)
    (of_decide_eq_true (by kernel_rfl)) (by unfold Func.isWrapper; first | (rw [if_pos (by decide +kernel)]; kernel_rfl) | (rw [if_neg (by decide +kernel)]; exact ⟨rfl, rfl⟩))
    (fun os started H enc _ => lifted os started H enc)

theorem proved : Rows.MeritVariablesCardSaid :=
  Claim7.holds_tied_plain_at .later [] [.data, .data, .data, .sentinel, .sentinel] true (true, "8ed0064b64e0ec6e8012f795b859d75421674daca6ddd847038dd85790627c0b") true
    over (fun _ h => by cases h) (by kernel_rfl) (fun _ h => by cases h) meritVariables_row_tie rfl ⟨rfl, rfl⟩ (by kernel_rfl) rfl
    (fun f fn hf hfn => by
      obtain rfl : f = 5 := Option.some.inj ((show Tryz.prog.funcNamed "observatory/observatorylaw23.MeritVariables" = some 5 by kernel_rfl).symm.trans hf) |>.symm
      obtain rfl : fn = Tryz.f5 := (Option.some.inj (Tryz.func5.symm.trans hfn)).symm
      exact ⟨by kernel_rfl, fun j t ht => by
        rw [Tryz.params5] at ht
        have hm : t ∈ [23, 42, 44, 5] := by simpa using Array.mem_of_getElem? ht
        have hall : ([23, 42, 44, 5].all fun u => !Tryz.prog.wantsStandIn u) = true := by kernel_rfl
        exact (show Tryz.prog.wantsStandIn t = false by simpa using List.all_eq_true.1 hall t hm)⟩)
    (by kernel_rfl)
#print axioms proved
end Go.Proofs.YtkofmiegnfgbjaaGreatDoor.meritVariables
