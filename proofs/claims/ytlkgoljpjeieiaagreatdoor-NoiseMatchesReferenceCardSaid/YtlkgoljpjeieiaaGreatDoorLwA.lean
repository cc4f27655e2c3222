/-
  Chapter 17, the laws' helpers: few, count, Same.
-/
import Derived.Test.YtlkgoljpjeieiaaGreatDoorTaiB
set_option linter.unusedVariables false
set_option linter.unusedSimpArgs false
namespace Go.Proofs.YtlkgoljpjeieiaaGreatDoor
open Go.RowKit Go.Deep Go.Maps

/-- A tape and a number are small, or the number is too great. -/
def few17 (m : Nat) (n : Int) : Bool := decide (m ≤ 12) && (decide (n ≤ 6) || decide (40 < n))
theorem few17_any (A : Option Addr) (ca m : Nat) (n : Int) (w : World) (hm : m ≤ maxLen) :
    Calls Tryz.prog 10 #[.slice A m ca, .int .i64 n] w fun en w' => en = .returned (.bool (few17 m n)) ∧ w' = w := by
  unfold maxLen at hm
  by_cases h12 : m ≤ 12
  · by_cases h6 : n ≤ 6
    · have e : few17 m n = true := by unfold few17; rw [decide_eq_true h12, decide_eq_true h6]; rfl
      rw [e]
      go_enter Tryz.func10, Tryz.ntmps10
      go_wp2
      go_ret
      exact ⟨rfl, rfl⟩
    · have e : few17 m n = decide (40 < n) := by unfold few17; rw [decide_eq_true h12, decide_eq_false h6]; rfl
      rw [e]
      go_enter Tryz.func10, Tryz.ntmps10
      go_wp2
      go_ret
      exact ⟨rfl, rfl⟩
  · have e : few17 m n = false := by unfold few17; rw [decide_eq_false h12]; rfl
    rw [e]
    go_enter Tryz.func10, Tryz.ntmps10
    go_wp2
    go_ret
    exact ⟨rfl, rfl⟩
/-- The count of a value in a distribution. -/
def cntL (l : List (Int × Nat)) (v : Int) : Nat := match l.find? fun p => decide (p.1 = v) with
  | some p => p.2
  | none => 0
theorem cntL_none {l : List (Int × Nat)} {v : Int} (h : ∀ j, j < l.length → (dAt l j).1 ≠ v) : cntL l v = 0 := by
  unfold cntL
  rw [List.find?_eq_none.2 fun p hp => ?_]
  obtain ⟨j, hj, e⟩ := List.getElem_of_mem hp
  have h1 := dAt_get hj
  rw [List.getElem?_eq_getElem hj, e] at h1
  rw [Option.some.inj h1, decide_eq_false (h j hj)]
  decide
theorem cntL_some {l : List (Int × Nat)} {v : Int} {k : Nat} (hk : k < l.length) (hv : (dAt l k).1 = v) (h : ∀ j, j < k → (dAt l j).1 ≠ v) : cntL l v = (dAt l k).2 := by
  induction l generalizing k with
  | nil => simp at hk
  | cons p l ih =>
    unfold cntL
    cases k with
    | zero =>
      have e : dAt (p :: l) 0 = p := rfl
      rw [e] at hv ⊢
      rw [List.find?_cons_of_pos (by simpa using hv)]
    | succ k =>
      have e : dAt (p :: l) (k + 1) = dAt l k := rfl
      have h0 : p.1 ≠ v := h 0 (by omega)
      rw [e] at hv ⊢
      rw [List.find?_cons_of_neg (by simpa using h0)]
      exact ih (by simpa using hk) hv fun j hj => h (j + 1) (by omega)
set_option maxHeartbeats 1000000 in
set_option maxRecDepth 100000 in
theorem count17_any (A : Option Addr) (ca N : Nat) (l : List (Int × Nat)) (v : Int) (w : World) (h : RD w w.heap.size A N l) (hN : N ≤ 100000) (hb : ∀ p ∈ l, p.2 < 1000000000) :
    Calls Tryz.prog 19 #[.slice A N ca, .int .i64 v] w fun en w' => en = .returned (.int .i64 (cntL l v)) ∧ Below w.heap.size w w' := by
  have HL := hide h.len
  have HR := hide h
  have HBD : Hid (∀ j, j < N → (dAt l j).2 < 1000000000) := hide (fun j hj => hb _ (List.mem_of_getElem? (dAt_get (by rw [h.len]; exact hj))))
  clear h hb
  go_enter Tryz.func19, Tryz.ntmps19
  go_wp2
  go_loopw [5] (fun t5 wr => ∃ j : Nat, j ≤ N ∧ t5 = .int .i64 j ∧ (∀ i, i < j → (dAt l i).1 ≠ v) ∧ wr = w) (fun t5 _ => N - (intOf t5).toNat)
  case atStart => exact ⟨0, Nat.zero_le _, rfl, fun i hi => absurd hi (Nat.not_lt_zero _), rfl⟩
  case round =>
    obtain ⟨j, hj, rfl, hne, hw⟩ := hrel
    subst hw
    have HNE := hide hne
    clear hne
    by_cases hjl : j < N
    · obtain ⟨b, off, rfl, _, x0, x1⟩ := HR.out.at_ hjl
      have hlt := HBD.out j hjl
      by_cases he : (dAt l j).1 = v
      · have HC := hide (cntL_some (by rw [HL.out]; exact hjl) he HNE.out)
        rw [he] at x0
        generalize (dAt l j).2 = c at x1 hlt HC
        have q1 : (v == v) = true := beq_self_eq_true v
        have HI := hide (nint_any c wr hlt)
        go_wp2_with fail
        refine HI.out.mono ?_
        rintro en w2 ⟨rfl, hb2⟩
        have HB2 := hide hb2
        clear hb2 x0 x1
        go_wp2
        go_ret
        exact ⟨by rw [HC.out]; rfl, HB2.out⟩
      · have HNE2 : Hid (∀ i, i < j + 1 → (dAt l i).1 ≠ v) := hide (fun i hi => by
          by_cases hij : i < j
          · exact HNE.out i hij
          · obtain rfl : i = j := by omega
            exact he)
        generalize (dAt l j).1 = u at x0 he
        have q1 : (u == v) = false := beq_eq_false_iff_ne.2 he
        clear x1
        go_wp2
        go_roundw
        case rel => exact ⟨j + 1, by omega, by go_num, HNE2.out, trivial⟩
        case measure => simp [intOf] <;> omega
    · obtain rfl : j = N := by omega
      have HC := hide (cntL_none (l := l) (v := v) (by rw [HL.out]; exact HNE.out))
      go_wp2
      go_ret
      exact ⟨by rw [HC.out]; rfl, Below.refl _ _⟩
end Go.Proofs.YtlkgoljpjeieiaaGreatDoor
