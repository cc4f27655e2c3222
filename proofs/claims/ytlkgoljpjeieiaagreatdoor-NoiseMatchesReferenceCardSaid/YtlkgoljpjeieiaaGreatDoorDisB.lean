/-
  Chapter 17, Distribution: valid tapes; the keys of the map, in order.
-/
import Derived.Test.YtlkgoljpjeieiaaGreatDoorDisA
import Derived.Test.YtlkgoljpjeieiaaGreatDoorOutM
import Derived.Test.YtlkgoljpjeieiaaGreatDoorPutP
import Derived.Test.YtlkgoljpjeieiaaGreatDoorShelfI
set_option linter.unusedVariables false
set_option linter.unusedSimpArgs false
namespace Go.Proofs.YtlkgoljpjeieiaaGreatDoor
open Go.RowKit Go.Deep Go.Maps Go.Sort Go.Shelf

theorem fold_min : ∀ (l : List Int) (a b : Int), b ≤ l.foldl min a ↔ b ≤ a ∧ ∀ t ∈ l, b ≤ t
  | [], a, b => by simp
  | x :: l, a, b => by
    rw [List.foldl_cons, fold_min l]
    simp only [List.mem_cons, forall_eq_or_imp]
    constructor
    · rintro ⟨h1, h2⟩
      exact ⟨by omega, by omega, h2⟩
    · rintro ⟨h1, h2, h3⟩
      exact ⟨by omega, h3⟩
theorem fold_max : ∀ (l : List Int) (a b : Int), l.foldl max a ≤ b ↔ a ≤ b ∧ ∀ t ∈ l, t ≤ b
  | [], a, b => by simp
  | x :: l, a, b => by
    rw [List.foldl_cons, fold_max l]
    simp only [List.mem_cons, forall_eq_or_imp]
    constructor
    · rintro ⟨h1, h2⟩
      exact ⟨by omega, by omega, h2⟩
    · rintro ⟨h1, h2, h3⟩
      exact ⟨by omega, h3⟩
theorem min_ge {l : List Int} (hl : l ≠ []) (b : Int) : b ≤ Lib.minOf l ↔ ∀ t ∈ l, b ≤ t := by
  cases l with
  | nil => exact absurd rfl hl
  | cons x l =>
    show b ≤ (x :: l).foldl min x ↔ _
    rw [fold_min]
    exact ⟨fun h => h.2, fun h => ⟨h x List.mem_cons_self, h⟩⟩
theorem max_le {l : List Int} (hl : l ≠ []) (b : Int) : Lib.maxOf l ≤ b ↔ ∀ t ∈ l, t ≤ b := by
  cases l with
  | nil => exact absurd rfl hl
  | cons x l =>
    show (x :: l).foldl max x ≤ b ↔ _
    rw [fold_max]
    exact ⟨fun h => h.2, fun h => ⟨h x List.mem_cons_self, h⟩⟩
theorem all_in (tape : List Int) : (tape.all fun t => decide (-50 ≤ t) && decide (t ≤ 50)) = true ↔ (∀ t ∈ tape, -50 ≤ t) ∧ ∀ t ∈ tape, t ≤ 50 := by
  rw [List.all_eq_true]
  simp only [Bool.and_eq_true, decide_eq_true_eq]
  exact ⟨fun h => ⟨fun t ht => (h t ht).1, fun t ht => (h t ht).2⟩, fun h t ht => ⟨h.1 t ht, h.2 t ht⟩⟩
set_option maxRecDepth 100000 in
theorem nv17_any (A : Option Addr) (ca : Nat) (tape : List Int) (w : World) (h : RI w w.heap.size A tape.length tape) (hm : tape.length ≤ maxLen) :
    Calls Tryz.prog 15 #[.slice A tape.length ca] w fun en w' => en = .returned (.bool (valid17 tape)) ∧ w' = w := by
  unfold maxLen at hm
  by_cases h0 : tape.length = 0
  · have hv : valid17 tape = false := by unfold valid17; rw [h0]; rfl
    rw [hv, h0]
    clear h
    go_enter Tryz.func15, Tryz.ntmps15
    go_wp2
    go_ret
    exact ⟨rfl, rfl⟩
  · by_cases h9 : 9 < tape.length
    · have hv : valid17 tape = false := by
        unfold valid17
        rw [decide_eq_false (show ¬ tape.length ≤ 9 by omega), Bool.and_false, Bool.false_and]
      rw [hv]
      clear h
      go_enter Tryz.func15, Tryz.ntmps15
      go_wp2
      go_ret
      exact ⟨rfl, rfl⟩
    · obtain ⟨b, off, rfl, hb, _⟩ := h.at_ (k := 0) (by omega)
      have hne : tape ≠ [] := fun e => h0 (by rw [e]; rfl)
      have hcells : ∀ j, j < tape.length → w.cell? ⟨b, off + j, none⟩ = some (.int .i64 (tape.getD j 0)) := fun j hj => by
        obtain ⟨b', off', hA, _, hc⟩ := h.at_ hj
        injection hA with hA
        injection hA with e1 e2
        subst e1 e2
        exact hc
      have HMN := hide (Tryz.slices_Min_int b off tape.length ca tape w (by omega) (Nat.le_refl _) (by omega) hcells)
      have HMX := hide (Tryz.slices_Max_int b off tape.length ca tape w (by omega) (Nat.le_refl _) (by omega) hcells)
      rw [List.take_length] at HMN HMX
      have hva : valid17 tape = (decide (-50 ≤ Lib.minOf tape) && decide (Lib.maxOf tape ≤ 50)) := by
        unfold valid17
        rw [decide_eq_true (show 1 ≤ tape.length by omega), decide_eq_true (show tape.length ≤ 9 by omega), Bool.true_and, Bool.true_and, Bool.eq_iff_iff, all_in, Bool.and_eq_true, decide_eq_true_eq, decide_eq_true_eq, min_ge hne, max_le hne]
      rw [hva]
      generalize Lib.minOf tape = mn at HMN ⊢
      generalize Lib.maxOf tape = mx at HMX ⊢
      clear h hcells hva hne
      by_cases hmn : (-50 : Int) ≤ mn
      · rw [decide_eq_true hmn, Bool.true_and]
        go_enter Tryz.func15, Tryz.ntmps15
        go_wp2_with fail
        refine HMN.out.mono ?_
        rintro en w' ⟨rfl, rfl⟩
        go_wp2_with fail
        refine HMX.out.mono ?_
        rintro en w'' ⟨rfl, rfl⟩
        go_wp2
        go_ret
        exact ⟨rfl, rfl⟩
      · have d1 : decide ((-50 : Int) ≤ mn) = false := decide_eq_false hmn
        rw [d1, Bool.false_and]
        go_enter Tryz.func15, Tryz.ntmps15
        go_wp2_with fail
        refine HMN.out.mono ?_
        rintro en w' ⟨rfl, rfl⟩
        go_wp2
        go_ret
        exact ⟨rfl, rfl⟩
theorem keys_perm {w : World} {b k : Nat} {N : Int → Nat} {D : DataW Value} (hown : w.ownsMap Tryz.prog 3 Rv b k D) (hh : ∀ v : Int, (Lit.int .i64 v).wf = true → has D (.int .i64 v) = decide (N v ≠ 0)) {ss : List Int} (hnd : ss.Nodup) (hm : ∀ x, x ∈ ss ↔ N x ≠ 0)
    (hw : ∀ x ∈ ss, (Lit.int .i64 x).wf = true) : ss.Perm (intKeys D) := by
  obtain ⟨es, hD, hpw, _⟩ := hown.entries keyedI
  obtain ⟨es', hD', hko⟩ := hown.keysOf
  obtain rfl : es = es' := by rw [hD] at hD'; simpa using hD'
  subst hD
  refine perm_intKeys hpw (fun p hp => by obtain ⟨v, hv⟩ := hko p hp; obtain ⟨x, _, hx, _⟩ := Maps.keyOf_i64 Tryz.underlying3 hv; exact ⟨x, hx⟩) hnd (fun x => ⟨fun hx => ?_, fun hx => ?_⟩)
  · rw [hh x (hw x hx)]
    exact decide_eq_true ((hm x).1 hx)
  · have hwx : (Lit.int .i64 x).wf = true := by
      have h2 := hx
      rw [has_eq, List.any_eq_true] at h2
      obtain ⟨p, hp, hs⟩ := h2
      obtain ⟨v, hv⟩ := hko p hp
      obtain ⟨y, _, hy, hl⟩ := Maps.keyOf_i64 Tryz.underlying3 hv
      rw [hy, same_int] at hs
      rw [← of_decide_eq_true hs]
      exact hl
    rw [hh x hwx] at hx
    exact (hm x).2 (of_decide_eq_true hx)
theorem sort_is {ss T : List Int} (hp : ss.Perm T) (hT : T.Pairwise (· < ·)) : (ss.mergeSort fun x y => decide (x ≤ y)) = T := by
  have h1 : (ss.mergeSort fun x y => decide (x ≤ y)).Perm T := (List.mergeSort_perm ss _).trans hp
  have h2 : (ss.mergeSort fun x y => decide (x ≤ y)).Pairwise fun x y => decide (x ≤ y) = true := List.pairwise_mergeSort (le := fun x y => decide (x ≤ y)) (fun a b c h1 h2 => by simp only [decide_eq_true_eq] at *; omega) (fun a b => by simp only [Bool.or_eq_true, decide_eq_true_eq]; omega) _
  have h3 : (ss.mergeSort fun x y => decide (x ≤ y)).Nodup := h1.nodup_iff.2 (incr_nodup hT)
  have h4 : (ss.mergeSort fun x y => decide (x ≤ y)).Pairwise (· < ·) := (h2.and h3).imp fun h => by
    have := of_decide_eq_true h.1
    have := h.2
    omega
  exact incr17_same h4 hT fun x => h1.mem_iff
end Go.Proofs.YtlkgoljpjeieiaaGreatDoor
