/-
  Chapter 21, Names: sorted and compacted. No program.
-/
import Derived.Test.YtkomgidcgepknaaGreatDoorText
import Derived.Lib.SlicesCompact
set_option linter.unusedVariables false
set_option linter.unusedSimpArgs false
namespace Go.Proofs.YtkomgidcgepknaaGreatDoor
open Go.Lib

theorem ll_trans {a b c : List UInt8} (h : a ≤ b) (h' : b < c) : a < c := List.lt_of_le_of_lt h h'
theorem ll_ne {a b : List UInt8} (h : a ≤ b) (hn : a ≠ b) : a < b := by
  apply Classical.byContradiction
  intro hl
  exact hn (List.le_antisymm h (List.not_lt.1 hl))
theorem ll_irr (a : List UInt8) : ¬ a < a := List.lt_irrefl a
/-- What Compact leaves of a sorted list: the same members, each once, in order. -/
theorem compact_inv {d : Array (List UInt8)} (hs : ∀ i j, i < j → j < d.size → d[i]! ≤ d[j]!) : ∀ m, m ≤ d.size →
    (compactUpTo d m).Pairwise (· < ·) ∧ (∀ x, x ∈ compactUpTo d m ↔ ∃ j, j < m ∧ d[j]! = x) := by
  intro m
  induction m with
  | zero =>
    intro _
    refine ⟨List.Pairwise.nil, fun x => ⟨fun h => ?_, fun h => ?_⟩⟩
    · simp [compactUpTo] at h
    · obtain ⟨j, hj, _⟩ := h
      omega
  | succ m ih =>
    intro hm
    obtain ⟨i1, i2⟩ := ih (by omega)
    rw [compactUpTo_succ]
    cases hk : keeps d m
    · rw [if_neg (by decide), List.append_nil]
      refine ⟨i1, fun x => ⟨fun h => ?_, fun h => ?_⟩⟩
      · obtain ⟨j, hj, e⟩ := (i2 x).1 h
        exact ⟨j, by omega, e⟩
      · obtain ⟨j, hj, e⟩ := h
        by_cases hjm : j < m
        · exact (i2 x).2 ⟨j, hjm, e⟩
        · obtain rfl : j = m := by omega
          unfold keeps at hk
          have := of_decide_eq_false hk
          have h0 : j ≠ 0 := fun h => this (.inl h)
          have h1 : d[j]! = d[j - 1]! := Classical.byContradiction fun h => this (.inr h)
          exact (i2 x).2 ⟨j - 1, by omega, by rw [← h1]; exact e⟩
    · rw [if_pos rfl]
      constructor
      · rw [List.pairwise_append]
        refine ⟨i1, List.pairwise_singleton _ _, fun a ha b hb => ?_⟩
        simp only [List.mem_cons, List.not_mem_nil, or_false] at hb
        subst hb
        obtain ⟨j, hj, e⟩ := (i2 a).1 ha
        subst e
        have h0 : m ≠ 0 := by omega
        unfold keeps at hk
        have h1 : d[m]! ≠ d[m - 1]! := (of_decide_eq_true hk).elim (fun h => absurd h h0) id
        have h2 : d[m - 1]! ≤ d[m]! := hs _ _ (by omega) (by omega)
        have h3 := ll_ne h2 (fun h => h1 h.symm)
        by_cases hj2 : j = m - 1
        · rw [hj2]; exact h3
        · exact ll_trans (hs _ _ (by omega) (by omega)) h3
      · intro x
        rw [List.mem_append, i2]
        constructor
        · rintro (⟨j, hj, e⟩ | h)
          · exact ⟨j, by omega, e⟩
          · simp only [List.mem_cons, List.not_mem_nil, or_false] at h
            exact ⟨m, by omega, h.symm⟩
        · rintro ⟨j, hj, e⟩
          by_cases hjm : j < m
          · exact .inl ⟨j, hjm, e⟩
          · obtain rfl : j = m := by omega
            exact .inr (by rw [e]; exact List.mem_singleton.2 rfl)
/-- The names of an expression. -/
def namesRaw (e : List Nod) : List (List UInt8) := (e.filter fun x => decide (x.op = 2)).map fun x => x.name.data.toList
def namesL (e : List Nod) : List (List UInt8) := compactUpTo ((namesRaw e).mergeSort fun x y => decide (x ≤ y)).toArray (namesRaw e).length
theorem ll_total (a b : List UInt8) : (decide (a ≤ b) || decide (b ≤ a)) = true := by
  rcases List.le_total a b with h | h
  · rw [decide_eq_true h]; rfl
  · rw [decide_eq_true h, Bool.or_true]
theorem names_inv (e : List Nod) : (namesL e).Pairwise (· < ·) ∧ ∀ x, x ∈ namesL e ↔ x ∈ namesRaw e := by
  have hlen : ((namesRaw e).mergeSort fun x y => decide (x ≤ y)).length = (namesRaw e).length := List.length_mergeSort _
  have hp : ((namesRaw e).mergeSort fun x y => decide (x ≤ y)).Pairwise fun x y => decide (x ≤ y) = true :=
    List.pairwise_mergeSort (le := fun x y => decide (x ≤ y)) (fun a b c h1 h2 => decide_eq_true (List.le_trans (of_decide_eq_true h1) (of_decide_eq_true h2))) ll_total _
  have hmem : ∀ x, x ∈ (namesRaw e).mergeSort (fun x y => decide (x ≤ y)) ↔ x ∈ namesRaw e := fun x => List.mem_mergeSort
  unfold namesL
  generalize (namesRaw e).mergeSort (fun x y => decide (x ≤ y)) = s at hlen hp hmem
  have hat : ∀ j, j < s.length → s.toArray[j]! = s.getD j [] := fun j hj => by
    rw [List.getD_eq_getElem?_getD, List.getElem?_eq_getElem hj]
    simp [hj]
  have := compact_inv (d := s.toArray) (fun i j hij hj => by
    have hj : j < s.length := by simpa using hj
    rw [hat _ (by omega), hat _ hj, List.getD_eq_getElem?_getD, List.getElem?_eq_getElem (by omega), List.getD_eq_getElem?_getD, List.getElem?_eq_getElem hj]
    exact of_decide_eq_true (List.pairwise_iff_getElem.1 hp i j (by omega) hj hij)) s.length (by simp)
  rw [← hlen]
  refine ⟨this.1, fun x => ?_⟩
  rw [this.2, ← hmem]
  constructor
  · rintro ⟨j, hj, e⟩
    rw [← e, hat _ hj]
    exact getD_mem s j [] hj
  · intro hx
    obtain ⟨j, hj, e⟩ := List.getElem_of_mem hx
    exact ⟨j, hj, by rw [hat _ hj, List.getD_eq_getElem?_getD, List.getElem?_eq_getElem hj]; exact e⟩
/-- Two lists in strictly increasing order with the same members are one. -/
theorem incr_same : ∀ {l m : List (List UInt8)}, l.Pairwise (· < ·) → m.Pairwise (· < ·) → (∀ x, x ∈ l ↔ x ∈ m) → l = m
  | [], [], _, _, _ => rfl
  | [], y :: m, _, _, h => absurd ((h y).2 List.mem_cons_self) (by simp)
  | x :: l, [], _, _, h => absurd ((h x).1 List.mem_cons_self) (by simp)
  | x :: l, y :: m, hl, hm, h => by
    rw [List.pairwise_cons] at hl hm
    have hxy : x = y := by
      rcases List.mem_cons.1 ((h x).1 List.mem_cons_self) with e | hx
      · exact e
      · rcases List.mem_cons.1 ((h y).2 List.mem_cons_self) with e | hy
        · exact e.symm
        · exact absurd (List.lt_trans (hl.1 y hy) (hm.1 x hx)) (ll_irr x)
    subst hxy
    congr 1
    refine incr_same hl.2 hm.2 fun z => ⟨fun hz => ?_, fun hz => ?_⟩
    · rcases List.mem_cons.1 ((h z).1 (List.mem_cons_of_mem _ hz)) with e | h1
      · subst e
        exact absurd (hl.1 z hz) (ll_irr z)
      · exact h1
    · rcases List.mem_cons.1 ((h z).2 (List.mem_cons_of_mem _ hz)) with e | h1
      · subst e
        exact absurd (hm.1 z hz) (ll_irr z)
      · exact h1
theorem names_mem {e : List Nod} {t : List UInt8} : t ∈ namesRaw e ↔ ∃ x ∈ e, x.op = 2 ∧ x.name.data.toList = t := by
  unfold namesRaw
  rw [List.mem_map]
  constructor
  · rintro ⟨x, hx, rfl⟩
    rw [List.mem_filter] at hx
    exact ⟨x, hx.1, of_decide_eq_true hx.2, rfl⟩
  · rintro ⟨x, hx, ho, rfl⟩
    exact ⟨x, List.mem_filter.2 ⟨hx, decide_eq_true ho⟩, rfl⟩
end Go.Proofs.YtkomgidcgepknaaGreatDoor
