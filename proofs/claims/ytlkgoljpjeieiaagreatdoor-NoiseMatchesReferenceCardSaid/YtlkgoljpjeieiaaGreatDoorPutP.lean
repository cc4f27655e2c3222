/-
  Chapter 17, the reference: a count is put into a distribution. No program.
-/
import Derived.Test.YtlkgoljpjeieiaaGreatDoorStpP
set_option linter.unusedVariables false
set_option linter.unusedSimpArgs false
namespace Go.Proofs.YtlkgoljpjeieiaaGreatDoor

/-- l is the distribution of the counts N, in the order of values. -/
def OrdL (l : List (Int × Nat)) (N : Int → Nat) : Prop := (l.map (·.1)).Pairwise (· < ·) ∧ (∀ v, v ∈ l.map (·.1) ↔ N v ≠ 0) ∧ ∀ p ∈ l, p.2 = N p.1
/-- Entry k. -/
def oAt (l : List (Int × Nat)) (k : Nat) : Int × Nat := l.getD k (0, 0)
theorem oAt_get {l : List (Int × Nat)} {k : Nat} (h : k < l.length) : l[k] = oAt l k := by
  unfold oAt
  rw [List.getD_eq_getElem?_getD, List.getElem?_eq_getElem h]
  rfl
theorem oAt_mem {l : List (Int × Nat)} {k : Nat} (h : k < l.length) : oAt l k ∈ l := by
  rw [← oAt_get h]
  exact List.getElem_mem h
theorem ord_nil : OrdL [] (fun _ => 0) := ⟨List.Pairwise.nil, fun v => by simp, fun p hp => by cases hp⟩
theorem ord_ext {l : List (Int × Nat)} {N M : Int → Nat} (h : OrdL l N) (e : ∀ v, N v = M v) : OrdL l M := by
  obtain rfl : N = M := funext e
  exact h
theorem ord_val {l : List (Int × Nat)} {N : Int → Nat} (h : OrdL l N) {k : Nat} (hk : k < l.length) : (oAt l k).2 = N (oAt l k).1 := h.2.2 _ (oAt_mem hk)
/-- One count more at v. -/
def plus17 (N : Int → Nat) (v : Int) (c : Nat) : Int → Nat := fun x => N x + if x = v then c else 0
theorem ord_same {l : List (Int × Nat)} {N : Int → Nat} (h : OrdL l N) {k c : Nat} {v : Int} (hk : k < l.length) (hv : (oAt l k).1 = v) : OrdL (l.set k (v, (oAt l k).2 + c)) (plus17 N v c) := by
  have hmap : (l.set k (v, (oAt l k).2 + c)).map (·.1) = l.map (·.1) := by
    rw [List.map_set]
    refine List.ext_getElem (by simp) fun i h1 h2 => ?_
    rw [List.getElem_set]
    split
    · rename_i e
      subst e
      rw [List.getElem_map, oAt_get hk]
      exact hv.symm
    · rfl
  refine ⟨by rw [hmap]; exact h.1, fun x => ?_, fun p hp => ?_⟩
  · rw [hmap, h.2.1]
    unfold plus17
    by_cases e : x = v
    · have : N v ≠ 0 := (h.2.1 v).1 (by rw [← hv]; exact List.mem_map_of_mem (oAt_mem hk))
      subst e
      rw [if_pos rfl]
      omega
    · rw [if_neg e, Nat.add_zero]
  · obtain ⟨j, hj, e⟩ := List.getElem_of_mem hp
    rw [List.length_set] at hj
    rw [List.getElem_set] at e
    unfold plus17
    split at e
    · rename_i ek
      rw [← e, if_pos rfl, ord_val h hk, hv]
    · rename_i ek
      rw [← e]
      have hne : (l[j]).1 ≠ v := by
        intro he
        have hpw := List.pairwise_iff_getElem.1 h.1
        rcases Nat.lt_or_gt_of_ne ek with hlt | hlt
        · have := hpw k j (by simpa using hk) (by simpa using hj) hlt
          rw [List.getElem_map, List.getElem_map, oAt_get hk, hv, he] at this
          omega
        · have := hpw j k (by simpa using hj) (by simpa using hk) hlt
          rw [List.getElem_map, List.getElem_map, oAt_get hk, hv, he] at this
          omega
      rw [if_neg hne, Nat.add_zero]
      exact h.2.2 _ (List.getElem_mem hj)
theorem ord_new {l : List (Int × Nat)} {N : Int → Nat} (h : OrdL l N) {k c : Nat} {v : Int} (hk : k ≤ l.length) (hc : c ≠ 0) (hb : ∀ j, j < k → (oAt l j).1 < v) (hx : k = l.length ∨ v < (oAt l k).1) :
    OrdL (l.take k ++ (v, c) :: l.drop k) (plus17 N v c) := by
  have hT : ∀ a ∈ l.take k, a.1 < v := fun a ha => by
    obtain ⟨j, hj, e⟩ := List.getElem_of_mem ha
    rw [List.length_take] at hj
    rw [List.getElem_take, oAt_get (by omega)] at e
    rw [← e]
    exact hb j (by omega)
  have hD : ∀ b ∈ l.drop k, v < b.1 := fun b hb' => by
    rcases hx with hx | h1
    · rw [hx, List.drop_length] at hb'
      cases hb'
    · obtain ⟨j, hj, e⟩ := List.getElem_of_mem hb'
      rw [List.length_drop] at hj
      rw [List.getElem_drop] at e
      have hkl : k < l.length := by omega
      cases j with
      | zero =>
        rw [← e]
        have : l[k + 0] = oAt l k := oAt_get hkl
        rw [this]
        exact h1
      | succ j =>
        have hpw := List.pairwise_iff_getElem.1 h.1 k (k + (j + 1)) (by simpa using hkl) (by simp; omega) (by omega)
        rw [List.getElem_map, List.getElem_map, oAt_get hkl, e] at hpw
        omega
  have hsplit : ∀ y : Int × Nat, y ∈ l ↔ y ∈ l.take k ∨ y ∈ l.drop k := fun y => by rw [← List.mem_append, List.take_append_drop]
  have hnot : N v = 0 := by
    apply Classical.byContradiction
    intro h0
    obtain ⟨p, hp, e⟩ := List.mem_map.1 ((h.2.1 v).2 h0)
    rcases (hsplit p).1 hp with hp | hp
    · have := hT p hp
      omega
    · have := hD p hp
      omega
  refine ⟨?_, fun x => ?_, fun p hp => ?_⟩
  · rw [List.map_append, List.map_cons, List.pairwise_append, List.pairwise_cons]
    have hs1 : (l.take k).map (·.1) |>.Pairwise (· < ·) := h.1.sublist ((List.take_sublist k l).map _)
    have hs2 : (l.drop k).map (·.1) |>.Pairwise (· < ·) := h.1.sublist ((List.drop_sublist k l).map _)
    refine ⟨hs1, ⟨fun a ha => ?_, hs2⟩, fun a ha b hb' => ?_⟩
    · obtain ⟨p, hp, rfl⟩ := List.mem_map.1 ha
      exact hD p hp
    · obtain ⟨p, hp, rfl⟩ := List.mem_map.1 ha
      have h1 := hT p hp
      rcases List.mem_cons.1 hb' with rfl | hb'
      · exact h1
      · obtain ⟨q, hq, rfl⟩ := List.mem_map.1 hb'
        have h2 := hD q hq
        omega
  · have e1 : x ∈ (l.take k ++ (v, c) :: l.drop k).map (·.1) ↔ x ∈ l.map (·.1) ∨ x = v := by
      simp only [List.mem_map, List.mem_append, List.mem_cons]
      constructor
      · rintro ⟨p, hp | rfl | hp, rfl⟩
        · exact .inl ⟨p, (hsplit p).2 (.inl hp), rfl⟩
        · exact .inr rfl
        · exact .inl ⟨p, (hsplit p).2 (.inr hp), rfl⟩
      · rintro (⟨p, hp, rfl⟩ | rfl)
        · rcases (hsplit p).1 hp with hp | hp
          · exact ⟨p, .inl hp, rfl⟩
          · exact ⟨p, .inr (.inr hp), rfl⟩
        · exact ⟨(x, c), .inr (.inl rfl), rfl⟩
    rw [e1, h.2.1]
    unfold plus17
    by_cases e : x = v
    · subst e
      rw [if_pos rfl]
      exact ⟨fun _ => by omega, fun _ => .inr rfl⟩
    · rw [if_neg e, Nat.add_zero]
      exact ⟨fun h => h.resolve_right e, .inl⟩
  · unfold plus17
    rcases List.mem_append.1 hp with hp | hp
    · have := hT p hp
      rw [if_neg (by omega), Nat.add_zero]
      exact h.2.2 p ((hsplit p).2 (.inl hp))
    · rcases List.mem_cons.1 hp with rfl | hp
      · rw [if_pos rfl, hnot, Nat.zero_add]
      · have := hD p hp
        rw [if_neg (by omega), Nat.add_zero]
        exact h.2.2 p ((hsplit p).2 (.inr hp))
theorem ord_dist {tape : List Int} (ht : ∀ t ∈ tape, -50 ≤ t ∧ t ≤ 50) {n : Nat} {l : List (Int × Nat)} (h : OrdL l fun v => (sums17 tape n).count v) : l = dist17 tape n := by
  have e : l.map (·.1) = supp17 tape n := incr17_same h.1 (supp17_incr tape n) fun x => by
    rw [h.2.1, supp17_mem ht]
    exact ⟨fun h => List.count_pos_iff.1 (Nat.pos_of_ne_zero h), fun h => Nat.ne_of_gt (List.count_pos_iff.2 h)⟩
  unfold dist17
  rw [← e, List.map_map]
  have : ∀ p ∈ l, ((fun v => (v, (sums17 tape n).count v)) ∘ fun x : Int × Nat => x.1) p = p := fun p hp => by
    have h2 : p.2 = (sums17 tape n).count p.1 := h.2.2 p hp
    show (p.1, (sums17 tape n).count p.1) = p
    rw [← h2]
  rw [List.map_congr_left this, List.map_id']
theorem dist_ord {tape : List Int} (ht : ∀ t ∈ tape, -50 ≤ t ∧ t ≤ 50) (n : Nat) : OrdL (dist17 tape n) fun v => (sums17 tape n).count v := by
  have e : (dist17 tape n).map (·.1) = supp17 tape n := by
    unfold dist17
    rw [List.map_map]
    exact List.map_id _
  refine ⟨by rw [e]; exact supp17_incr tape n, fun v => ?_, fun p hp => ?_⟩
  · rw [e, supp17_mem ht]
    exact ⟨fun h => Nat.ne_of_gt (List.count_pos_iff.2 h), fun h => List.count_pos_iff.1 (Nat.pos_of_ne_zero h)⟩
  · unfold dist17 at hp
    obtain ⟨v, _, rfl⟩ := List.mem_map.1 hp
    rfl
end Go.Proofs.YtlkgoljpjeieiaaGreatDoor
