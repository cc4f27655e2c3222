/-
  Chapter 37: a subscription with other fields. No program.
-/
import Derived.Test.YtkofmiegnfgbjaaGreatDoorFall
set_option linter.unusedVariables false
set_option linter.unusedSimpArgs false
namespace Go.Proofs.YtkofmiegnfgbjaaGreatDoor

theorem sbAt_set {l : List Sb} {k i : Nat} {s : Sb} (hi : i < l.length) : sbAt (l.set k s) i = if k = i then s else sbAt l i := by
  unfold sbAt
  rw [List.getD_eq_getElem?_getD, List.getD_eq_getElem?_getD, List.getElem?_set]
  by_cases h : k = i
  · subst h
    rw [if_pos rfl, if_pos rfl, if_pos hi]
    rfl
  · rw [if_neg h, if_neg h]
theorem sbs_set {l : List Sb} {k : Nat} {s : Sb} (h : sbsValid l = true) (hs : sbValid s = true) : sbsValid (l.set k s) = true := by
  unfold sbsValid at h ⊢
  simp only [Bool.and_eq_true, decide_eq_true_eq, List.all_eq_true, List.length_set] at h ⊢
  refine ⟨h.1, fun x hx => ?_⟩
  rcases List.mem_or_eq_of_mem_set hx with h1 | h1
  · exact h.2 x h1
  · rw [h1]; exact hs
theorem sbValid_tile {s : Sb} (h : sbValid s = true) : sbValid { s with tile := -1 } = true := by
  unfold sbValid btw at h ⊢
  simp only [Bool.and_eq_true, decide_eq_true_eq] at h ⊢
  exact ⟨⟨⟨h.1.1.1, h.1.1.2⟩, by omega, by omega⟩, h.2⟩
theorem sbValid_filt {s : Sb} (h : sbValid s = true) : sbValid { s with filt := -1 } = true := by
  unfold sbValid btw at h ⊢
  simp only [Bool.and_eq_true, decide_eq_true_eq] at h ⊢
  exact ⟨⟨⟨h.1.1.1, h.1.1.2⟩, h.1.2⟩, by omega, by omega⟩
theorem sbValid_prog {s : Sb} {p : Int} (h : sbValid s = true) (hp : 0 ≤ p ∧ p ≤ 63) : sbValid { s with prog := p } = true := by
  unfold sbValid btw at h ⊢
  simp only [Bool.and_eq_true, decide_eq_true_eq] at h ⊢
  exact ⟨⟨⟨h.1.1.1, hp⟩, h.1.2⟩, h.2⟩
theorem sbAt_valid {l : List Sb} (h : sbsValid l = true) {i : Nat} (hi : i < l.length) : sbValid (sbAt l i) = true := by
  unfold sbsValid at h
  simp only [Bool.and_eq_true, List.all_eq_true] at h
  exact h.2 _ (sbAt_mem hi)
/-- -1 in place of a tile or of a filter. -/
def wide37 (tile : Bool) (s : Sb) : Sb := if tile then { s with tile := -1 } else { s with filt := -1 }
theorem wide_valid {tile : Bool} {s : Sb} (h : sbValid s = true) : sbValid (wide37 tile s) = true := by
  unfold wide37
  split
  · exact sbValid_tile h
  · exact sbValid_filt h
theorem wide_conc {tile : Bool} {s : Sb} {a : Al} (h : conc s a = true) : conc (wide37 tile s) a = true := by
  unfold wide37 conc at *
  simp only [Bool.and_eq_true, Bool.or_eq_true, decide_eq_true_eq] at h
  split <;> simp [h.1, h.2]
theorem wide_hit {tile : Bool} {s : Sb} {a : Al} : hitS a (wide37 tile s) = hitS a s := by
  unfold wide37
  split <;> rfl
theorem wide_match {l : List Sb} {a : Al} {k : Nat} {tile : Bool} (h : (matchF l a).2 = 0) (hk : k < l.length) :
    (matchF (l.set k (wide37 tile (sbAt l k))) a).2 = 0 ∧ (∀ i : Nat, i < l.length → i ≠ k → decide ((i : Int) ∈ (matchF (l.set k (wide37 tile (sbAt l k))) a).1) = decide ((i : Int) ∈ (matchF l a).1)) ∧
      ((k : Int) ∈ (matchF l a).1 → (k : Int) ∈ (matchF (l.set k (wide37 tile (sbAt l k))) a).1) := by
  obtain ⟨h1, h2⟩ := matchF_ok h
  rw [matchF_val ⟨h1, h2⟩, matchF_val ⟨sbs_set h1 (wide_valid (sbAt_valid h1 hk)), h2⟩]
  dsimp only
  refine ⟨rfl, fun i hi hne => ?_, fun hm => ?_⟩
  · congr 1
    refine propext ?_
    rw [selL_mem, selL_mem]
    constructor
    · rintro ⟨j, e, hj, hp⟩
      obtain rfl : i = j := by omega
      rw [sbAt_set hi, if_neg (fun e => hne e.symm)] at hp
      exact ⟨i, rfl, hi, hp⟩
    · rintro ⟨j, e, hj, hp⟩
      obtain rfl : i = j := by omega
      refine ⟨i, rfl, by rw [List.length_set]; exact hi, ?_⟩
      rw [sbAt_set hi, if_neg (fun e => hne e.symm)]
      exact hp
  · rw [selL_mem] at hm ⊢
    obtain ⟨j, e, hj, hp⟩ := hm
    obtain rfl : k = j := by omega
    refine ⟨k, rfl, by rw [List.length_set]; exact hk, ?_⟩
    rw [sbAt_set hk, if_pos rfl]
    simp only [Bool.and_eq_true] at hp ⊢
    exact ⟨wide_conc hp.1, by rw [wide_hit]; exact hp.2⟩
theorem other_match {l : List Sb} {a : Al} {k : Nat} {p m : Int} (h : (matchF l a).2 = 0) (hk : k < l.length) (hp : 0 ≤ p ∧ p ≤ 63) (hm : 0 ≤ m ∧ m ≤ 38399) :
    matchF (l.set k { sbAt l k with prog := p }) { a with mom := m } = matchF l a := by
  obtain ⟨h1, h2⟩ := matchF_ok h
  have h3 : alValid { a with mom := m } = true := by
    unfold alValid btw at h2 ⊢
    simp only [Bool.and_eq_true, decide_eq_true_eq] at h2 ⊢
    exact ⟨h2.1, hm⟩
  rw [matchF_val ⟨h1, h2⟩, matchF_val ⟨sbs_set h1 (sbValid_prog (sbAt_valid h1 hk) hp), h3⟩]
  congr 1
  refine selL_congr (by rw [List.length_set]) fun i hi => ?_
  rw [List.length_set] at hi
  rw [sbAt_set hi]
  split
  · rename_i e
    subst e
    rfl
  · rfl
end Go.Proofs.YtkofmiegnfgbjaaGreatDoor
