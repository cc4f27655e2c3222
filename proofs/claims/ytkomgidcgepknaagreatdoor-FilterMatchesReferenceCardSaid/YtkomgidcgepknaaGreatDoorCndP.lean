/-
  Chapter 37: each condition has a value; where a match stands. No program.
-/
import Derived.Test.YtkomgidcgepknaaGreatDoorFall
set_option linter.unusedVariables false
set_option linter.unusedSimpArgs false
namespace Go.Proofs.YtkomgidcgepknaaGreatDoor
open Go.RowKit Go.Deep Go.Maps

theorem al_bounds {a : Al} (h : alValid a = true) : (0 ≤ a.tile ∧ a.tile ≤ 511) ∧ (0 ≤ a.cell ∧ a.cell ≤ 3) ∧ (0 ≤ a.filt ∧ a.filt ≤ 7) ∧ (0 ≤ a.val ∧ a.val ≤ 65535) ∧ (0 ≤ a.mom ∧ a.mom ≤ 38399) := by
  unfold alValid btw at h
  simp only [Bool.and_eq_true, decide_eq_true_eq] at h
  omega
/-- Each condition has a value. -/
theorem cond_val {s : Sb} {a : Al} (hs : sbValid s = true) (ha : alValid a = true) : (evalM s.whn (vars37 a)).2 = 0 := by
  obtain ⟨h1, h2, h3, h4, _⟩ := al_bounds ha
  unfold sbValid at hs
  simp only [Bool.and_eq_true, decide_eq_true_eq] at hs
  have hb := hs.1.1.1
  let be : Nat → Int := fun i => ([a.val, a.cell, a.tile, a.filt].getD i 0)
  let ab : Nat → Int := fun i => ([65535 - a.val, 3 - a.cell, 511 - a.tile, 7 - a.filt].getD i 0)
  have hr : aroundL (vars37 a) be ab = rngs37 := by
    have e0 : wrap64 (a.val - a.val) = 0 := by rw [IntWalk.wrap64_in _ (by omega)]; omega
    have e1 : wrap64 (a.val + (65535 - a.val)) = 65535 := by rw [IntWalk.wrap64_in _ (by omega)]; omega
    have e2 : wrap64 (a.cell - a.cell) = 0 := by rw [IntWalk.wrap64_in _ (by omega)]; omega
    have e3 : wrap64 (a.cell + (3 - a.cell)) = 3 := by rw [IntWalk.wrap64_in _ (by omega)]; omega
    have e4 : wrap64 (a.tile - a.tile) = 0 := by rw [IntWalk.wrap64_in _ (by omega)]; omega
    have e5 : wrap64 (a.tile + (511 - a.tile)) = 511 := by rw [IntWalk.wrap64_in _ (by omega)]; omega
    have e6 : wrap64 (a.filt - a.filt) = 0 := by rw [IntWalk.wrap64_in _ (by omega)]; omega
    have e7 : wrap64 (a.filt + (7 - a.filt)) = 7 := by rw [IntWalk.wrap64_in _ (by omega)]; omega
    show [_, _, _, _] = _
    show [(⟨_, wrap64 (a.val - a.val), wrap64 (a.val + (65535 - a.val))⟩ : Rng), ⟨_, wrap64 (a.cell - a.cell), wrap64 (a.cell + (3 - a.cell))⟩, ⟨_, wrap64 (a.tile - a.tile), wrap64 (a.tile + (511 - a.tile))⟩, ⟨_, wrap64 (a.filt - a.filt), wrap64 (a.filt + (7 - a.filt))⟩] = _
    rw [e0, e1, e2, e3, e4, e5, e6, e7]
    rfl
  have hbe : ∀ i, 0 ≤ be i ∧ be i ≤ 100000 ∧ 0 ≤ ab i ∧ ab i ≤ 100000 := by
    intro i
    match i with
    | 0 => show 0 ≤ a.val ∧ a.val ≤ 100000 ∧ 0 ≤ 65535 - a.val ∧ 65535 - a.val ≤ 100000; omega
    | 1 => show 0 ≤ a.cell ∧ a.cell ≤ 100000 ∧ 0 ≤ 3 - a.cell ∧ 3 - a.cell ≤ 100000; omega
    | 2 => show 0 ≤ a.tile ∧ a.tile ≤ 100000 ∧ 0 ≤ 511 - a.tile ∧ 511 - a.tile ≤ 100000; omega
    | 3 => show 0 ≤ a.filt ∧ a.filt ≤ 100000 ∧ 0 ≤ 7 - a.filt ∧ 7 - a.filt ≤ 100000; omega
    | _ + 4 => show (0 : Int) ≤ 0 ∧ (0 : Int) ≤ 100000 ∧ (0 : Int) ≤ 0 ∧ (0 : Int) ≤ 100000; omega
  have hw : ∀ v ∈ vars37 a, -9223372036854775808 ≤ v.val ∧ v.val ≤ 9223372036854775807 := by
    intro v hv
    simp only [vars37, List.mem_cons, List.not_mem_nil, or_false] at hv
    rcases hv with rfl | rfl | rfl | rfl <;> (dsimp only; omega)
  obtain ⟨n, hn, _⟩ := merit_bounds (lo := (boundsL s.whn rngs37).1) (hi := (boundsL s.whn rngs37).2.1) hbe hw (by rw [hr, ← hb])
  rw [hn]
theorem sbs_at {l : List Sb} (h : sbsValid l = true) {i : Nat} (hi : i < l.length) : sbValid (sbAt l i) = true := by
  unfold sbsValid at h
  simp only [Bool.and_eq_true, List.all_eq_true] at h
  exact h.2 _ (sbAt_mem hi)
theorem selL_nth {P : Sb → Bool} {l : List Sb} {i : Nat} (hi : i < l.length) (hP : P (sbAt l i) = true) : (selL P (l.take i)).length < (selL P l).length ∧ nth (selL P l) (selL P (l.take i)).length = (i : Int) := by
  have h1 := selL_parts P l (k := i + 1) (by omega)
  rw [selL_take P l hi, if_pos hP] at h1
  constructor
  · rw [h1]
    simp only [List.length_append, List.length_cons, List.length_nil]
    omega
  · unfold nth
    rw [h1, List.append_assoc, List.getD_eq_getElem?_getD, List.getElem?_append_right (Nat.le_refl _), Nat.sub_self]
    rfl
theorem hit_conc {a : Al} {l : List Sb} : (selL (fun s => conc s a && hitS a s) l).length ≤ (selL (fun s => conc s a) l).length := by
  unfold selL
  rw [List.length_map, List.length_map, ← List.countP_eq_length_filter, ← List.countP_eq_length_filter]
  exact List.countP_mono_left fun x _ h => by
    simp only [Bool.and_eq_true] at h
    exact h.1
end Go.Proofs.YtkomgidcgepknaaGreatDoor
