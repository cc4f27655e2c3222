/-
  Chapter 22, BoundSound: the plain law.
-/
import Derived.Test.YtnlcfbaaomdjdaaDoorEvP
import Derived.Test.YtnlcfbaaomdjdaaDoorNarP
set_option linter.unusedVariables false
set_option linter.unusedSimpArgs false
namespace Go.Proofs.YtnlcfbaaomdjdaaDoor

theorem lastV_hit {l : List Rng} {xs : List Int} {t : ByteArray} {j : Nat} : ∀ n : Nat, j < n → (rngAt l j).name = t → (∀ i, j < i → i < n → (rngAt l i).name ≠ t) → lastV l xs t n = some (xs.getD j 0)
  | 0, h, _, _ => absurd h (by omega)
  | n + 1, h, hn, hr => by
    rw [lastV_next]
    by_cases hj : j = n
    · subst hj
      rw [if_pos (by exact hn)]
    · rw [if_neg (by exact hr n (by omega) (by omega))]
      exact lastV_hit n (by omega) hn (fun i h1 h2 => hr i h1 (by omega))
theorem names_apart {l : List Rng} (hv : validRs l = true) {i j : Nat} (hij : i < j) (hj : j < l.length) : (rngAt l i).name ≠ (rngAt l j).name := by
  intro h
  have := valid_prefix (rng_take (rs := l) (i := j) hj) (has_take hij (by omega) h)
  rw [hv] at this
  cases this
theorem look_at {l : List Rng} {t : ByteArray} {s : Int × Int} (h : look l t = some s) : ∃ j, j < l.length ∧ (rngAt l j).name = t ∧ s = ((rngAt l j).low, (rngAt l j).high) := by
  induction l with
  | nil => cases h
  | cons x l ih =>
    rw [look_cons] at h
    by_cases hx : x.name = t
    · rw [if_pos hx] at h
      injection h with h
      exact ⟨0, by simp, hx, h.symm⟩
    · rw [if_neg hx] at h
      obtain ⟨j, h1, h2, h3⟩ := ih h
      exact ⟨j + 1, by simpa using h1, h2, h3⟩
/-- The values lie in their ranges. -/
def InR (l : List Rng) (xs : List Int) : Prop := xs.length = l.length ∧ ∀ j, j < l.length → (rngAt l j).low ≤ xs.getD j 0 ∧ xs.getD j 0 ≤ (rngAt l j).high
theorem sig_at {l : List Rng} {xs : List Int} (hv : validRs l = true) (hx : xs.length = l.length) {j : Nat} (hj : j < l.length) : sigL l xs (rngAt l j).name = some (xs.getD j 0) := by
  unfold sigL
  rw [hx, Nat.min_self]
  exact lastV_hit l.length hj rfl (fun i h1 h2 h3 => names_apart hv h1 h2 h3.symm)
theorem fits_in {l : List Rng} {xs : List Int} (hv : validRs l = true) (hx : InR l xs) : Fits l (sigL l xs) := by
  intro t s hs
  obtain ⟨j, hj, rfl, rfl⟩ := look_at hs
  obtain ⟨_, m2, m3, _⟩ := valid_mem hv (List.mem_of_getElem? (rngAt_get hj))
  exact ⟨inB_beyond.2 m2, inB_beyond.2 m3, _, sig_at hv hx.1 hj, hx.2 j hj⟩
theorem sound_plain {e : List Nod} {l : List Rng} {xs : List Int} {lo hi : Int} (hb : boundsL e l = (lo, hi, 0)) (hx : InR l xs) : ∃ n, evalR (sigL l xs) e = (n, true) ∧ lo ≤ n ∧ n ≤ hi := by
  obtain ⟨hv, he, all, hg, rfl, rfl⟩ := bounds_ok hb
  obtain ⟨vs, h1, h2⟩ := go_sound (fits_in hv hx) e [] [] all Ws.nil (valid_oks he) hg
  have hl := (valid_nodes he).1
  refine ⟨vs.getD (e.length - 1) 0, ?_, ?_⟩
  · unfold evalR
    rw [h1]
    simp only
    rw [if_neg (by omega)]
  · have := h2.at_ (e.length - 1)
    unfold spanAt
    rw [show ((e.length : Int) - 1).toNat = e.length - 1 from by omega]
    exact this
/-! ### Points -/
theorem hull_pt {l : List Int} {v : Int} (h : l ≠ []) (hv : ∀ u ∈ l, u = v) : (hullL l).1 = (hullL l).2 := by
  obtain ⟨h1, h2⟩ := hull_mem h
  rw [hv _ h1, hv _ h2]
theorem node_pts {op a b c : Int} (hop : 3 ≤ op ∧ op ≤ 12) : (nodeB op (a, a) (b, b) (c, c)).1 = (nodeB op (a, a) (b, b) (c, c)).2 := by
  unfold nodeB
  dsimp only
  by_cases h3 : op = 3
  · rw [if_pos h3]
  · rw [if_neg h3]
    by_cases h4 : op = 4
    · rw [if_pos h4]
    · rw [if_neg h4]
      by_cases h5 : op = 5
      · rw [if_pos h5]
        exact hull_pt (v := timesL a b) (by simp) (by simp)
      · rw [if_neg h5]
        by_cases h6 : op = 6
        · rw [if_pos h6]
          refine hull_pt (v := overL a b) (div_ne (a, a) (b, b)) ?_
          intro u hu
          obtain ⟨d, hd, hu'⟩ := List.mem_flatMap.1 hu
          have hdb : d = b := by
            unfold divBy at hd
            dsimp only at hd
            split at hd
            · simp only [List.mem_cons, List.not_mem_nil, or_false] at hd
              rcases hd with h | h | h | h | h <;> omega
            · simp only [List.mem_cons, List.not_mem_nil, or_false] at hd
              rcases hd with h | h <;> omega
          rw [hdb] at hu'
          simpa using hu'
        · rw [if_neg h6]
          repeat' split
          all_goals first | rfl | (exfalso; omega) | skip
          all_goals (unfold flagsL; repeat' split)
          all_goals first | rfl | simp_all <;> omega
def Pts (all : List (Int × Int)) : Prop := ∀ i : Nat, (all.getD i (0, 0)).1 = (all.getD i (0, 0)).2
theorem Pts.snoc {all : List (Int × Int)} (h : Pts all) {s : Int × Int} (hs : s.1 = s.2) : Pts (all ++ [s]) := by
  intro i
  by_cases h1 : i < all.length
  · rw [List.getD_eq_getElem?_getD, List.getElem?_append_left h1, ← List.getD_eq_getElem?_getD]
    exact h i
  · by_cases h2 : i = all.length
    · subst h2
      rw [span_last]
      exact hs
    · rw [List.getD_eq_getElem?_getD, List.getElem?_eq_none (by simp; omega)]
      rfl
theorem go_pts {l : List Rng} (hl : ∀ t s, look l t = some s → s.1 = s.2) : ∀ (e : List Nod) (all all' : List (Int × Int)), Pts all → (∀ x ∈ e, nodeOk x) → goB l all e = .ok all' → Pts all'
  | [], all, all', h, _, hg => by
    injection hg with hg
    subst hg
    exact h
  | x :: e, all, all', h, hok, hg => by
    have hg' : (match stepB l all x with | Except.error r => Except.error r | Except.ok s => goB l (all ++ [s]) e) = .ok all' := hg
    cases hs : stepB l all x with
    | error r => rw [hs] at hg'; cases hg'
    | ok s =>
      rw [hs] at hg'
      refine go_pts hl e _ _ (h.snoc ?_) (fun y hy => hok y (List.mem_cons_of_mem _ hy)) hg'
      have hx := hok x List.mem_cons_self
      unfold stepB at hs
      by_cases h1 : x.op = 1
      · rw [if_pos h1] at hs
        injection hs with hs
        subst hs
        rfl
      · rw [if_neg h1] at hs
        by_cases h2 : x.op = 2
        · rw [if_pos h2] at hs
          cases hk : look l x.name with
          | none => rw [hk] at hs; cases hs
          | some u =>
            rw [hk] at hs
            injection hs with hs
            subst hs
            exact hl _ _ hk
        · rw [if_neg h2] at hs
          split at hs
          · cases hs
          · injection hs with hs
            subst hs
            have e0 : ∀ j : Int, spanAt all j = ((spanAt all j).1, (spanAt all j).1) := fun j => Prod.ext rfl (h j.toNat).symm
            rw [e0 (kidAt x 0), e0 (kidAt x 1), e0 (kidAt x 2)]
            exact node_pts (by have := hx.1; have := hx.2.1; omega)
theorem points_plain {e : List Nod} {l : List Rng} {lo hi : Int} (hb : boundsL e l = (lo, hi, 0)) (hp : ∀ j, j < l.length → (rngAt l j).low = (rngAt l j).high) : lo = hi := by
  obtain ⟨hv, he, all, hg, rfl, rfl⟩ := bounds_ok hb
  exact go_pts (fun t s hs => by obtain ⟨j, hj, _, rfl⟩ := look_at hs; exact hp j hj) e [] all (fun i => by simp) (valid_oks he) hg _
end Go.Proofs.YtnlcfbaaomdjdaaDoor
