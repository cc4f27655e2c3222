/-
  The reference of chapter 22: its bounds are the program's, node by node. No program.
-/
import Derived.Test.YtnlcfbaaomdjdaaGreatDoorBndR
import Derived.Test.YtnlcfbaaomdjdaaGreatDoorRefP
set_option linter.unusedVariables false
set_option linter.unusedSimpArgs false
namespace Go.Proofs.YtnlcfbaaomdjdaaGreatDoor

def ordS (s : Int × Int) : Prop := s.1 ≤ s.2
theorem cand_ne {op : Int} {x y z : Int × Int} (hx : ordS x) (hy : ordS y) (hop : 3 ≤ op ∧ op ≤ 12) : candR op x y z ≠ [] := by
  unfold ordS at hx hy
  have : op = 3 ∨ op = 4 ∨ op = 5 ∨ op = 6 ∨ op = 7 ∨ op = 8 ∨ op = 9 ∨ op = 10 ∨ op = 11 ∨ op = 12 := by omega
  unfold candR
  rcases this with rfl | rfl | rfl | rfl | rfl | rfl | rfl | rfl | rfl | rfl
  · simp
  · simp
  · simp
  · rw [if_neg (by decide), if_neg (by decide), if_neg (by decide), if_neg (by decide), if_pos rfl]
    split <;> simp
  · simp
  · simp
  · rw [if_neg (by decide), if_neg (by decide), if_neg (by decide), if_neg (by decide), if_neg (by decide), if_neg (by decide), if_neg (by decide), if_pos rfl]
    by_cases h : 0 < x.2
    · rw [if_pos h]; simp
    · rw [if_neg h, if_pos (by omega)]; simp
  · rw [if_neg (by decide), if_neg (by decide), if_neg (by decide), if_neg (by decide), if_neg (by decide), if_neg (by decide), if_neg (by decide), if_neg (by decide), if_pos rfl]
    by_cases h : x.1 < y.2
    · rw [if_pos h]; simp
    · rw [if_neg h, if_pos (by omega)]; simp
  · rw [if_neg (by decide), if_neg (by decide), if_neg (by decide), if_neg (by decide), if_neg (by decide), if_neg (by decide), if_neg (by decide), if_neg (by decide), if_neg (by decide), if_pos rfl]
    by_cases h : max x.1 y.1 ≤ min x.2 y.2
    · rw [if_pos h]; simp
    · rw [if_neg h, if_pos (by omega)]; simp
  · simp
theorem hull_ord {l : List Int} (h : l ≠ []) : ordS (hullL l) := by
  have := hull_in (hull_mem h).1
  exact this.2
theorem nodeR_ord {op : Int} {x y z : Int × Int} (hx : ordS x) (hy : ordS y) (hop : 3 ≤ op ∧ op ≤ 12) : ordS (nodeR op x y z) := hull_ord (cand_ne hx hy hop)
/-- The reference's step at an operator. -/
theorem step_R {l : List Rng} {all : List (Int × Int)} {x : Nod} (ho : ∀ j, ordS (spanAt all j)) (hb : ∀ j, inS (spanAt all j)) (hop : 3 ≤ x.op ∧ x.op ≤ 12) :
    stepB l all x = if (decide ((nodeR x.op (spanAt all (kidAt x 0)) (spanAt all (kidAt x 1)) (spanAt all (kidAt x 2))).1 < -1000000000000) || decide (1000000000000 < (nodeR x.op (spanAt all (kidAt x 0)) (spanAt all (kidAt x 1)) (spanAt all (kidAt x 2))).2)) = true then .error 9
      else .ok (nodeR x.op (spanAt all (kidAt x 0)) (spanAt all (kidAt x 1)) (spanAt all (kidAt x 2))) := by
  have h0 := ho (kidAt x 0)
  have h1 := ho (kidAt x 1)
  have h2 := ho (kidAt x 2)
  have b0 := hb (kidAt x 0)
  have b1 := hb (kidAt x 1)
  have hn := node_R (op := x.op) h0 h1 h2 hop ⟨inB_beyond.2 b0.1, inB_beyond.2 b0.2⟩ ⟨inB_beyond.2 b1.1, inB_beyond.2 b1.2⟩
  have hr : ordS (nodeR x.op (spanAt all (kidAt x 0)) (spanAt all (kidAt x 1)) (spanAt all (kidAt x 2))) := nodeR_ord h0 h1 hop
  unfold stepB
  rw [if_neg (by omega), if_neg (by omega)]
  generalize nodeR x.op (spanAt all (kidAt x 0)) (spanAt all (kidAt x 1)) (spanAt all (kidAt x 2)) = r at hn hr ⊢
  generalize nodeB x.op (spanAt all (kidAt x 0)) (spanAt all (kidAt x 1)) (spanAt all (kidAt x 2)) = s at hn ⊢
  have hiff : (beyondL r.1 || beyondL r.2) = (decide (r.1 < -1000000000000) || decide (1000000000000 < r.2)) := by
    unfold ordS at hr
    unfold beyondL MB
    rw [Bool.eq_iff_iff]
    simp only [Bool.or_eq_true, decide_eq_true_eq]
    omega
  rw [← hiff]
  rcases hn with rfl | ⟨h3, h4⟩
  · rfl
  · rw [if_pos h3, if_pos h4]
theorem look_ord {l : List Rng} (hl : validRs l = true) {t : ByteArray} {s : Int × Int} (h : look l t = some s) : ordS s := by
  induction l with
  | nil => cases h
  | cons r l ih =>
    unfold validRs at hl
    simp only [Bool.and_eq_true] at hl
    obtain ⟨⟨h1, h2⟩, _⟩ := hl
    unfold look at h
    rw [List.find?_cons] at h
    cases hd : decide (r.name = t)
    · rw [hd] at h
      exact ih h1 h
    · rw [hd] at h
      injection h with h
      subst h
      unfold okR at h2
      simp only [Bool.and_eq_true, decide_eq_true_eq] at h2
      exact h2.2
theorem step_ord {l : List Rng} (hl : validRs l = true) {all : List (Int × Int)} {x : Nod} (hx : nodeOk x) (ho : ∀ j, ordS (spanAt all j)) (hb : ∀ j, inS (spanAt all j)) {s : Int × Int} (h : stepB l all x = .ok s) : ordS s := by
  by_cases h1 : x.op = 1
  · unfold stepB at h
    rw [if_pos h1] at h
    injection h with h
    subst h
    exact Int.le_refl _
  · by_cases h2 : x.op = 2
    · unfold stepB at h
      rw [if_neg h1, if_pos h2] at h
      cases hk : look l x.name with
      | none => rw [hk] at h; cases h
      | some u =>
        rw [hk] at h
        injection h with h
        subst h
        exact look_ord hl hk
    · have hop : 3 ≤ x.op ∧ x.op ≤ 12 := by have := hx.1; have := hx.2.1; omega
      rw [step_R ho hb hop] at h
      split at h
      · cases h
      · injection h with h
        subst h
        exact nodeR_ord (ho _) (ho _) hop
theorem spans_snoc {all : List (Int × Int)} (h : ∀ s ∈ all, ordS s ∧ inS s) : (∀ j, ordS (spanAt all j)) ∧ ∀ j, inS (spanAt all j) := by
  refine ⟨fun j => ?_, fun j => span_in (fun s hs => (h s hs).2) j⟩
  unfold spanAt
  by_cases hj : j.toNat < all.length
  · rw [List.getD_eq_getElem?_getD, List.getElem?_eq_getElem hj]
    exact (h _ (List.getElem_mem hj)).1
  · rw [List.getD_eq_getElem?_getD, List.getElem?_eq_none (by omega)]
    exact Int.le_refl _
theorem go_ord {l : List Rng} (hl : validRs l = true) : ∀ (e : List Nod) (all all' : List (Int × Int)), (∀ s ∈ all, ordS s ∧ inS s) → (∀ x ∈ e, nodeOk x) → goB l all e = .ok all' → ∀ s ∈ all', ordS s ∧ inS s
  | [], all, all', h, _, hg => by
    injection hg with hg
    subst hg
    exact h
  | x :: e, all, all', h, hx, hg => by
    have hg' : (match stepB l all x with | Except.error r => Except.error r | Except.ok s => goB l (all ++ [s]) e) = .ok all' := hg
    cases hs : stepB l all x with
    | error r => rw [hs] at hg'; cases hg'
    | ok s =>
      rw [hs] at hg'
      have hsp := spans_snoc h
      refine go_ord hl e _ _ (fun y hy => ?_) (fun y hy => hx y (by simp [hy])) hg'
      rcases List.mem_append.1 hy with hy | hy
      · exact h y hy
      · rw [List.mem_singleton.1 hy]
        exact ⟨step_ord hl (hx x (by simp)) hsp.1 hsp.2 hs, step_in hl (hx x (by simp)) hs⟩
/-- The last of the ranges with the name, of the first j. -/
def lookJ (l : List Rng) (t : ByteArray) : Nat → Option (Int × Int)
  | 0 => none
  | j + 1 => if (l.getD j ⟨ByteArray.empty, 0, 0⟩).name = t then some ((l.getD j ⟨ByteArray.empty, 0, 0⟩).low, (l.getD j ⟨ByteArray.empty, 0, 0⟩).high) else lookJ l t j
theorem lookJ_none {l : List Rng} {t : ByteArray} : ∀ n, (∀ i, i < n → (l.getD i ⟨ByteArray.empty, 0, 0⟩).name ≠ t) → lookJ l t n = none
  | 0, _ => rfl
  | n + 1, h => by
    unfold lookJ
    rw [if_neg (h n (by omega))]
    exact lookJ_none n fun i hi => h i (by omega)
theorem lookJ_hit {l : List Rng} {t : ByteArray} {j : Nat} : ∀ n : Nat, j < n → (l.getD j ⟨ByteArray.empty, 0, 0⟩).name = t → (∀ i, j < i → i < n → (l.getD i ⟨ByteArray.empty, 0, 0⟩).name ≠ t) → lookJ l t n = some ((l.getD j ⟨ByteArray.empty, 0, 0⟩).low, (l.getD j ⟨ByteArray.empty, 0, 0⟩).high)
  | 0, h, _, _ => absurd h (by omega)
  | n + 1, h, hn, hr => by
    unfold lookJ
    by_cases hj : j = n
    · subst hj
      rw [if_pos hn]
    · rw [if_neg (hr n (by omega) (by omega))]
      exact lookJ_hit n (by omega) hn fun i h1 h2 => hr i h1 (by omega)
theorem lookJ_cons (r : Rng) (l : List Rng) (t : ByteArray) : ∀ n, n ≤ l.length → lookJ (r :: l) t (n + 1) = match lookJ l t n with | some s => some s | none => if r.name = t then some (r.low, r.high) else none
  | 0, _ => by
    show (if _ = t then _ else none) = _
    rfl
  | n + 1, h => by
    have ih := lookJ_cons r l t n (by omega)
    show (if ((r :: l).getD (n + 1) _).name = t then _ else lookJ (r :: l) t (n + 1)) = _
    rw [ih]
    show (if (l.getD n ⟨ByteArray.empty, 0, 0⟩).name = t then some ((l.getD n ⟨ByteArray.empty, 0, 0⟩).low, (l.getD n ⟨ByteArray.empty, 0, 0⟩).high) else _) = (match (if (l.getD n ⟨ByteArray.empty, 0, 0⟩).name = t then some ((l.getD n ⟨ByteArray.empty, 0, 0⟩).low, (l.getD n ⟨ByteArray.empty, 0, 0⟩).high) else lookJ l t n) with | some s => some s | none => if r.name = t then some (r.low, r.high) else none)
    by_cases hn : (l.getD n ⟨ByteArray.empty, 0, 0⟩).name = t
    · rw [if_pos hn, if_pos hn]
    · rw [if_neg hn, if_neg hn]
theorem lookJ_eq : ∀ {l : List Rng}, validRs l = true → ∀ t, lookJ l t l.length = look l t
  | [], _, t => rfl
  | r :: l, hv, t => by
    unfold validRs at hv
    simp only [Bool.and_eq_true] at hv
    rw [List.length_cons, lookJ_cons r l t l.length (Nat.le_refl _), lookJ_eq hv.1.1 t]
    unfold look
    rw [List.find?_cons]
    by_cases hr : r.name = t
    · rw [decide_eq_true hr]
      have : l.find? (fun r => decide (r.name = t)) = none := List.find?_eq_none.2 fun x hx => by
        have := of_decide_eq_true (List.all_eq_true.1 hv.2 x hx)
        rw [hr] at this
        simpa using this
      rw [this]
      simp [hr]
    · rw [decide_eq_false hr]
      dsimp only
      cases l.find? (fun r => decide (r.name = t)) with
      | none => simp [hr]
      | some x => rfl
end Go.Proofs.YtnlcfbaaomdjdaaGreatDoor
