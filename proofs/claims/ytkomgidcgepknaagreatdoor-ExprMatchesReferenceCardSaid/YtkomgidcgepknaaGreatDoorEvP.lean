/-
  Chapter 22: the law's evaluation in plain words.
-/
import Derived.Test.YtkomgidcgepknaaGreatDoorBndP
set_option linter.unusedVariables false
set_option linter.unusedSimpArgs false
namespace Go.Proofs.YtkomgidcgepknaaGreatDoor

theorem goV_append (σ : ByteArray → Option Int) : ∀ (e f : List Nod) (vs : List Int), goV σ vs (e ++ f) = match goV σ vs e with | some a => goV σ a f | none => none
  | [], f, vs => rfl
  | x :: e, f, vs => by
    show (match stepV σ vs x with | none => none | some v => goV σ (vs ++ [v]) (e ++ f)) = _
    show _ = (match (match stepV σ vs x with | none => none | some v => goV σ (vs ++ [v]) e) with | some a => goV σ a f | none => none)
    cases stepV σ vs x with
    | none => rfl
    | some v => exact goV_append σ e f (vs ++ [v])
theorem goV_next {σ : ByteArray → Option Int} {e : List Nod} {k : Nat} {vs : List Int} (hk : k < e.length) (h : goV σ [] (e.take k) = some vs) {v : Int} (hs : stepV σ vs (nodAt e k) = some v) : goV σ [] (e.take (k + 1)) = some (vs ++ [v]) := by
  rw [nod_take hk, goV_append, h]
  show (match stepV σ vs (nodAt e k) with | none => none | some v => goV σ (vs ++ [v]) []) = _
  rw [hs]
  rfl
theorem goV_stop {σ : ByteArray → Option Int} {e : List Nod} {k : Nat} {vs : List Int} (hk : k < e.length) (h : goV σ [] (e.take k) = some vs) (hs : stepV σ vs (nodAt e k) = none) : goV σ [] e = none := by
  have he : e = e.take k ++ nodAt e k :: e.drop (k + 1) := by
    have := List.take_append_drop (k + 1) e
    rw [nod_take hk, List.append_assoc] at this
    exact this.symm
  rw [he, goV_append, h]
  show (match stepV σ vs (nodAt e k) with | none => none | some v => goV σ (vs ++ [v]) (e.drop (k + 1))) = _
  rw [hs]
theorem goV_len {σ : ByteArray → Option Int} : ∀ (e : List Nod) (vs vs' : List Int), goV σ vs e = some vs' → vs'.length = vs.length + e.length
  | [], vs, vs', h => by injection h with h; subst h; simp
  | x :: e, vs, vs', h => by
    have h' : (match stepV σ vs x with | none => none | some v => goV σ (vs ++ [v]) e) = some vs' := h
    cases hs : stepV σ vs x with
    | none => rw [hs] at h'; cases h'
    | some v =>
      rw [hs] at h'
      have := goV_len e _ _ h'
      simp only [List.length_append, List.length_cons, List.length_nil] at this ⊢
      omega
theorem stepV_in {σ : ByteArray → Option Int} {vs : List Int} {x : Nod} {v : Int} (h : stepV σ vs x = some v) : beyondL v = false := by
  unfold stepV at h
  split at h
  · split at h
    · cases h
    · injection h with h; subst h
      rename_i hb
      exact Bool.eq_false_iff.2 hb
  · split at h
    · split at h
      · split at h
        · cases h
        · injection h with h; subst h
          rename_i hb
          exact Bool.eq_false_iff.2 hb
      · cases h
    · split at h
      · cases h
      · injection h with h; subst h
        rename_i hb
        exact Bool.eq_false_iff.2 hb
theorem goV_in {σ : ByteArray → Option Int} : ∀ (e : List Nod) (vs vs' : List Int), (∀ v ∈ vs, inB v) → goV σ vs e = some vs' → ∀ v ∈ vs', inB v
  | [], vs, vs', hv, h => by injection h with h; subst h; exact hv
  | x :: e, vs, vs', hv, h => by
    have h' : (match stepV σ vs x with | none => none | some v => goV σ (vs ++ [v]) e) = some vs' := h
    cases hs : stepV σ vs x with
    | none => rw [hs] at h'; cases h'
    | some v =>
      rw [hs] at h'
      refine goV_in e _ _ (fun u hu => ?_) h'
      rcases List.mem_append.1 hu with h1 | h1
      · exact hv u h1
      · simp only [List.mem_cons, List.not_mem_nil, or_false] at h1
        subst h1
        exact inB_beyond.1 (stepV_in hs)
theorem valAt_in {vs : List Int} (h : ∀ v ∈ vs, inB v) (i : Int) : inB (valAt vs i) := by
  unfold valAt
  by_cases hi : i.toNat < vs.length
  · rw [List.getD_eq_getElem?_getD, List.getElem?_eq_getElem hi]
    exact h _ (List.getElem_mem hi)
  · rw [List.getD_eq_getElem?_getD, List.getElem?_eq_none (by omega)]
    unfold inB
    simp
/-- The last of the first j ranges of the name gives the value. -/
def lastV (l : List Rng) (xs : List Int) (t : ByteArray) : Nat → Option Int
  | 0 => none
  | j + 1 => if (l.getD j ⟨ByteArray.empty, 0, 0⟩).name = t then some (xs.getD j 0) else lastV l xs t j
def sigL (l : List Rng) (xs : List Int) (t : ByteArray) : Option Int := lastV l xs t (min l.length xs.length)
def evalR (σ : ByteArray → Option Int) (e : List Nod) : Int × Bool := match goV σ [] e with | some vs => if e.length = 0 then (0, false) else (vs.getD (e.length - 1) 0, true) | none => (0, false)
def padI (n : Nat) (vs : List Int) : List Int := vs ++ List.replicate (n - vs.length) 0
theorem padI_len {n : Nat} {vs : List Int} (h : vs.length ≤ n) : (padI n vs).length = n := by
  unfold padI
  simp
  omega
theorem padI_set {n : Nat} {vs : List Int} (h : vs.length < n) (v : Int) : (padI n vs).set vs.length v = padI n (vs ++ [v]) := by
  unfold padI
  rw [List.set_append_right _ _ (Nat.le_refl _), Nat.sub_self, List.length_append]
  rw [show n - vs.length = (n - (vs.length + 1)) + 1 from by omega, List.replicate_succ, List.set_cons_zero]
  simp
theorem padI_get {n : Nat} {vs : List Int} {i : Nat} (h : i < vs.length) : (padI n vs).getD i 0 = vs.getD i 0 := by
  unfold padI
  rw [List.getD_eq_getElem?_getD, List.getD_eq_getElem?_getD, List.getElem?_append_left h]
/-- The operands' values in the law's array, when t of them are in. -/
def kidV (vs : List Int) (x : Nod) (t i : Nat) : Int := if i < t then valAt vs (kidAt x i) else 0
def kidL (vs : List Int) (x : Nod) (t : Nat) : List Int := [kidV vs x t 0, kidV vs x t 1, kidV vs x t 2]
theorem kidL_set (vs : List Int) (x : Nod) (t : Nat) (h : t < 3) : (kidL vs x t).set t (valAt vs (kidAt x t)) = kidL vs x (t + 1) := by
  unfold kidL kidV
  have : t = 0 ∨ t = 1 ∨ t = 2 := by omega
  rcases this with rfl | rfl | rfl <;> rfl
theorem kidV_in {vs : List Int} (h : ∀ v ∈ vs, inB v) (x : Nod) (t i : Nat) : inB (kidV vs x t i) := by
  unfold kidV
  split
  · exact valAt_in h _
  · unfold inB; simp
theorem opV_kid {vs : List Int} {x : Nod} (h : formedL x = true) (h3 : 3 ≤ x.op) : opV x.op (kidV vs x x.kids.length 0) (kidV vs x x.kids.length 1) (kidV vs x x.kids.length 2) = opV x.op (valAt vs (kidAt x 0)) (valAt vs (kidAt x 1)) (valAt vs (kidAt x 2)) := by
  have hf : (x.kids.length : Int) = operands x.op := by
    unfold formedL at h
    cases hd : decide (operands x.op = x.kids.length)
    · rw [hd] at h; simp at h
    · exact (of_decide_eq_true hd).symm
  have hok := (formed_ok h).2.1
  unfold operands at hf
  rw [if_neg (by omega)] at hf
  unfold opV kidV
  by_cases e9 : x.op = 9
  · rw [if_neg (by omega), if_pos e9] at hf
    rw [if_pos (show 0 < x.kids.length by omega), if_pos (show 1 < x.kids.length by omega), if_pos (show 2 < x.kids.length by omega)]
  · by_cases e12 : x.op = 12
    · rw [if_pos e12] at hf
      rw [if_pos (show 0 < x.kids.length by omega), e12]
      rfl
    · rw [if_neg e12, if_neg e9, if_pos (by omega)] at hf
      rw [if_pos (show 0 < x.kids.length by omega), if_pos (show 1 < x.kids.length by omega)]
      have : x.op = 3 ∨ x.op = 4 ∨ x.op = 5 ∨ x.op = 6 ∨ x.op = 7 ∨ x.op = 8 ∨ x.op = 10 ∨ x.op = 11 := by omega
      rcases this with e | e | e | e | e | e | e | e <;> rw [e] <;> rfl
theorem stepV_one {σ : ByteArray → Option Int} {vs : List Int} {x : Nod} (h : x.op = 1) : stepV σ vs x = if beyondL x.n = true then none else some x.n := by
  unfold stepV
  rw [if_pos h]
theorem stepV_two {σ : ByteArray → Option Int} {vs : List Int} {x : Nod} (h : x.op = 2) : stepV σ vs x = match σ x.name with | some v => if beyondL v = true then none else some v | none => none := by
  unfold stepV
  rw [if_neg (by omega), if_pos h]
  cases σ x.name <;> rfl
theorem stepV_op {σ : ByteArray → Option Int} {vs : List Int} {x : Nod} (hf : formedL x = true) (h : 3 ≤ x.op) : stepV σ vs x = if beyondL (opV x.op (kidV vs x x.kids.length 0) (kidV vs x x.kids.length 1) (kidV vs x x.kids.length 2)) = true then none else some (opV x.op (kidV vs x x.kids.length 0) (kidV vs x x.kids.length 1) (kidV vs x x.kids.length 2)) := by
  rw [opV_kid hf h]
  unfold stepV
  rw [if_neg (by omega), if_neg (by omega)]
theorem lastV_next (l : List Rng) (xs : List Int) (t : ByteArray) (j : Nat) : lastV l xs t (j + 1) = if (l.getD j ⟨ByteArray.empty, 0, 0⟩).name = t then some (xs.getD j 0) else lastV l xs t j := rfl
end Go.Proofs.YtkomgidcgepknaaGreatDoor
