/-
  Chapter 23: the evaluation of an expression in plain words, and the plain laws. No program.
-/
import Derived.Test.YtkomgidcgepknaaGreatDoorEvP
set_option linter.unusedVariables false
set_option linter.unusedSimpArgs false
namespace Go.Proofs.YtkomgidcgepknaaGreatDoor

/-- A variable. -/
structure Vr where
  name : ByteArray
  val : Int
def okV (v : Vr) : Bool := nameB v.name && !beyondL v.val
def hasV (l : List Vr) (t : ByteArray) : Bool := l.any fun v => decide (v.name = t)
/-- A valid list of variables, judged from the front. -/
def validVs (l : List Vr) : Bool := l.all okV && (List.range l.length).all fun i => !hasV (l.take i) ((l[i]?.map Vr.name).getD ByteArray.empty)
def sigV (l : List Vr) (t : ByteArray) : Option Int := (l.find? fun v => decide (v.name = t)).map Vr.val
/-- The value of one node, or an error. -/
def stepM (σ : ByteArray → Option Int) (vs : List Int) (x : Nod) : Except Int Int :=
  if x.op = 1 then (if beyondL x.n = true then Except.error 9 else Except.ok x.n)
  else if x.op = 2 then (match σ x.name with | some v => if beyondL v = true then Except.error 9 else Except.ok v | none => Except.error 7)
  else if beyondL (opV x.op (valAt vs (kidAt x 0)) (valAt vs (kidAt x 1)) (valAt vs (kidAt x 2))) = true then Except.error 9
  else Except.ok (opV x.op (valAt vs (kidAt x 0)) (valAt vs (kidAt x 1)) (valAt vs (kidAt x 2)))
def goM (σ : ByteArray → Option Int) : List Int → List Nod → Except Int (List Int)
  | vs, [] => Except.ok vs
  | vs, x :: e => match stepM σ vs x with
    | Except.error r => Except.error r
    | Except.ok v => goM σ (vs ++ [v]) e
def evalM (e : List Nod) (l : List Vr) : Int × Int :=
  if validVs l = false ∨ validL e = false then (0, 1)
  else match goM (sigV l) [] e with
    | Except.error r => (0, r)
    | Except.ok vs => (vs.getD (e.length - 1) 0, 0)

/-! ### Steps -/
theorem goM_append (σ : ByteArray → Option Int) : ∀ (e f : List Nod) (vs : List Int), goM σ vs (e ++ f) = match goM σ vs e with | Except.ok a => goM σ a f | Except.error r => Except.error r
  | [], f, vs => rfl
  | x :: e, f, vs => by
    show (match stepM σ vs x with | Except.error r => Except.error r | Except.ok v => goM σ (vs ++ [v]) (e ++ f)) = _
    show _ = (match (match stepM σ vs x with | Except.error r => (Except.error r : Except Int (List Int)) | Except.ok v => goM σ (vs ++ [v]) e) with | Except.ok a => goM σ a f | Except.error r => Except.error r)
    cases stepM σ vs x with
    | error r => rfl
    | ok v => exact goM_append σ e f (vs ++ [v])
theorem goM_one (σ : ByteArray → Option Int) (vs : List Int) (x : Nod) : goM σ vs [x] = match stepM σ vs x with | Except.error r => Except.error r | Except.ok v => Except.ok (vs ++ [v]) := rfl
theorem goM_next {σ : ByteArray → Option Int} {e : List Nod} {k : Nat} {vs : List Int} (hk : k < e.length) (h : goM σ [] (e.take k) = Except.ok vs) {v : Int} (hs : stepM σ vs (nodAt e k) = Except.ok v) : goM σ [] (e.take (k + 1)) = Except.ok (vs ++ [v]) := by
  rw [nod_take hk, goM_append, h]
  show (match stepM σ vs (nodAt e k) with | Except.error r => Except.error r | Except.ok v => goM σ (vs ++ [v]) []) = _
  rw [hs]
  rfl
theorem goM_stop {σ : ByteArray → Option Int} {e : List Nod} {k : Nat} {vs : List Int} (hk : k < e.length) (h : goM σ [] (e.take k) = Except.ok vs) {r : Int} (hs : stepM σ vs (nodAt e k) = Except.error r) : goM σ [] e = Except.error r := by
  have he : e = e.take k ++ nodAt e k :: e.drop (k + 1) := by
    have := List.take_append_drop (k + 1) e
    rw [nod_take hk, List.append_assoc] at this
    exact this.symm
  rw [he, goM_append, h]
  show (match stepM σ vs (nodAt e k) with | Except.error r => Except.error r | Except.ok v => goM σ (vs ++ [v]) (e.drop (k + 1))) = _
  rw [hs]
theorem goM_len {σ : ByteArray → Option Int} : ∀ (e : List Nod) (vs vs' : List Int), goM σ vs e = Except.ok vs' → vs'.length = vs.length + e.length
  | [], vs, vs', h => by injection h with h; subst h; simp
  | x :: e, vs, vs', h => by
    have h' : (match stepM σ vs x with | Except.error r => Except.error r | Except.ok v => goM σ (vs ++ [v]) e) = Except.ok vs' := h
    cases hs : stepM σ vs x with
    | error r => rw [hs] at h'; cases h'
    | ok v =>
      rw [hs] at h'
      have := goM_len e _ _ h'
      simp only [List.length_append, List.length_cons, List.length_nil] at this ⊢
      omega
theorem stepM_in {σ : ByteArray → Option Int} {vs : List Int} {x : Nod} {v : Int} (h : stepM σ vs x = Except.ok v) : beyondL v = false := by
  unfold stepM at h
  split at h
  · split at h
    · cases h
    · injection h with h; subst h
      rename_i hb
      exact Bool.eq_false_iff.2 hb
  · split at h
    · split at h
      · split at h
        · cases h
        · injection h with h; subst h
          rename_i hb
          exact Bool.eq_false_iff.2 hb
      · cases h
    · split at h
      · cases h
      · injection h with h; subst h
        rename_i hb
        exact Bool.eq_false_iff.2 hb
theorem goM_in {σ : ByteArray → Option Int} : ∀ (e : List Nod) (vs vs' : List Int), (∀ v ∈ vs, inB v) → goM σ vs e = Except.ok vs' → ∀ v ∈ vs', inB v
  | [], vs, vs', hv, h => by injection h with h; subst h; exact hv
  | x :: e, vs, vs', hv, h => by
    have h' : (match stepM σ vs x with | Except.error r => Except.error r | Except.ok v => goM σ (vs ++ [v]) e) = Except.ok vs' := h
    cases hs : stepM σ vs x with
    | error r => rw [hs] at h'; cases h'
    | ok v =>
      rw [hs] at h'
      refine goM_in e _ _ (fun u hu => ?_) h'
      rcases List.mem_append.1 hu with h1 | h1
      · exact hv u h1
      · simp only [List.mem_cons, List.not_mem_nil, or_false] at h1
        subst h1
        exact inB_beyond.1 (stepM_in hs)
theorem goM_prefix {σ : ByteArray → Option Int} : ∀ (f : List Nod) (a all : List Int), goM σ a f = Except.ok all → all.take a.length = a
  | [], a, all, h => by
    injection h with h
    subst h
    exact List.take_of_length_le (Nat.le_refl _)
  | x :: f, a, all, h => by
    have h' : (match stepM σ a x with | Except.error r => Except.error r | Except.ok s => goM σ (a ++ [s]) f) = Except.ok all := h
    cases hs : stepM σ a x with
    | error r => rw [hs] at h'; cases h'
    | ok s =>
      rw [hs] at h'
      have := goM_prefix f _ _ h'
      have h2 : (all.take (a ++ [s]).length).take a.length = (a ++ [s]).take a.length := by rw [this]
      rw [List.take_take, List.take_append_of_le_length (Nat.le_refl _), List.take_of_length_le (Nat.le_refl a.length)] at h2
      rwa [List.length_append, Nat.min_eq_left (by omega)] at h2
/-- An error is a name without a value, or a value beyond the bounds. -/
theorem stepM_err {σ : ByteArray → Option Int} {vs : List Int} {x : Nod} {r : Int} (h : stepM σ vs x = Except.error r) : r = 7 ∨ r = 9 := by
  unfold stepM at h
  split at h
  · split at h
    · injection h with h; exact .inr h.symm
    · cases h
  · split at h
    · split at h
      · split at h
        · injection h with h; exact .inr h.symm
        · cases h
      · injection h with h; exact .inl h.symm
    · split at h
      · injection h with h; exact .inr h.symm
      · cases h
theorem goM_err {σ : ByteArray → Option Int} : ∀ (e : List Nod) (vs : List Int) {r : Int}, goM σ vs e = Except.error r → r = 7 ∨ r = 9
  | [], vs, r, h => by cases h
  | x :: e, vs, r, h => by
    have h' : (match stepM σ vs x with | Except.error r => Except.error r | Except.ok v => goM σ (vs ++ [v]) e) = Except.error r := h
    cases hs : stepM σ vs x with
    | error r' =>
      rw [hs] at h'
      injection h' with h'
      subst h'
      exact stepM_err hs
    | ok v =>
      rw [hs] at h'
      exact goM_err e _ h'
/-- It fails just where the evaluation of chapter 22 does. -/
theorem stepM_V {σ : ByteArray → Option Int} {vs : List Int} {x : Nod} : stepV σ vs x = match stepM σ vs x with | Except.ok v => some v | Except.error _ => none := by
  unfold stepV stepM
  split
  · split <;> rfl
  · split
    · cases σ x.name with
      | none => rfl
      | some v => dsimp only; split <;> rfl
    · split <;> rfl
theorem goM_V {σ : ByteArray → Option Int} : ∀ (e : List Nod) (vs : List Int), goV σ vs e = match goM σ vs e with | Except.ok v => some v | Except.error _ => none
  | [], vs => rfl
  | x :: e, vs => by
    show (match stepV σ vs x with | none => none | some v => goV σ (vs ++ [v]) e) = (match (match stepM σ vs x with | Except.error r => (Except.error r : Except Int (List Int)) | Except.ok v => goM σ (vs ++ [v]) e) with | Except.ok v => some v | Except.error _ => none)
    rw [stepM_V]
    cases stepM σ vs x with
    | error r => rfl
    | ok v => exact goM_V e (vs ++ [v])
/-- The result. -/
theorem evalM_ok {e : List Nod} {l : List Vr} {n : Int} (h : evalM e l = (n, 0)) : validVs l = true ∧ validL e = true ∧ ∃ vs, goM (sigV l) [] e = Except.ok vs ∧ vs.length = e.length ∧ vs.getD (e.length - 1) 0 = n := by
  unfold evalM at h
  by_cases hv : validVs l = false ∨ validL e = false
  · rw [if_pos hv] at h
    injection h with _ h
    exact absurd h (by decide)
  · rw [if_neg hv] at h
    refine ⟨by cases h : validVs l <;> simp_all, by cases h : validL e <;> simp_all, ?_⟩
    cases hg : goM (sigV l) [] e with
    | error r =>
      rw [hg] at h
      injection h with _ h
      have h : r = 0 := h
      rcases goM_err e [] hg with h1 | h1 <;> omega
    | ok vs =>
      rw [hg] at h
      injection h with h _
      have := goM_len _ _ _ hg
      exact ⟨vs, rfl, by simpa using this, h⟩
theorem evalM_of {e : List Nod} {l : List Vr} (h1 : validVs l = true) (h2 : validL e = true) : evalM e l = match goM (sigV l) [] e with | Except.error r => (0, r) | Except.ok vs => (vs.getD (e.length - 1) 0, 0) := by
  unfold evalM
  rw [if_neg (by rw [h1, h2]; simp)]
theorem evalM_bd {e : List Nod} {l : List Vr} {n : Int} (h : evalM e l = (n, 0)) : inB n := by
  obtain ⟨_, he, vs, hg, hl, rfl⟩ := evalM_ok h
  have h1 := (valid_nodes he).1
  have hin := goM_in _ [] vs (fun v hv => absurd hv List.not_mem_nil) hg
  rw [List.getD_eq_getElem?_getD, List.getElem?_eq_getElem (by omega)]
  exact hin _ (List.getElem_mem _)

/-! ### Expressions put together -/
def shiftN (k : Nat) (x : Nod) : Nod := { x with kids := x.kids.map fun j => j + (k : Int) }
theorem shift_kid (k : Nat) (x : Nod) (i : Nat) (h : i < x.kids.length) : kidAt (shiftN k x) i = kidAt x i + k := by
  unfold kidAt shiftN
  simp only [List.getD_eq_getElem?_getD, List.getElem?_map, List.getElem?_eq_getElem h]
  rfl
theorem formed_shift (k : Nat) (x : Nod) : formedL (shiftN k x) = formedL x := by
  unfold formedL shiftN
  simp only [List.length_map]
theorem kidV_shift {us vs : List Int} {x : Nod} {i : Nat} (h : ∀ j ∈ x.kids, 0 ≤ j) : kidV (us ++ vs) (shiftN us.length x) (shiftN us.length x).kids.length i = kidV vs x x.kids.length i := by
  unfold kidV
  have hl : (shiftN us.length x).kids.length = x.kids.length := by simp [shiftN]
  rw [hl]
  by_cases hi : i < x.kids.length
  · rw [if_pos hi, if_pos hi, shift_kid _ _ _ hi]
    have h0 : 0 ≤ kidAt x i := h _ (getD_mem x.kids i 0 hi)
    unfold valAt
    rw [show (kidAt x i + us.length).toNat = us.length + (kidAt x i).toNat from by omega, List.getD_eq_getElem?_getD, List.getElem?_append_right (by omega), List.getD_eq_getElem?_getD, Nat.add_sub_cancel_left]
  · rw [if_neg hi, if_neg hi]
theorem stepM_op {σ : ByteArray → Option Int} {vs : List Int} {x : Nod} (hf : formedL x = true) (h : 3 ≤ x.op) : stepM σ vs x = if beyondL (opV x.op (kidV vs x x.kids.length 0) (kidV vs x x.kids.length 1) (kidV vs x x.kids.length 2)) = true then Except.error 9 else Except.ok (opV x.op (kidV vs x x.kids.length 0) (kidV vs x x.kids.length 1) (kidV vs x x.kids.length 2)) := by
  rw [opV_kid hf h]
  unfold stepM
  rw [if_neg (by omega), if_neg (by omega)]
theorem stepM_shift {σ : ByteArray → Option Int} {us vs : List Int} {x : Nod} (hf : formedL x = true) (h : ∀ j ∈ x.kids, 0 ≤ j) : stepM σ (us ++ vs) (shiftN us.length x) = stepM σ vs x := by
  by_cases h3 : 3 ≤ x.op
  · have h1 := stepM_op (σ := σ) (vs := us ++ vs) (x := shiftN us.length x) (by rw [formed_shift]; exact hf) h3
    rw [h1, stepM_op (σ := σ) (vs := vs) hf h3, kidV_shift h, kidV_shift h, kidV_shift h]
    rfl
  · have hop := (formed_ok hf).1
    have : x.op = 1 ∨ x.op = 2 := by omega
    unfold stepM
    show (if x.op = 1 then _ else if x.op = 2 then _ else _) = _
    rcases this with e | e <;> rw [e] <;> rfl
theorem goM_shift {σ : ByteArray → Option Int} {us : List Int} : ∀ (e : List Nod) (vs : List Int), (∀ x ∈ e, formedL x = true ∧ ∀ j ∈ x.kids, 0 ≤ j) →
    goM σ (us ++ vs) (e.map (shiftN us.length)) = match goM σ vs e with | Except.ok ws => Except.ok (us ++ ws) | Except.error r => Except.error r
  | [], vs, _ => rfl
  | x :: e, vs, h => by
    show (match stepM σ (us ++ vs) (shiftN us.length x) with | Except.error r => Except.error r | Except.ok v => goM σ ((us ++ vs) ++ [v]) (e.map (shiftN us.length))) = (match (match stepM σ vs x with | Except.error r => (Except.error r : Except Int (List Int)) | Except.ok v => goM σ (vs ++ [v]) e) with | Except.ok ws => Except.ok (us ++ ws) | Except.error r => Except.error r)
    rw [stepM_shift (h x List.mem_cons_self).1 (h x List.mem_cons_self).2]
    cases stepM σ vs x with
    | error r => rfl
    | ok v =>
      dsimp only
      rw [List.append_assoc]
      exact goM_shift e (vs ++ [v]) fun y hy => h y (List.mem_cons_of_mem _ hy)
theorem valid_each {e : List Nod} (h : validL e = true) : ∀ x ∈ e, formedL x = true ∧ ∀ j ∈ x.kids, 0 ≤ j := by
  intro x hx
  obtain ⟨i, hi, rfl⟩ := List.getElem_of_mem hx
  have := (valid_nodes h).2.2 i hi
  rw [nodAt_get' hi]
  exact ⟨this.1, fun j hj => (this.2 j hj).1⟩
/-- Two expressions under an operator. -/
def above2 (op : Int) (a b : List Nod) : List Nod := (a ++ b.map (shiftN a.length)) ++ [⟨op, 0, ByteArray.empty, [(a.length : Int) - 1, (a.length + b.length : Int) - 1]⟩]
/-- Three expressions under an operator. -/
def above3 (op : Int) (a b c : List Nod) : List Nod := ((a ++ b.map (shiftN a.length)) ++ c.map (shiftN (a.length + b.length))) ++ [⟨op, 0, ByteArray.empty, [(a.length : Int) - 1, (a.length + b.length : Int) - 1, (a.length + b.length + c.length : Int) - 1]⟩]
theorem goM_two {l : List Vr} {a b : List Nod} {x y : Int} (ha : evalM a l = (x, 0)) (hb : evalM b l = (y, 0)) :
    ∃ vs, goM (sigV l) [] (a ++ b.map (shiftN a.length)) = Except.ok vs ∧ vs.length = a.length + b.length ∧ valAt vs ((a.length : Int) - 1) = x ∧ valAt vs ((a.length + b.length : Int) - 1) = y := by
  obtain ⟨_, va, us, ga, la, rfl⟩ := evalM_ok ha
  obtain ⟨_, vb, ws, gb, lb, rfl⟩ := evalM_ok hb
  have h1 := (valid_nodes va).1
  have h2 := (valid_nodes vb).1
  refine ⟨us ++ ws, ?_, by rw [List.length_append, la, lb], ?_, ?_⟩
  · rw [goM_append, ga]
    show goM (sigV l) us (b.map (shiftN a.length)) = _
    have := goM_shift (σ := sigV l) (us := us) b [] (valid_each vb)
    rw [List.append_nil, gb, la] at this
    exact this
  · unfold valAt
    rw [show ((a.length : Int) - 1).toNat = a.length - 1 from by omega, List.getD_eq_getElem?_getD, List.getElem?_append_left (by omega), List.getD_eq_getElem?_getD]
  · unfold valAt
    rw [show ((a.length + b.length : Int) - 1).toNat = us.length + (b.length - 1) from by omega, List.getD_eq_getElem?_getD, List.getElem?_append_right (by omega), Nat.add_sub_cancel_left, List.getD_eq_getElem?_getD]
theorem above2_plain {l : List Vr} {a b : List Nod} {x y op : Int} (ha : evalM a l = (x, 0)) (hb : evalM b l = (y, 0)) (hop : 3 ≤ op ∧ op ≤ 11 ∧ op ≠ 9) (hv : validL (above2 op a b) = true) :
    evalM (above2 op a b) l = if beyondL (opV op x y 0) = true then (0, 9) else (opV op x y 0, 0) := by
  obtain ⟨vs, hg, hl, hx, hy⟩ := goM_two ha hb
  rw [evalM_of (evalM_ok ha).1 hv]
  unfold above2
  rw [goM_append, hg]
  have hc : ∀ c c', opV op x y c = opV op x y c' := by
    intro c c'
    unfold opV
    rw [if_neg hop.2.2, if_neg hop.2.2]
  dsimp only
  rw [goM_one]
  have hst : stepM (sigV l) vs ⟨op, 0, ByteArray.empty, [(a.length : Int) - 1, (a.length + b.length : Int) - 1]⟩ = if beyondL (opV op x y 0) = true then Except.error 9 else Except.ok (opV op x y 0) := by
    unfold stepM
    show (if op = 1 then _ else if op = 2 then _ else if beyondL (opV op (valAt vs ((a.length : Int) - 1)) (valAt vs ((a.length + b.length : Int) - 1)) (valAt vs 0)) = true then _ else Except.ok (opV op (valAt vs ((a.length : Int) - 1)) (valAt vs ((a.length + b.length : Int) - 1)) (valAt vs 0))) = _
    rw [if_neg (by omega), if_neg (by omega), hx, hy, hc _ 0]
  rw [hst]
  by_cases hbd : beyondL (opV op x y 0) = true
  · rw [if_pos hbd, if_pos hbd]
  · rw [if_neg hbd, if_neg hbd]
    show (_, (0 : Int)) = _
    congr 1
    rw [show ((a ++ b.map (shiftN a.length)) ++ [(⟨op, 0, ByteArray.empty, [(a.length : Int) - 1, (a.length + b.length : Int) - 1]⟩ : Nod)]).length - 1 = vs.length from by simp [hl]]
    rw [List.getD_eq_getElem?_getD, List.getElem?_append_right (Nat.le_refl _), Nat.sub_self]
    rfl
theorem above3_plain {l : List Vr} {a b c : List Nod} {x y z : Int} (ha : evalM a l = (x, 0)) (hb : evalM b l = (y, 0)) (hc : evalM c l = (z, 0)) (hv : validL (above3 9 a b c) = true) :
    evalM (above3 9 a b c) l = (if 0 < x then y else z, 0) := by
  obtain ⟨vs, hg, hl, hx, hy⟩ := goM_two ha hb
  have by' := evalM_bd hb
  have bz' := evalM_bd hc
  obtain ⟨_, vc, ws, gc, lc, hz⟩ := evalM_ok hc
  have h2 := (valid_nodes vc).1
  rw [evalM_of (evalM_ok ha).1 hv]
  unfold above3
  rw [goM_append, goM_append, hg]
  dsimp only
  have hs := goM_shift (σ := sigV l) (us := vs) c [] (valid_each vc)
  rw [List.append_nil, gc, hl] at hs
  rw [hs]
  dsimp only
  rw [goM_one]
  have va := (valid_nodes (evalM_ok ha).2.1).1
  have vb := (valid_nodes (evalM_ok hb).2.1).1
  have hx' : valAt (vs ++ ws) ((a.length : Int) - 1) = x := by
    rw [← hx]
    unfold valAt
    rw [List.getD_eq_getElem?_getD, List.getElem?_append_left (by omega), List.getD_eq_getElem?_getD]
  have hy' : valAt (vs ++ ws) ((a.length + b.length : Int) - 1) = y := by
    rw [← hy]
    unfold valAt
    rw [List.getD_eq_getElem?_getD, List.getElem?_append_left (by omega), List.getD_eq_getElem?_getD]
  have hz' : valAt (vs ++ ws) ((a.length + b.length + c.length : Int) - 1) = z := by
    rw [← hz]
    unfold valAt
    rw [show ((a.length + b.length + c.length : Int) - 1).toNat = vs.length + (c.length - 1) from by omega, List.getD_eq_getElem?_getD, List.getElem?_append_right (by omega), Nat.add_sub_cancel_left, List.getD_eq_getElem?_getD]
  have hst : stepM (sigV l) (vs ++ ws) ⟨9, 0, ByteArray.empty, [(a.length : Int) - 1, (a.length + b.length : Int) - 1, (a.length + b.length + c.length : Int) - 1]⟩ = Except.ok (if 0 < x then y else z) := by
    unfold stepM
    show (if beyondL (opV 9 (valAt (vs ++ ws) ((a.length : Int) - 1)) (valAt (vs ++ ws) ((a.length + b.length : Int) - 1)) (valAt (vs ++ ws) ((a.length + b.length + c.length : Int) - 1))) = true then Except.error 9 else Except.ok (opV 9 (valAt (vs ++ ws) ((a.length : Int) - 1)) (valAt (vs ++ ws) ((a.length + b.length : Int) - 1)) (valAt (vs ++ ws) ((a.length + b.length + c.length : Int) - 1)))) = _
    rw [hx', hy', hz']
    have ho : opV 9 x y z = if 0 < x then y else z := rfl
    rw [ho, if_neg (by
      rw [Bool.not_eq_true]
      split
      · exact inB_beyond.2 by'
      · exact inB_beyond.2 bz')]
  rw [hst]
  show (_, (0 : Int)) = _
  congr 1
  rw [show (((a ++ b.map (shiftN a.length)) ++ c.map (shiftN (a.length + b.length))) ++ [(⟨9, 0, ByteArray.empty, [(a.length : Int) - 1, (a.length + b.length : Int) - 1, (a.length + b.length + c.length : Int) - 1]⟩ : Nod)]).length - 1 = (vs ++ ws).length from by simp [hl, lc]; omega]
  rw [List.getD_eq_getElem?_getD, List.getElem?_append_right (Nat.le_refl _), Nat.sub_self]
  rfl
end Go.Proofs.YtkomgidcgepknaaGreatDoor
