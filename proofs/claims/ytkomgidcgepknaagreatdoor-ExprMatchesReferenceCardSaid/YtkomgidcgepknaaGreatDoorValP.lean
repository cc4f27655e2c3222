/-
  Valid expressions in plain words: from the right, as the program reads them, and by a stack, as the reference does.
-/
import Derived.Test.YtkomgidcgepknaaGreatDoorParP
set_option linter.unusedVariables false
set_option linter.unusedSimpArgs false
namespace Go.Proofs.YtkomgidcgepknaaGreatDoor

def nodAt (e : List Nod) (i : Nat) : Nod := e.getD i Nod.none_
def formedL (x : Nod) : Bool :=
  decide (operands x.op = x.kids.length) && (if x.op = 1 then decide (x.name = ByteArray.empty) && decide (0 ≤ x.n) && decide (x.n ≤ 1000000)
    else if x.op = 2 then decide (x.n = 0) && nameB x.name && decide (funcOp x.name = 0) else decide (x.n = 0) && decide (x.name = ByteArray.empty))

/-- The walk from the right: what is still to be read, each index with its depth, the next one first; the next index is n - 1. -/
def walkN (e : List Nod) : Nat → List (Int × Int) → Bool × Nat
  | n, [] => (true, n)
  | 0, _ :: _ => (false, 0)
  | n + 1, (i, d) :: rest => if i ≠ n ∨ 40 < d ∨ formedL (nodAt e n) = false then (false, n + 1) else walkN e n ((nodAt e n).kids.reverse.map (fun k => (k, d + 1)) ++ rest)
theorem walkN_nil (e : List Nod) (n : Nat) : walkN e n [] = (true, n) := by cases n <;> rfl
theorem walkN_zero (e : List Nod) (x : Int × Int) (l : List (Int × Int)) : walkN e 0 (x :: l) = (false, 0) := rfl
theorem walkN_succ (e : List Nod) (n : Nat) (i d : Int) (rest : List (Int × Int)) : walkN e (n + 1) ((i, d) :: rest) =
    if i ≠ n ∨ 40 < d ∨ formedL (nodAt e n) = false then (false, n + 1) else walkN e n ((nodAt e n).kids.reverse.map (fun k => (k, d + 1)) ++ rest) := rfl
theorem walkN_append (e : List Nod) : ∀ (n : Nat) (xs ys : List (Int × Int)), walkN e n (xs ++ ys) = if (walkN e n xs).1 = true then walkN e (walkN e n xs).2 ys else walkN e n xs
  | n, [], ys => by rw [walkN_nil]; rfl
  | 0, x :: xs, ys => by
    rw [List.cons_append, walkN_zero, walkN_zero]
    rfl
  | n + 1, (i, d) :: xs, ys => by
    rw [List.cons_append, walkN_succ, walkN_succ]
    split
    · rfl
    · rw [← List.append_assoc, walkN_append e n]
theorem walkN_le (e : List Nod) : ∀ (n : Nat) (xs : List (Int × Int)), (walkN e n xs).2 ≤ n
  | n, [] => by rw [walkN_nil]; exact Nat.le_refl _
  | 0, x :: xs => by rw [walkN_zero]; exact Nat.le_refl _
  | n + 1, (i, d) :: xs => by
    rw [walkN_succ]
    split
    · exact Nat.le_refl _
    · have := walkN_le e n ((nodAt e n).kids.reverse.map (fun k => (k, d + 1)) ++ xs)
      omega
def validL (e : List Nod) : Bool := decide (1 ≤ e.length) && decide (e.length ≤ 300) && (walkN e e.length [((e.length : Int) - 1, 1)]).1 && decide ((walkN e e.length [((e.length : Int) - 1, 1)]).2 = 0)

/-- The greatest depth. -/
def deepest : List (Nat × Nat) → Nat
  | [] => 0
  | x :: os => max x.2 (deepest os)
theorem deepest_mem {x : Nat × Nat} : ∀ {os : List (Nat × Nat)}, x ∈ os → x.2 ≤ deepest os
  | [], h => by cases h
  | y :: os, h => by
    unfold deepest
    rcases List.mem_cons.1 h with rfl | h
    · omega
    · have := deepest_mem h; omega
theorem deepest_bd (b : Nat) : ∀ (os : List (Nat × Nat)), (∀ x ∈ os, x.2 ≤ b) → deepest os ≤ b
  | [], _ => Nat.zero_le _
  | y :: os, h => by
    unfold deepest
    have := h y (by simp)
    have := deepest_bd b os (fun x hx => h x (by simp [hx]))
    omega
/-- The reference's stack behind n nodes, its top first: roots and their depths. -/
def scanN (e : List Nod) : Nat → Option (List (Nat × Nat))
  | 0 => some []
  | n + 1 => match scanN e n with
    | none => none
    | some os => if formedL (nodAt e n) = true ∧ (nodAt e n).kids.length ≤ os.length ∧ (nodAt e n).kids.reverse = (os.take (nodAt e n).kids.length).map (fun x => (x.1 : Int))
        then some ((n, deepest (os.take (nodAt e n).kids.length) + 1) :: os.drop (nodAt e n).kids.length) else none
def validR (e : List Nod) : Bool := decide (1 ≤ e.length) && decide (e.length ≤ 300) && (match scanN e e.length with | some [x] => decide (x.2 ≤ 40) | _ => false)

/-- What the walk is to read lies as roots on the stack. -/
def fit : List (Int × Int) → List (Nat × Nat) → Prop
  | [], [] => True
  | x :: xs, o :: os => x.1 = o.1 ∧ (o.2 : Int) + x.2 ≤ 41 ∧ fit xs os
  | [], _ :: _ => False
  | _ :: _, [] => False
theorem fit_append : ∀ (xs ys : List (Int × Int)) (ts : List (Nat × Nat)), fit (xs ++ ys) ts → ∃ t1 t2, ts = t1 ++ t2 ∧ fit xs t1 ∧ fit ys t2
  | [], ys, ts, h => ⟨[], ts, rfl, trivial, h⟩
  | x :: xs, ys, [], h => h.elim
  | x :: xs, ys, o :: ts, h => by
    obtain ⟨t1, t2, h1, h2, h3⟩ := fit_append xs ys ts h.2.2
    exact ⟨o :: t1, t2, by rw [h1]; rfl, ⟨h.1, h.2.1, h2⟩, h3⟩
theorem fit_join : ∀ (xs ys : List (Int × Int)) (t1 t2 : List (Nat × Nat)), fit xs t1 → fit ys t2 → fit (xs ++ ys) (t1 ++ t2)
  | [], ys, [], t2, _, h => h
  | [], ys, _ :: _, t2, h, _ => h.elim
  | x :: xs, ys, [], t2, h, _ => h.elim
  | x :: xs, ys, o :: t1, t2, h, h' => ⟨h.1, h.2.1, fit_join xs ys t1 t2 h.2.2 h'⟩
theorem fit_kids (d : Int) : ∀ (ks : List Int) (ts : List (Nat × Nat)), fit (ks.map (fun k => (k, d))) ts ↔ (ks = ts.map (fun x => (x.1 : Int)) ∧ ∀ x ∈ ts, (x.2 : Int) + d ≤ 41)
  | [], [] => by simp [fit]
  | [], o :: ts => by simp [fit]
  | k :: ks, [] => by simp [fit]
  | k :: ks, o :: ts => by
    have ih := fit_kids d ks ts
    simp only [List.map_cons, fit, ih, List.cons.injEq, List.mem_cons, forall_eq_or_imp]
    constructor
    · rintro ⟨h1, h2, h3, h4⟩; exact ⟨⟨h1, h3⟩, h2, h4⟩
    · rintro ⟨⟨h1, h3⟩, h2, h4⟩; exact ⟨h1, h2, h3, h4⟩
theorem walk_scan (e : List Nod) : ∀ (n : Nat) (xs : List (Int × Int)) (n' : Nat) (os : List (Nat × Nat)), walkN e n xs = (true, n') → scanN e n' = some os → ∃ ts, scanN e n = some (ts ++ os) ∧ fit xs ts
  | n, [], n', os, h, hs => by
    rw [walkN_nil] at h
    injection h with _ h
    subst h
    exact ⟨[], hs, trivial⟩
  | 0, x :: xs, n', os, h, _ => by rw [walkN_zero] at h; cases h
  | n + 1, (i, d) :: rest, n', os, h, hs => by
    rw [walkN_succ] at h
    split at h
    · cases h
    · rename_i hc
      have hi : i = n := by omega
      have hd : d ≤ 40 := by omega
      have hf : formedL (nodAt e n) = true := by
        cases hh : formedL (nodAt e n)
        · exact absurd (.inr (.inr hh)) hc
        · rfl
      obtain ⟨ts, h1, h2⟩ := walk_scan e n _ n' os h hs
      obtain ⟨t1, t2, rfl, f1, f2⟩ := fit_append _ _ _ h2
      obtain ⟨k1, k2⟩ := (fit_kids _ _ _).1 f1
      have hl : (nodAt e n).kids.length = t1.length := by
        have := congrArg List.length k1
        simpa using this
      refine ⟨(n, deepest t1 + 1) :: t2, ?_, hi, ?_, f2⟩
      · show (match scanN e n with | none => none | some os => _) = _
        rw [h1]
        have e1 : (t1 ++ t2 ++ os).take (nodAt e n).kids.length = t1 := by rw [hl, List.append_assoc, List.take_left]
        have e2 : (t1 ++ t2 ++ os).drop (nodAt e n).kids.length = t2 ++ os := by rw [hl, List.append_assoc, List.drop_left]
        show (if _ then _ else _) = _
        rw [e1, e2, if_pos ⟨hf, by rw [hl]; simp, k1⟩]
        rfl
      · have := deepest_bd (40 - d).toNat t1 (fun x hx => by have := k2 x hx; omega)
        show ((deepest t1 + 1 : Nat) : Int) + d ≤ 41
        omega
theorem scan_walk (e : List Nod) : ∀ (n : Nat) (xs : List (Int × Int)) (ts os : List (Nat × Nat)), scanN e n = some (ts ++ os) → fit xs ts → ∃ n', walkN e n xs = (true, n') ∧ scanN e n' = some os
  | n, [], [], os, h, _ => ⟨n, walkN_nil _ _, h⟩
  | n, [], _ :: _, os, _, hf => hf.elim
  | n, x :: xs, [], os, _, hf => hf.elim
  | 0, x :: xs, o :: ts, os, h, _ => by cases h
  | n + 1, (i, d) :: xs, o :: ts, os, h, hf => by
    have h' : (match scanN e n with
      | none => none
      | some os => if formedL (nodAt e n) = true ∧ (nodAt e n).kids.length ≤ os.length ∧ (nodAt e n).kids.reverse = (os.take (nodAt e n).kids.length).map (fun x => (x.1 : Int))
        then some ((n, deepest (os.take (nodAt e n).kids.length) + 1) :: os.drop (nodAt e n).kids.length) else none) = some (o :: ts ++ os) := h
    cases hs : scanN e n with
    | none => rw [hs] at h'; cases h'
    | some os0 =>
      rw [hs] at h'
      simp only at h'
      split at h'
      · rename_i hc
        injection h' with h'
        rw [List.cons_append] at h'
        injection h' with h1 h2
        subst h1
        obtain ⟨f1, f2, f3⟩ := hf
        have f2' : ((deepest (os0.take (nodAt e n).kids.length) + 1 : Nat) : Int) + d ≤ 41 := f2
        have hsp : os0 = os0.take (nodAt e n).kids.length ++ (ts ++ os) := by rw [← h2, List.take_append_drop]
        have hs2 : scanN e n = some ((os0.take (nodAt e n).kids.length ++ ts) ++ os) := by rw [hs, List.append_assoc, ← hsp]
        have hk : fit ((nodAt e n).kids.reverse.map (fun k => (k, d + 1))) (os0.take (nodAt e n).kids.length) := (fit_kids _ _ _).2 ⟨hc.2.2, fun x hx => by have := deepest_mem hx; omega⟩
        obtain ⟨n', w1, w2⟩ := scan_walk e n _ _ os hs2 (fit_join _ _ _ _ hk f3)
        refine ⟨n', ?_, w2⟩
        rw [walkN_succ, if_neg]
        · exact w1
        · intro hh
          rcases hh with hh | hh | hh
          · exact hh f1
          · omega
          · rw [hc.1] at hh; cases hh
      · cases h'
theorem scan_pos (e : List Nod) : ∀ n, scanN e (n + 1) ≠ some [] := by
  intro n h
  have h' : (match scanN e n with
      | none => none
      | some os => if formedL (nodAt e n) = true ∧ (nodAt e n).kids.length ≤ os.length ∧ (nodAt e n).kids.reverse = (os.take (nodAt e n).kids.length).map (fun x => (x.1 : Int))
        then some ((n, deepest (os.take (nodAt e n).kids.length) + 1) :: os.drop (nodAt e n).kids.length) else none) = some [] := h
  split at h'
  · cases h'
  · split at h' <;> cases h'
theorem scan_top (e : List Nod) (n : Nat) (x : Nat × Nat) (os : List (Nat × Nat)) (h : scanN e (n + 1) = some (x :: os)) : x.1 = n ∧ 1 ≤ x.2 := by
  have h' : (match scanN e n with
      | none => none
      | some os => if formedL (nodAt e n) = true ∧ (nodAt e n).kids.length ≤ os.length ∧ (nodAt e n).kids.reverse = (os.take (nodAt e n).kids.length).map (fun x => (x.1 : Int))
        then some ((n, deepest (os.take (nodAt e n).kids.length) + 1) :: os.drop (nodAt e n).kids.length) else none) = some (x :: os) := h
  split at h'
  · cases h'
  · split at h'
    · injection h' with h'
      injection h' with h1 _
      rw [← h1]
      exact ⟨rfl, by show 1 ≤ deepest _ + 1; omega⟩
    · cases h'
theorem valid_eq (e : List Nod) : validL e = validR e := by
  unfold validL validR
  cases h1 : decide (1 ≤ e.length)
  · rfl
  · have h1' : 1 ≤ e.length := by simpa using h1
    obtain ⟨n, hn⟩ : ∃ n, e.length = n + 1 := ⟨e.length - 1, by omega⟩
    cases h2 : decide (e.length ≤ 300)
    · rfl
    · simp only [Bool.true_and]
      rw [hn]
      have hz : ((n + 1 : Nat) : Int) - 1 = n := by omega
      rw [hz, Bool.eq_iff_iff]
      constructor
      · intro h
        rw [Bool.and_eq_true, decide_eq_true_eq] at h
        have hw : walkN e (n + 1) [((n : Int), 1)] = (true, 0) := Prod.ext h.1 h.2
        obtain ⟨ts, t1, t2⟩ := walk_scan e (n + 1) _ 0 [] hw rfl
        rw [List.append_nil] at t1
        match ts, t2 with
        | [o], t2 =>
          rw [t1]
          have := t2.2.1
          show decide (o.2 ≤ 40) = true
          simp
          have h3 : (o.2 : Int) + 1 ≤ 41 := this
          omega
      · intro h
        cases hs : scanN e (n + 1) with
        | none => rw [hs] at h; cases h
        | some os =>
          rw [hs] at h
          match os, h with
          | [x], h =>
            have hx : x.2 ≤ 40 := by simpa using h
            obtain ⟨t1, t2⟩ := scan_top e n x [] hs
            obtain ⟨n', w1, w2⟩ := scan_walk e (n + 1) [((n : Int), 1)] [x] [] (by rw [hs]; rfl) ⟨by show (n : Int) = x.1; omega, by show (x.2 : Int) + 1 ≤ 41; omega, trivial⟩
            have hn' : n' = 0 := by
              cases n' with
              | zero => rfl
              | succ m => exact absurd w2 (scan_pos e m)
            rw [w1, hn']
            rfl
end Go.Proofs.YtkomgidcgepknaaGreatDoor
