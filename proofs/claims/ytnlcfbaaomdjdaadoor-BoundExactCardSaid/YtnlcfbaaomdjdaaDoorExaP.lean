/-
  Chapter 22, BoundExact: the plain law: both bounds are values for some ends of the ranges. No program.
-/
import Derived.Test.YtnlcfbaaomdjdaaDoorBndE
import Derived.Test.YtnlcfbaaomdjdaaDoorSouP
set_option linter.unusedVariables false
set_option linter.unusedSimpArgs false
namespace Go.Proofs.YtnlcfbaaomdjdaaDoor

theorem go_prefix {l : List Rng} : ∀ (f : List Nod) (a all : List (Int × Int)), goB l a f = .ok all → all.take a.length = a
  | [], a, all, h => by
    injection h with h
    subst h
    exact List.take_of_length_le (Nat.le_refl _)
  | x :: f, a, all, h => by
    have h' : (match stepB l a x with | Except.error r => Except.error r | Except.ok s => goB l (a ++ [s]) f) = .ok all := h
    cases hs : stepB l a x with
    | error r => rw [hs] at h'; cases h'
    | ok s =>
      rw [hs] at h'
      have := go_prefix f _ _ h'
      have h2 : (all.take (a ++ [s]).length).take a.length = (a ++ [s]).take a.length := by rw [this]
      rw [List.take_take, List.take_append_of_le_length (Nat.le_refl _), List.take_of_length_le (Nat.le_refl a.length)] at h2
      rwa [List.length_append, Nat.min_eq_left (by omega)] at h2
theorem go_take {l : List Rng} {e : List Nod} {all : List (Int × Int)} (h : goB l [] e = .ok all) (n : Nat) (hn : n ≤ e.length) : goB l [] (e.take n) = .ok (all.take n) := by
  have h1 := h
  rw [← List.take_append_drop n e, goB_append] at h1
  cases hg : goB l [] (e.take n) with
  | error r => rw [hg] at h1; cases h1
  | ok a =>
    rw [hg] at h1
    have := go_prefix _ _ _ h1
    have hl := go_len _ _ _ hg
    rw [List.length_take, Nat.min_eq_left hn] at hl
    simp only [List.length_nil, Nat.zero_add] at hl
    rw [hl] at this
    rw [this]
theorem go_step {l : List Rng} {e : List Nod} {all : List (Int × Int)} (h : goB l [] e = .ok all) (n : Nat) (hn : n < e.length) : stepB l (all.take n) (nodAt e n) = .ok (all.getD n (0, 0)) := by
  have h1 := go_take h (n + 1) (by omega)
  rw [nod_take hn, goB_append, go_take h n (by omega)] at h1
  have h2 : (match stepB l (all.take n) (nodAt e n) with | Except.error r => Except.error r | Except.ok s => goB l (all.take n ++ [s]) []) = .ok (all.take (n + 1)) := h1
  cases hs : stepB l (all.take n) (nodAt e n) with
  | error r => rw [hs] at h2; cases h2
  | ok s =>
    rw [hs] at h2
    have hl := go_len _ _ _ h
    injection h2 with h2
    have hlen : n < all.length := by simpa using (by rw [hl]; simpa using hn : n < all.length)
    rw [take_snoc all n (0, 0) hlen] at h2
    have := List.append_cancel_left h2
    injection this with this
    rw [this]
/-- The node that bears a name. -/
def nodeOf (e : List Nod) (t : ByteArray) : Nat := ((List.range e.length).find? fun i => decide ((nodAt e i).op = 2 ∧ (nodAt e i).name = t)).getD 0
/-- No name occurs twice. -/
def OnceN (e : List Nod) : Prop := ∀ i j, i < j → j < e.length → (nodAt e i).op = 2 → (nodAt e j).op = 2 → (nodAt e i).name ≠ (nodAt e j).name
theorem nodeOf_eq {e : List Nod} (h : OnceN e) {i : Nat} (hi : i < e.length) (h2 : (nodAt e i).op = 2) : nodeOf e (nodAt e i).name = i := by
  unfold nodeOf
  cases hf : (List.range e.length).find? fun k => decide ((nodAt e k).op = 2 ∧ (nodAt e k).name = (nodAt e i).name) with
  | none =>
    have := List.find?_eq_none.1 hf i (List.mem_range.2 hi)
    exact absurd (decide_eq_true ⟨h2, rfl⟩) this
  | some k =>
    have h3 := List.find?_some hf
    have h4 := List.mem_range.1 (List.mem_of_find?_eq_some hf)
    rw [decide_eq_true_eq] at h3
    rcases Nat.lt_trichotomy k i with hk | hk | hk
    · exact absurd h3.2 (h k i hk hi h3.1 h2)
    · exact hk
    · exact absurd h3.2.symm (h i k hk h4 h2 h3.1)
/-- The ends of the ranges. -/
def endsB (l : List Rng) (β : Nat → Bool) (j : Nat) : List Int := (List.range j).map fun i => en (β i) ((rngAt l i).low, (rngAt l i).high)
theorem endsB_len (l : List Rng) (β : Nat → Bool) (j : Nat) : (endsB l β j).length = j := by simp [endsB]
theorem endsB_get (l : List Rng) (β : Nat → Bool) {n j : Nat} (h : j < n) : (endsB l β n).getD j 0 = en (β j) ((rngAt l j).low, (rngAt l j).high) := by
  unfold endsB
  rw [List.getD_eq_getElem?_getD, List.getElem?_map, List.getElem?_range h]
  rfl
theorem en_in {b : Bool} {s : Int × Int} (h : s.1 ≤ s.2) : s.1 ≤ en b s ∧ en b s ≤ s.2 := by
  cases b <;> simp [en, h]
theorem endsB_in {l : List Rng} (hv : validRs l = true) (β : Nat → Bool) : InR l (endsB l β l.length) := by
  refine ⟨endsB_len _ _ _, fun j hj => ?_⟩
  rw [endsB_get l β hj]
  exact en_in (s := ((rngAt l j).low, (rngAt l j).high)) (valid_mem hv (List.mem_of_getElem? (rngAt_get hj))).2.2.2
/-- The evaluation goes as the values of the nodes. -/
theorem goV_vals {l : List Rng} (hv : validRs l = true) {e : List Nod} (ho : OnceN e) (σ : Nat → Bool) (all : List (Int × Int)) (hg : goB l [] e = .ok all) {β : Nat → Bool} (hβ : ∀ j, j < l.length → β j = σ (nodeOf e (rngAt l j).name)) :
    ∀ n, n ≤ e.length → ∀ vs, goV (sigL l (endsB l β l.length)) [] (e.take n) = some vs → vs = valsI l e σ n
  | 0, _, vs, h => by
    rw [List.take_zero] at h
    injection h with h
    exact h.symm
  | n + 1, hn, vs, h => by
    rw [nod_take (by omega), goV_append] at h
    cases hp : goV (sigL l (endsB l β l.length)) [] (e.take n) with
    | none => rw [hp] at h; cases h
    | some us =>
      rw [hp] at h
      obtain rfl := goV_vals hv ho σ all hg hβ n (by omega) us hp
      have h' : (match stepV (sigL l (endsB l β l.length)) (valsI l e σ n) (nodAt e n) with | none => none | some v => goV (sigL l (endsB l β l.length)) (valsI l e σ n ++ [v]) []) = some vs := h
      cases hs : stepV (sigL l (endsB l β l.length)) (valsI l e σ n) (nodAt e n) with
      | none => rw [hs] at h'; cases h'
      | some v =>
        rw [hs] at h'
        injection h' with h'
        subst h'
        show _ = valsI l e σ n ++ [valI l σ n (valsI l e σ n) (nodAt e n)]
        congr 2
        unfold stepV at hs
        unfold valI
        by_cases h1 : (nodAt e n).op = 1
        · rw [if_pos h1] at hs ⊢
          split at hs
          · cases hs
          · injection hs with hs
            exact hs.symm
        · rw [if_neg h1] at hs ⊢
          by_cases h2 : (nodAt e n).op = 2
          · rw [if_pos h2] at hs ⊢
            have hst := go_step hg n (by omega)
            unfold stepB at hst
            rw [if_neg h1, if_pos h2] at hst
            cases hl : look l (nodAt e n).name with
            | none => rw [hl] at hst; cases hst
            | some s =>
              obtain ⟨j, hj, hname, rfl⟩ := look_at hl
              have hsig := sig_at (xs := endsB l β l.length) hv (endsB_len _ _ _) hj
              rw [hname, endsB_get l β hj, hβ j hj, hname, nodeOf_eq ho (by omega) h2] at hsig
              rw [hsig] at hs
              dsimp only at hs
              split at hs
              · cases hs
              · injection hs with hs
                exact hs.symm
          · rw [if_neg h2] at hs ⊢
            split at hs
            · cases hs
            · injection hs with hs
              exact hs.symm
theorem exact_plain {e : List Nod} {l : List Rng} {lo hi : Int} (hb : boundsL e l = (lo, hi, 0)) (hno : ∀ x ∈ e, x.op ≠ 6 ∧ x.op ≠ 11) (ho : OnceN e) (w : Bool) : ∃ β : Nat → Bool, evalR (sigL l (endsB l β l.length)) e = (en w (lo, hi), true) := by
  obtain ⟨hv, he, all, hg, hlo, hhi⟩ := bounds_ok hb
  have hin := endsB_in hv (fun _ => false)
  obtain ⟨vs0, _, hw0⟩ := go_sound (fits_in hv hin) e [] [] all Ws.nil (valid_oks he) hg
  have hord : ∀ i : Nat, (all.getD i (0, 0)).1 ≤ (all.getD i (0, 0)).2 := fun i => by
    have := hw0.2 i
    unfold within at this
    omega
  have hl := valid_nodes he
  have hve := he
  rw [valid_eq] at hve
  unfold validR at hve
  simp only [Bool.and_eq_true, decide_eq_true_eq] at hve
  obtain ⟨_, hsc⟩ := hve
  cases hs : scanN e e.length with
  | none => rw [hs] at hsc; cases hsc
  | some os =>
    rw [hs] at hsc
    match os, hs, hsc with
    | [x], hs, hsc =>
      obtain ⟨hgood, _, _⟩ := exact_scan l e all hg hord hno (fun n hn => go_step hg n hn) e.length [x] (Nat.le_refl _) hs
      obtain ⟨m, hm⟩ : ∃ m, e.length = m + 1 := ⟨e.length - 1, by omega⟩
      rw [hm] at hs
      have hx := (scan_top e m x [] hs).1
      obtain ⟨σ, hσ⟩ := hgood.1 w
      have h1 := hσ σ (fun _ _ _ => rfl)
      rw [hx] at h1
      refine ⟨fun j => σ (nodeOf e (rngAt l j).name), ?_⟩
      obtain ⟨v, hev, _, _⟩ := sound_plain hb (endsB_in hv (fun j => σ (nodeOf e (rngAt l j).name)))
      rw [hev]
      unfold evalR at hev
      cases hgv : goV (sigL l (endsB l (fun j => σ (nodeOf e (rngAt l j).name)) l.length)) [] e with
      | none => rw [hgv] at hev; cases hev
      | some vs =>
        rw [hgv] at hev
        dsimp only at hev
        rw [if_neg (by omega)] at hev
        have hvs := goV_vals hv ho σ all hg (β := fun j => σ (nodeOf e (rngAt l j).name)) (fun _ _ => rfl) e.length (Nat.le_refl _) vs (by rw [List.take_length]; exact hgv)
        rw [hvs, valsI_get l e σ (e.length - 1) e.length (by omega), show e.length - 1 = m from by omega, h1] at hev
        injection hev with hev _
        have hsp : (lo, hi) = all.getD m (0, 0) := by
          rw [hlo, hhi]
          unfold spanAt
          rw [show ((e.length : Int) - 1).toNat = m from by omega]
        rw [← hev, hsp]
    | [], hs, hsc => cases hsc
    | _ :: _ :: _, hs, hsc => cases hsc
/-! ### All the ends -/
def bitB (c i : Nat) : Bool := decide (c / 2 ^ i % 2 = 1)
theorem bits_all (β : Nat → Bool) : ∀ n : Nat, ∃ c, c < 2 ^ n ∧ ∀ i, i < n → bitB c i = β i
  | 0 => ⟨0, by simp, fun i h => absurd h (by omega)⟩
  | n + 1 => by
    obtain ⟨c, hc, h⟩ := bits_all β n
    have hp : 2 ^ (n + 1) = 2 * 2 ^ n := by rw [Nat.pow_succ]; omega
    cases hb : β n
    · refine ⟨c, by omega, fun i hi => ?_⟩
      by_cases hin : i < n
      · exact h i hin
      · obtain rfl : i = n := by omega
        unfold bitB
        rw [Nat.div_eq_of_lt hc, hb]
        rfl
    · refine ⟨c + 2 ^ n, by omega, fun i hi => ?_⟩
      by_cases hin : i < n
      · rw [← h i hin]
        unfold bitB
        have : 2 ^ n = 2 ^ i * (2 * 2 ^ (n - i - 1)) := by rw [← Nat.pow_succ', ← Nat.pow_add]; congr 1; omega
        rw [this, Nat.add_mul_div_left _ _ (Nat.two_pow_pos i), Nat.add_mul_mod_self_left]
      · obtain rfl : i = n := by omega
        unfold bitB
        rw [Nat.add_div_right _ (Nat.two_pow_pos i), Nat.div_eq_of_lt hc, hb]
        rfl
theorem endsB_eq {l : List Rng} {β γ : Nat → Bool} {n : Nat} (h : ∀ i, i < n → β i = γ i) : endsB l β n = endsB l γ n := by
  unfold endsB
  refine List.map_congr_left fun i hi => ?_
  rw [h i (List.mem_range.1 hi)]
/-- Does the evaluation at the ends c hit the number? -/
def hitL (e : List Nod) (l : List Rng) (x : Int) (c : Nat) : Bool := (evalR (sigL l (endsB l (bitB c) l.length)) e).2 && ((evalR (sigL l (endsB l (bitB c) l.length)) e).1 == x)
def anyN (f : Nat → Bool) : Nat → Bool
  | 0 => false
  | n + 1 => anyN f n || f n
theorem anyN_of {f : Nat → Bool} {c : Nat} (h : f c = true) : ∀ n, c < n → anyN f n = true
  | 0, hc => absurd hc (by omega)
  | n + 1, hc => by
    unfold anyN
    by_cases hn : c < n
    · rw [anyN_of h n hn]; rfl
    · obtain rfl : c = n := by omega
      rw [h, Bool.or_true]
theorem exact_any {e : List Nod} {l : List Rng} {lo hi : Int} (hb : boundsL e l = (lo, hi, 0)) (hno : ∀ x ∈ e, x.op ≠ 6 ∧ x.op ≠ 11) (ho : OnceN e) : anyN (hitL e l lo) (2 ^ l.length) = true ∧ anyN (hitL e l hi) (2 ^ l.length) = true := by
  constructor
  · obtain ⟨β, h⟩ := exact_plain hb hno ho false
    obtain ⟨c, hc, hbit⟩ := bits_all β l.length
    refine anyN_of ?_ _ hc
    unfold hitL
    rw [endsB_eq hbit, h]
    simp [en]
  · obtain ⟨β, h⟩ := exact_plain hb hno ho true
    obtain ⟨c, hc, hbit⟩ := bits_all β l.length
    refine anyN_of ?_ _ hc
    unfold hitL
    rw [endsB_eq hbit, h]
    simp [en]
theorem endsB_next (l : List Rng) (β : Nat → Bool) (j : Nat) : endsB l β (j + 1) = endsB l β j ++ [en (β j) ((rngAt l j).low, (rngAt l j).high)] := by
  unfold endsB
  rw [List.range_succ, List.map_append]
  rfl
end Go.Proofs.YtnlcfbaaomdjdaaDoor
