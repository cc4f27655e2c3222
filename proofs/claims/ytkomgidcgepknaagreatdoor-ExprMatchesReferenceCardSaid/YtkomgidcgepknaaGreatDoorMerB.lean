/-
  Chapter 23, MeritBounds: the plain law. No program.
-/
import Derived.Test.YtkomgidcgepknaaGreatDoorMerP
import Derived.Test.YtkomgidcgepknaaGreatDoorWrap
set_option linter.unusedVariables false
set_option linter.unusedSimpArgs false
namespace Go.Proofs.YtkomgidcgepknaaGreatDoor
open Go.RowKit

def vrAt (l : List Vr) (k : Nat) : Vr := l.getD k ⟨ByteArray.empty, 0⟩
theorem vrAt_get {l : List Vr} {i : Nat} (h : i < l.length) : l[i]? = some (vrAt l i) := by
  unfold vrAt
  rw [List.getD_eq_getElem?_getD, List.getElem?_eq_getElem h]
  rfl
theorem vr_take {l : List Vr} {i : Nat} (h : i < l.length) : l.take (i + 1) = l.take i ++ [vrAt l i] := take_snoc l i ⟨ByteArray.empty, 0⟩ h
theorem validVs_bad {l : List Vr} {k : Nat} (hk : k < l.length) (h : hasV (l.take k) (vrAt l k).name = true ∨ okV (vrAt l k) = false) : validVs l = false := by
  unfold validVs
  rcases h with h | h
  · have : ((List.range l.length).all fun i => !hasV (l.take i) ((l[i]?.map Vr.name).getD ByteArray.empty)) = false := by
      rw [Bool.eq_false_iff]
      intro ha
      have := List.all_eq_true.1 ha k (List.mem_range.2 hk)
      rw [vrAt_get hk] at this
      simp only [Option.map_some, Option.getD_some] at this
      rw [h] at this
      cases this
    rw [this, Bool.and_false]
  · have : l.all okV = false := by
      rw [Bool.eq_false_iff]
      intro ha
      have := List.all_eq_true.1 ha _ (List.mem_of_getElem? (vrAt_get hk))
      rw [h] at this
      cases this
    rw [this, Bool.false_and]
theorem validVs_good {l : List Vr} (h : ∀ k, k < l.length → hasV (l.take k) (vrAt l k).name = false ∧ okV (vrAt l k) = true) : validVs l = true := by
  unfold validVs
  rw [Bool.and_eq_true]
  constructor
  · rw [List.all_eq_true]
    intro v hv
    obtain ⟨i, hi, rfl⟩ := List.getElem_of_mem hv
    have := (h i hi).2
    have he := vrAt_get hi
    rw [List.getElem?_eq_getElem hi] at he
    injection he with he
    rw [he]
    exact this
  · rw [List.all_eq_true]
    intro k hk
    have hk := List.mem_range.1 hk
    rw [vrAt_get hk]
    simp only [Option.map_some, Option.getD_some]
    rw [(h k hk).1]
    rfl
theorem validVs_out {l : List Vr} (h : validVs l = true) : ∀ k, k < l.length → hasV (l.take k) (vrAt l k).name = false ∧ okV (vrAt l k) = true := by
  intro k hk
  constructor
  · cases hh : hasV (l.take k) (vrAt l k).name
    · rfl
    · rw [validVs_bad hk (.inl hh)] at h
      cases h
  · cases hh : okV (vrAt l k)
    · rw [validVs_bad hk (.inr hh)] at h
      cases h
    · rfl
theorem hasV_not {l : List Vr} {t : ByteArray} (h : hasV l t = false) : ∀ v ∈ l, v.name ≠ t := by
  intro v hv hn
  unfold hasV at h
  rw [List.any_eq_false] at h
  exact h v hv (decide_eq_true hn)
theorem hasV_of {l : List Vr} {t : ByteArray} (h : ∀ v ∈ l, v.name ≠ t) : hasV l t = false := by
  unfold hasV
  rw [List.any_eq_false]
  intro v hv hd
  exact h v hv (of_decide_eq_true hd)
/-- The values of the first variables, and one more. -/
theorem sigV_snoc (l : List Vr) (v : Vr) (t : ByteArray) : sigV (l ++ [v]) t = match sigV l t with | some x => some x | none => if v.name = t then some v.val else none := by
  unfold sigV
  rw [List.find?_append]
  cases hf : l.find? fun v => decide (v.name = t) with
  | some x => rfl
  | none =>
    simp only [Option.none_or, Option.map_none]
    rw [List.find?_cons]
    by_cases h : v.name = t
    · rw [decide_eq_true h, if_pos h]
      rfl
    · rw [decide_eq_false h, if_neg h]
      rfl
theorem sigV_none {l : List Vr} {t : ByteArray} (h : hasV l t = false) : sigV l t = none := by
  unfold sigV
  rw [List.find?_eq_none.2 fun v hv => by simpa using hasV_not h v hv]
  rfl
theorem sigV_has {l : List Vr} {t : ByteArray} : (sigV l t).isSome = hasV l t := by
  unfold sigV hasV
  induction l with
  | nil => rfl
  | cons v l ih =>
    rw [List.find?_cons, List.any_cons]
    by_cases h : v.name = t
    · rw [decide_eq_true h]
      rfl
    · rw [decide_eq_false h, Bool.false_or]
      exact ih
theorem sigV_at {l : List Vr} (h : validVs l = true) {k : Nat} (hk : k < l.length) : sigV l (vrAt l k).name = some (vrAt l k).val := by
  have hv := validVs_out h
  have key : ∀ n, n ≤ l.length → k < n → sigV (l.take n) (vrAt l k).name = some (vrAt l k).val := by
    intro n
    induction n with
    | zero => intro _ h; omega
    | succ n ih =>
      intro hn hkn
      rw [vr_take (by omega), sigV_snoc]
      by_cases hk2 : k < n
      · rw [ih (by omega) hk2]
      · obtain rfl : k = n := by omega
        rw [sigV_none (hv k (by omega)).1]
        dsimp only
        rw [if_pos rfl]
  have := key l.length (Nat.le_refl _) hk
  rwa [List.take_length] at this

/-! ### Ranges around variables -/
theorem bounds_ok2 {e : List Nod} {l : List Rng} {lo hi : Int} (h : boundsL e l = (lo, hi, 0)) : validRs l = true ∧ validL e = true ∧ ∃ all, goB l [] e = .ok all ∧ lo = (spanAt all (e.length - 1)).1 ∧ hi = (spanAt all (e.length - 1)).2 := by
  unfold boundsL at h
  by_cases hv : validRs l = false ∨ validL e = false
  · rw [if_pos hv] at h
    injection h with _ h
    injection h with _ h
    exact absurd h (by decide)
  · rw [if_neg hv] at h
    refine ⟨by cases h : validRs l <;> simp_all, by cases h : validL e <;> simp_all, ?_⟩
    cases hg : goB l [] e with
    | error r =>
      rw [hg] at h
      injection h with h1 h
      injection h with h2 h
      exfalso
      have h : r = 0 := h
      subst h
      have key : ∀ (e : List Nod) (all : List (Int × Int)) (r : Int), goB l all e = .error r → r = 7 ∨ r = 9 := by
        intro e
        induction e with
        | nil => intro all r h; cases h
        | cons x e ih =>
          intro all r h
          have h' : (match stepB l all x with | Except.error r => Except.error r | Except.ok s => goB l (all ++ [s]) e) = .error r := h
          cases hs : stepB l all x with
          | error r' =>
            rw [hs] at h'
            injection h' with h'
            subst h'
            unfold stepB at hs
            split at hs
            · cases hs
            · split at hs
              · split at hs
                · cases hs
                · injection hs with hs; exact .inl hs.symm
              · split at hs
                · injection hs with hs; exact .inr hs.symm
                · cases hs
          | ok s =>
            rw [hs] at h'
            exact ih _ _ h'
      rcases key e [] 0 hg with h | h <;> omega
    | ok all =>
      rw [hg] at h
      injection h with h1 h
      injection h with h2 h
      exact ⟨all, rfl, h1.symm, h2.symm⟩
/-- What lies round a variable. -/
def aroundL (l : List Vr) (be ab : Nat → Int) : List Rng := (List.range l.length).map fun i => ⟨(vrAt l i).name, wrap64 ((vrAt l i).val - be i), wrap64 ((vrAt l i).val + ab i)⟩
theorem around_at {l : List Vr} {be ab : Nat → Int} {i : Nat} (h : i < l.length) : (aroundL l be ab)[i]? = some ⟨(vrAt l i).name, wrap64 ((vrAt l i).val - be i), wrap64 ((vrAt l i).val + ab i)⟩ := by
  unfold aroundL
  rw [List.getElem?_map, List.getElem?_range h]
  rfl
theorem around_len (l : List Vr) (be ab : Nat → Int) : (aroundL l be ab).length = l.length := by simp [aroundL]
theorem validRs_at : ∀ {l : List Rng}, validRs l = true → (∀ (i : Nat) (r : Rng), l[i]? = some r → okR r = true) ∧ ∀ (i j : Nat) (r s : Rng), i < j → l[i]? = some r → l[j]? = some s → r.name ≠ s.name
  | [], _ => ⟨fun i r h => by simp at h, fun i j r s _ h => by simp at h⟩
  | x :: l, hv => by
    unfold validRs at hv
    simp only [Bool.and_eq_true] at hv
    obtain ⟨⟨h1, h2⟩, h3⟩ := hv
    obtain ⟨i1, i2⟩ := validRs_at h1
    constructor
    · intro i r h
      cases i with
      | zero => injection h with h; rw [← h]; exact h2
      | succ i => exact i1 i r h
    · intro i j r s hij hi hj
      cases j with
      | zero => omega
      | succ j =>
        cases i with
        | zero =>
          injection hi with hi
          rw [← hi]
          have := of_decide_eq_true (List.all_eq_true.1 h3 s (List.mem_of_getElem? hj))
          exact fun h => this h.symm
        | succ i => exact i2 i j r s (by omega) hi hj
/-- Where the ranges are valid, so are the variables, and each lies in its range. -/
theorem around_valid {l : List Vr} {be ab : Nat → Int} (hb : ∀ i, 0 ≤ be i ∧ be i ≤ 100000 ∧ 0 ≤ ab i ∧ ab i ≤ 100000) (hw : ∀ v ∈ l, -9223372036854775808 ≤ v.val ∧ v.val ≤ 9223372036854775807) (h : validRs (aroundL l be ab) = true) :
    validVs l = true ∧ ∀ i, i < l.length → (wrap64 ((vrAt l i).val - be i) ≤ (vrAt l i).val ∧ (vrAt l i).val ≤ wrap64 ((vrAt l i).val + ab i)) := by
  obtain ⟨h1, h2⟩ := validRs_at h
  have hin : ∀ i, i < l.length → (wrap64 ((vrAt l i).val - be i) ≤ (vrAt l i).val ∧ (vrAt l i).val ≤ wrap64 ((vrAt l i).val + ab i)) ∧ okV (vrAt l i) = true := by
    intro i hi
    have ho := h1 i _ (around_at (be := be) (ab := ab) hi)
    unfold okR at ho
    simp only [Bool.and_eq_true, Bool.not_eq_true', decide_eq_true_eq] at ho
    obtain ⟨⟨⟨n1, n2⟩, n3⟩, n4⟩ := ho
    have m2 := inB_beyond.1 n2
    have m3 := inB_beyond.1 n3
    unfold inB at m2 m3
    have hwi := hw _ (List.mem_of_getElem? (vrAt_get hi))
    have hbi := hb i
    have hok : okV (vrAt l i) = (nameB (vrAt l i).name && !beyondL (vrAt l i).val) := rfl
    rw [hok]
    rw [n1, Bool.true_and, Bool.not_eq_true']
    generalize (vrAt l i).val = v at m2 m3 hwi n4 ⊢
    have e1 : wrap64 (v - be i) = v - be i := by unfold wrap64 at m2 ⊢; omega
    have e2 : wrap64 (v + ab i) = v + ab i := by unfold wrap64 at m3 ⊢; omega
    rw [e1] at m2 ⊢
    rw [e2] at m3 ⊢
    refine ⟨⟨by omega, by omega⟩, inB_beyond.2 ?_⟩
    unfold inB
    omega
  refine ⟨validVs_good fun k hk => ⟨hasV_of fun v hv hn => ?_, (hin k hk).2⟩, fun i hi => (hin i hi).1⟩
  obtain ⟨j, hj, rfl⟩ := List.getElem_of_mem hv
  rw [List.length_take] at hj
  have hj1 : j < k := by omega
  have hj2 : j < l.length := by omega
  have he : (l.take k)[j] = vrAt l j := by
    rw [List.getElem_take]
    have := vrAt_get hj2
    rw [List.getElem?_eq_getElem hj2] at this
    exact Option.some.inj this
  rw [he] at hn
  exact h2 j k _ _ hj1 (around_at hj2) (around_at hk) hn
theorem around_fits {l : List Vr} {be ab : Nat → Int} (hb : ∀ i, 0 ≤ be i ∧ be i ≤ 100000 ∧ 0 ≤ ab i ∧ ab i ≤ 100000) (hw : ∀ v ∈ l, -9223372036854775808 ≤ v.val ∧ v.val ≤ 9223372036854775807) (h : validRs (aroundL l be ab) = true) : Fits (aroundL l be ab) (sigV l) := by
  obtain ⟨hv, hin⟩ := around_valid hb hw h
  intro t s hs
  have hins := look_in h hs
  refine ⟨inB_beyond.2 hins.1, inB_beyond.2 hins.2, ?_⟩
  unfold look at hs
  cases hf : (aroundL l be ab).find? fun r => decide (r.name = t) with
  | none => rw [hf] at hs; cases hs
  | some r =>
    rw [hf] at hs
    injection hs with hs
    have hn0 := List.find?_some hf
    have hn : r.name = t := of_decide_eq_true hn0
    obtain ⟨i, hi, he⟩ := List.getElem_of_mem (List.mem_of_find?_eq_some hf)
    rw [around_len] at hi
    have hat := around_at (l := l) (be := be) (ab := ab) hi
    rw [List.getElem?_eq_getElem (by rw [around_len]; exact hi), he] at hat
    injection hat with hat
    subst hat
    refine ⟨(vrAt l i).val, ?_, ?_⟩
    · rw [← hn]
      exact sigV_at hv hi
    · rw [← hs]
      exact hin i hi
theorem merit_bounds {e : List Nod} {l : List Vr} {be ab : Nat → Int} {lo hi : Int} (hb : ∀ i, 0 ≤ be i ∧ be i ≤ 100000 ∧ 0 ≤ ab i ∧ ab i ≤ 100000) (hw : ∀ v ∈ l, -9223372036854775808 ≤ v.val ∧ v.val ≤ 9223372036854775807)
    (h : boundsL e (aroundL l be ab) = (lo, hi, 0)) : ∃ n, evalM e l = (n, 0) ∧ lo ≤ n ∧ n ≤ hi := by
  obtain ⟨hv, he, all, hg, rfl, rfl⟩ := bounds_ok2 h
  have hvv := (around_valid hb hw hv).1
  have hok : ∀ x ∈ e, nodeOk x := fun x hx => by
    obtain ⟨i, hi, rfl⟩ := List.getElem_of_mem hx
    have := (valid_nodes he).2.2 i hi
    rw [nodAt_get' hi]
    exact formed_ok this.1
  obtain ⟨vs, h1, h2⟩ := go_sound (around_fits hb hw hv) e [] [] all Ws.nil hok hg
  have hl := (valid_nodes he).1
  rw [goM_V] at h1
  rw [evalM_of hvv he]
  cases hm : goM (sigV l) [] e with
  | error r => rw [hm] at h1; cases h1
  | ok ws =>
    rw [hm] at h1
    injection h1 with h1
    subst h1
    refine ⟨_, rfl, ?_⟩
    have := h2.at_ (e.length - 1)
    unfold spanAt
    rw [show ((e.length : Int) - 1).toNat = e.length - 1 from by omega]
    exact this
end Go.Proofs.YtkomgidcgepknaaGreatDoor
