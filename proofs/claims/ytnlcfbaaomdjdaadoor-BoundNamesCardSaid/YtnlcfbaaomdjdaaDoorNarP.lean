/-
  Chapter 22, BoundNarrower: the plain law.
-/
import Derived.Test.YtnlcfbaaomdjdaaDoorVal
import Derived.Test.YtnlcfbaaomdjdaaDoorErr
set_option linter.unusedVariables false
set_option linter.unusedSimpArgs false
namespace Go.Proofs.YtnlcfbaaomdjdaaDoor

theorem look_cons (x : Rng) (l : List Rng) (t : ByteArray) : look (x :: l) t = if x.name = t then some (x.low, x.high) else look l t := by
  unfold look
  rw [List.find?_cons]
  by_cases h : x.name = t
  · rw [decide_eq_true h, if_pos h]; rfl
  · rw [decide_eq_false h, if_neg h]
theorem look_set {r' r : Rng} {t : ByteArray} {s : Int × Int} (hn : r'.name = r.name) : ∀ (l : List Rng) (k : Nat), l[k]? = some r → look l t = some s →
    ∃ s', look (l.set k r') t = some s' ∧ (s' = s ∨ (s' = (r'.low, r'.high) ∧ s = (r.low, r.high)))
  | [], k, h, _ => by simp at h
  | x :: l, 0, h, hl => by
    simp only [List.getElem?_cons_zero, Option.some.injEq] at h
    subst h
    rw [look_cons] at hl
    rw [List.set_cons_zero, look_cons, hn]
    by_cases hx : x.name = t
    · rw [if_pos hx] at hl ⊢
      injection hl with hl
      exact ⟨_, rfl, .inr ⟨rfl, hl.symm⟩⟩
    · rw [if_neg hx] at hl ⊢
      exact ⟨s, hl, .inl rfl⟩
  | x :: l, k + 1, h, hl => by
    rw [look_cons] at hl
    rw [List.set_cons_succ, look_cons]
    by_cases hx : x.name = t
    · rw [if_pos hx] at hl ⊢
      exact ⟨s, hl, .inl rfl⟩
    · rw [if_neg hx] at hl ⊢
      exact look_set hn l k (by simpa using h) hl
theorem all_set {r' r : Rng} {t : ByteArray} (hn : r'.name = r.name) : ∀ (l : List Rng) (k : Nat), l[k]? = some r → (l.set k r').all (fun x => decide (x.name ≠ t)) = l.all (fun x => decide (x.name ≠ t))
  | [], k, h => by simp at h
  | x :: l, 0, h => by
    simp only [List.getElem?_cons_zero, Option.some.injEq] at h
    subst h
    rw [List.set_cons_zero, List.all_cons, List.all_cons, hn]
  | x :: l, k + 1, h => by
    rw [List.set_cons_succ, List.all_cons, List.all_cons, all_set hn l k (by simpa using h)]
theorem valid_set {r' r : Rng} (hn : r'.name = r.name) (ho : okR r' = true) : ∀ (l : List Rng) (k : Nat), l[k]? = some r → validRs l = true → validRs (l.set k r') = true
  | [], k, h, _ => by simp at h
  | x :: l, 0, h, hv => by
    simp only [List.getElem?_cons_zero, Option.some.injEq] at h
    subst h
    rw [List.set_cons_zero]
    unfold validRs at hv ⊢
    rw [Bool.and_eq_true, Bool.and_eq_true] at hv
    rw [hv.1.1, ho, hn, hv.2]
    rfl
  | x :: l, k + 1, h, hv => by
    rw [List.set_cons_succ]
    unfold validRs at hv ⊢
    rw [Bool.and_eq_true, Bool.and_eq_true] at hv
    rw [valid_set hn ho l k (by simpa using h) hv.1.1, hv.1.2, all_set hn l k (by simpa using h), hv.2]
    rfl
theorem look_mem {t : ByteArray} {s : Int × Int} : ∀ {l : List Rng}, look l t = some s → ∃ x ∈ l, s = (x.low, x.high)
  | [], h => by cases h
  | x :: l, h => by
    rw [look_cons] at h
    by_cases hx : x.name = t
    · rw [if_pos hx] at h
      injection h with h
      exact ⟨x, List.mem_cons_self, h.symm⟩
    · rw [if_neg hx] at h
      obtain ⟨y, hy, e⟩ := look_mem h
      exact ⟨y, List.mem_cons_of_mem _ hy, e⟩
theorem valid_mem {l : List Rng} (hv : validRs l = true) {x : Rng} (hx : x ∈ l) : nameB x.name = true ∧ inB x.low ∧ inB x.high ∧ x.low ≤ x.high := by
  rw [valid_split, Bool.and_eq_true] at hv
  have := List.all_eq_true.1 hv.1 x hx
  unfold okR at this
  simp only [Bool.and_eq_true, Bool.not_eq_true', decide_eq_true_eq] at this
  exact ⟨this.1.1.1, inB_beyond.1 this.1.1.2, inB_beyond.1 this.1.2, this.2⟩
theorem bounds_ok {e : List Nod} {l : List Rng} {lo hi : Int} (h : boundsL e l = (lo, hi, 0)) : validRs l = true ∧ validL e = true ∧ ∃ all, goB l [] e = .ok all ∧ lo = (spanAt all (e.length - 1)).1 ∧ hi = (spanAt all (e.length - 1)).2 := by
  unfold boundsL at h
  by_cases hv : validRs l = false ∨ validL e = false
  · rw [if_pos hv] at h
    injection h with _ h
    injection h with _ h
    exact absurd h (by decide)
  · rw [if_neg hv] at h
    refine ⟨by cases h : validRs l <;> simp_all, by cases h : validL e <;> simp_all, ?_⟩
    cases hg : goB l [] e with
    | error r =>
      rw [hg] at h
      injection h with _ h
      injection h with _ h
      rcases goB_err e [] hg with ⟨h1, -⟩ | h1 <;> omega
    | ok all =>
      rw [hg] at h
      injection h with h1 h
      injection h with h2 h
      exact ⟨all, rfl, h1.symm, h2.symm⟩
theorem bounds_of {e : List Nod} {l : List Rng} {all : List (Int × Int)} (h1 : validRs l = true) (h2 : validL e = true) (h3 : goB l [] e = .ok all) : boundsL e l = ((spanAt all (e.length - 1)).1, (spanAt all (e.length - 1)).2, 0) := by
  unfold boundsL
  rw [if_neg (by rw [h1, h2]; simp), h3]
theorem valid_oks {e : List Nod} (h : validL e = true) : ∀ x ∈ e, nodeOk x := by
  intro x hx
  obtain ⟨i, hi, rfl⟩ := List.getElem_of_mem hx
  have := (valid_nodes h).2.2 i hi
  rw [nodAt_get' hi]
  exact formed_ok this.1
theorem narrow_plain {e : List Nod} {l : List Rng} {k : Nat} {r : Rng} {a b lo hi : Int} (hb : boundsL e l = (lo, hi, 0)) (hk : l[k]? = some r) (ha : r.low ≤ a ∧ a ≤ r.high) (hb' : r.low ≤ b ∧ b ≤ r.high) :
    ∃ lo2 hi2, boundsL e (l.set k ⟨r.name, min a b, max a b⟩) = (lo2, hi2, 0) ∧ lo ≤ lo2 ∧ lo2 ≤ hi2 ∧ hi2 ≤ hi := by
  obtain ⟨hv, he, all, hg, rfl, rfl⟩ := bounds_ok hb
  obtain ⟨m1, m2, m3, m4⟩ := valid_mem hv (List.mem_of_getElem? hk)
  have ho : okR ⟨r.name, min a b, max a b⟩ = true := by
    unfold okR
    dsimp only
    unfold inB at m2 m3
    rw [m1, inB_beyond.2 (show inB (min a b) by unfold inB; omega), inB_beyond.2 (show inB (max a b) by unfold inB; omega), decide_eq_true (by omega)]
    rfl
  have hv2 := valid_set (r' := ⟨r.name, min a b, max a b⟩) (r := r) rfl ho l k hk hv
  have hN : Narrow (l.set k ⟨r.name, min a b, max a b⟩) l := by
    intro t s hs
    obtain ⟨x, hx, rfl⟩ := look_mem hs
    obtain ⟨x1, x2, x3, x4⟩ := valid_mem hv hx
    refine ⟨inB_beyond.2 x2, inB_beyond.2 x3, ?_⟩
    obtain ⟨s', h1, h2⟩ := look_set (r' := ⟨r.name, min a b, max a b⟩) (r := r) rfl l k hk hs
    refine ⟨s', h1, ?_⟩
    rcases h2 with rfl | ⟨rfl, h3⟩
    · exact ⟨Int.le_refl _, x4, Int.le_refl _⟩
    · rw [h3]
      unfold sub2
      dsimp only
      omega
  obtain ⟨as', g1, g2⟩ := go_narrow hN e [] [] all Ss.nil (valid_oks he) hg
  refine ⟨_, _, bounds_of hv2 he g1, ?_⟩
  have := g2.at_ ((e.length : Int) - 1).toNat
  exact this
end Go.Proofs.YtnlcfbaaomdjdaaDoor
