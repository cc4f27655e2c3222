/-
  Chapter 22, BoundNames: the plain law: the order of the ranges, and a range of no name of the expression, make no difference. No program.
-/
import Derived.Test.YtnlcfbaaomdjdaaDoorNarP
set_option linter.unusedVariables false
set_option linter.unusedSimpArgs false
namespace Go.Proofs.YtnlcfbaaomdjdaaDoor

theorem look_of {l : List Rng} (hd : distinctR l = true) {x : Rng} (hx : x ∈ l) : look l x.name = some (x.low, x.high) := by
  induction l with
  | nil => cases hx
  | cons y l ih =>
    unfold distinctR at hd
    rw [Bool.and_eq_true] at hd
    rw [look_cons]
    rcases List.mem_cons.1 hx with rfl | h
    · rw [if_pos rfl]
    · have := of_decide_eq_true (List.all_eq_true.1 hd.2 x h)
      rw [if_neg (fun h => this h.symm)]
      exact ih hd.1 h
theorem look_none {l : List Rng} {t : ByteArray} (h : ∀ x ∈ l, x.name ≠ t) : look l t = none := by
  induction l with
  | nil => rfl
  | cons y l ih =>
    rw [look_cons, if_neg (h y List.mem_cons_self)]
    exact ih fun x hx => h x (List.mem_cons_of_mem _ hx)
theorem distinct_rev : ∀ l : List Rng, distinctR l = true → distinctR l.reverse = true
  | [], _ => rfl
  | x :: l, h => by
    unfold distinctR at h
    rw [Bool.and_eq_true] at h
    rw [List.reverse_cons, distinct_snoc, distinct_rev l h.1]
    unfold hasR
    rw [List.any_reverse]
    cases ha : l.any fun r => decide (r.name = x.name)
    · rfl
    · obtain ⟨y, hy, he⟩ := List.any_eq_true.1 ha
      have := of_decide_eq_true (List.all_eq_true.1 h.2 y hy)
      exact absurd (of_decide_eq_true he) this
theorem look_rev {l : List Rng} (hd : distinctR l = true) (t : ByteArray) : look l.reverse t = look l t := by
  by_cases h : ∃ x ∈ l, x.name = t
  · obtain ⟨x, hx, rfl⟩ := h
    rw [look_of hd hx, look_of (distinct_rev l hd) (List.mem_reverse.2 hx)]
  · rw [look_none (fun x hx hn => h ⟨x, hx, hn⟩), look_none (fun x hx hn => h ⟨x, List.mem_reverse.1 hx, hn⟩)]
theorem names_plain {e : List Nod} {l : List Rng} {r : Rng} (hv : validRs (r :: l.reverse) = true) (hn : ∀ x ∈ e, x.name ≠ r.name) : boundsL e (r :: l.reverse) = boundsL e l := by
  have h := hv
  rw [valid_split, Bool.and_eq_true] at h
  have hd : distinctR l.reverse = true := by
    have := h.2
    unfold distinctR at this
    rw [Bool.and_eq_true] at this
    exact this.1
  have hd2 : distinctR l = true := by have := distinct_rev _ hd; rwa [List.reverse_reverse] at this
  have hl : validRs l = true := by
    rw [valid_split, hd2, Bool.and_true]
    exact List.all_eq_true.2 fun x hx => List.all_eq_true.1 h.1 x (List.mem_cons_of_mem _ (List.mem_reverse.2 hx))
  unfold boundsL
  rw [hv, hl]
  have hg : goB (r :: l.reverse) [] e = goB l [] e := go_same e [] fun x hx _ => by
    rw [look_cons, if_neg (fun h => hn x hx h.symm), look_rev hd2]
  rw [hg]
end Go.Proofs.YtnlcfbaaomdjdaaDoor
