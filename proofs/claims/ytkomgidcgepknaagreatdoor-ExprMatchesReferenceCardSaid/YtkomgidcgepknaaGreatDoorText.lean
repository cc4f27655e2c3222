/-
  The parser ends: for every text there is enough fuel. No program.
-/
import Derived.Test.YtkomgidcgepknaaGreatDoorParP
import Derived.Test.YtkomgidcgepknaaGreatDoorTree
import Derived.Test.YtkomgidcgepknaaGreatDoorLexP
import Derived.Test.YtkomgidcgepknaaGreatDoorNameP
import Derived.Lib.Strings
import Derived.Test.YtkomgidcgepknaaGreatDoorTrev
import Derived.Lib.ItoaNum
set_option linter.unusedVariables false
set_option linter.unusedSimpArgs false
namespace Go.Proofs.YtkomgidcgepknaaGreatDoor

theorem andL_someT {r : Option PR} {k : Int → List Tok → List Nod → Option PR} {v : PR} (h : andL r k = some v) : (∃ x, r = some (Except.error x) ∧ v = Except.error x) ∨ ∃ x, r = some (Except.ok x) ∧ k x.1 x.2.1 x.2.2 = some v := by
  unfold andL at h
  match r, h with
  | none, h => cases h
  | some (Except.error x), h => injection h with h; exact .inl ⟨x, rfl, h.symm⟩
  | some (Except.ok x), h => exact .inr ⟨x, rfl, h⟩
theorem andL_mono {r r' : Option PR} {k k' : Int → List Tok → List Nod → Option PR} {v : PR} (h : andL r k = some v) (hr : ∀ u, r = some u → r' = some u) (hk : ∀ a t o u, k a t o = some u → k' a t o = some u) : andL r' k' = some v := by
  rcases andL_someT h with ⟨x, h1, rfl⟩ | ⟨x, h1, h2⟩
  · rw [hr _ h1]; rfl
  · rw [hr _ h1]; exact hk _ _ _ _ h2
theorem parF_succ {z : Int} : ∀ {f : Nat} {j : Job} {v : PR}, parF z f j = some v → parF z (f + 1) j = some v
  | 0, j, v, h => by cases h
  | f + 1, j, v, h => by
    have ih : ∀ {j : Job} {v : PR}, parF z f j = some v → parF z (f + 1) j = some v := fun h => parF_succ h
    unfold parF at h ⊢
    split at h
    · rename_i h0
      rw [if_pos h0]
      split at h
      · rename_i h4
        rw [if_pos h4]
        split at h
        · rename_i hm
          rw [if_pos hm]
          exact ih h
        · rename_i hm
          rw [if_neg hm]
          exact andL_mono h (fun u hu => ih hu) fun a t o u hu => hu
      · rename_i h4
        rw [if_neg h4]
        exact andL_mono h (fun u hu => ih hu) fun a t o u hu => ih hu
    · rename_i h0
      rw [if_neg h0]
      split at h
      · rename_i h1
        rw [if_pos h1]
        cases htk : j.toks with
        | nil => rw [htk] at h; exact h
        | cons k rest =>
          rw [htk] at h
          dsimp only at h ⊢
          split at h
          · rename_i h2; rw [if_pos h2]; exact h
          · rename_i h2
            rw [if_neg h2]
            split at h
            · rename_i h3; rw [if_pos h3]; exact h
            · rename_i h3
              rw [if_neg h3]
              refine andL_mono h (fun u hu => ih hu) fun a t o u hu => ?_
              split at hu
              · rename_i h5; rw [if_pos h5]; exact hu
              · rename_i h5; rw [if_neg h5]; exact ih hu
      · rename_i h1
        rw [if_neg h1]
        split at h
        · rename_i h2
          rw [if_pos h2]
          split at h
          · rename_i h3
            rw [if_pos h3]
            exact andL_mono h (fun u hu => ih hu) fun a t o u hu => hu
          · rename_i h3
            rw [if_neg h3]
            cases htk : j.toks with
            | nil => rw [htk] at h; exact h
            | cons k rest =>
              rw [htk] at h
              dsimp only at h ⊢
              split at h
              · rename_i h4; rw [if_pos h4]; exact h
              · rename_i h4
                rw [if_neg h4]
                split at h
                · rename_i h5; rw [if_pos h5]; exact h
                · rename_i h5
                  rw [if_neg h5]
                  split at h
                  · rename_i h6; rw [if_pos h6]; exact h
                  · rename_i h6
                    rw [if_neg h6]
                    split at h
                    · rename_i h7; rw [if_pos h7]; exact h
                    · rename_i h7
                      rw [if_neg h7]
                      split at h
                      · rename_i h8; rw [if_pos h8]; exact h
                      · rename_i h8; rw [if_neg h8]; exact ih h
        · rename_i h2
          rw [if_neg h2]
          split at h
          · rename_i h3
            rw [if_pos h3]
            by_cases h4 : seesL j.toks 0 (if j.i = 0 then lpar else comma) = true
            · rw [if_pos h4] at h ⊢
              exact andL_mono h (fun u hu => ih hu) fun a t o u hu => ih hu
            · rw [if_neg h4] at h ⊢
              exact h
          · rename_i h3
            rw [if_neg h3]
            exact h
theorem parF_mono {z : Int} {f : Nat} {j : Job} {v : PR} (h : parF z f j = some v) : ∀ g, f ≤ g → parF z g j = some v
  | 0, hg => by
    obtain rfl : f = 0 := by omega
    exact h
  | g + 1, hg => by
    by_cases he : f = g + 1
    · rw [← he]; exact h
    · exact parF_succ (parF_mono h g (by omega))
theorem parF_same {z : Int} {f g : Nat} {j : Job} {u v : PR} (h : parF z f j = some u) (h' : parF z g j = some v) : u = v := by
  have h1 := parF_mono h (max f g) (by omega)
  have h2 := parF_mono h' (max f g) (by omega)
  rw [h1] at h2
  exact Option.some.inj h2

/-! ### Enough fuel -/
def okJob (j : Job) : Prop := (j.tag = 0 ∧ 1 ≤ j.least ∧ j.least ≤ 4) ∨ (j.tag = 1 ∧ 1 ≤ j.least ∧ j.least ≤ 3) ∨ j.tag = 2 ∨ j.tag = 3
def rankJ (j : Job) : Nat := if j.tag = 0 then 10 - j.least else if j.tag = 1 then 1 else if j.tag = 2 then 5 else 1
def measJ (j : Job) : Nat := j.toks.length * 16 + rankJ j
/-- What is left is not more than there was. -/
def lessR (n : Nat) : PR → Prop
  | Except.error _ => True
  | Except.ok x => x.2.1.length ≤ n
theorem sees_cons {toks : List Tok} {t : ByteArray} (h : seesL toks 0 t = true) : ∃ k rest, toks = k :: rest := by
  unfold seesL at h
  cases toks with
  | nil => cases h
  | cons k rest => exact ⟨k, rest, rfl⟩
theorem fail_less (z : Int) (toks : List Tok) (e : Int) (n : Nat) : lessR n (failL z toks e) := by
  unfold failL
  cases toks <;> exact trivial
theorem andL_run {z : Int} {f : Nat} {j : Job} {u : PR} (hf : parF z f j = some u) (n : Nat) (k : Nat → Int → List Tok → List Nod → Option PR)
    (hk : ∀ a t o, u = PR.ok a t o → ∃ g r, (∀ g', g ≤ g' → k g' a t o = some r) ∧ lessR n r) : ∃ g r, (∀ g', g ≤ g' → andL (parF z g' j) (k g') = some r) ∧ lessR n r := by
  match u, hf, hk with
  | Except.error x, hf, _ => exact ⟨f, Except.error x, fun g' hg => by rw [parF_mono hf g' hg]; rfl, trivial⟩
  | Except.ok (a, t, o), hf, hk =>
    obtain ⟨g, r, h1, h2⟩ := hk a t o rfl
    exact ⟨max f g, r, fun g' hg => by rw [parF_mono hf g' (by omega)]; exact h1 g' (by omega), h2⟩
theorem par_total (z : Int) : ∀ (m : Nat) (j : Job), okJob j → measJ j ≤ m → ∃ f r, (∀ g, f ≤ g → parF z g j = some r) ∧ lessR j.toks.length r
  | m, j, hj, hm => by
    induction m using Nat.strongRecOn generalizing j with
    | _ m IH =>
      have sub : ∀ j' : Job, okJob j' → measJ j' < measJ j → ∃ f r, (∀ g, f ≤ g → parF z g j' = some r) ∧ lessR j'.toks.length r := fun j' h1 h2 => IH (measJ j') (by omega) j' h1 (Nat.le_refl _)
      -- it is enough to run one step
      suffices h : ∃ f r, (∀ g, f ≤ g → parF z (g + 1) j = some r) ∧ lessR j.toks.length r by
        obtain ⟨f, r, h1, h2⟩ := h
        refine ⟨f + 1, r, fun g hg => ?_, h2⟩
        obtain ⟨g', rfl⟩ : ∃ g', g = g' + 1 := ⟨g - 1, by omega⟩
        exact h1 g' (by omega)
      rcases hj with ⟨h0, hl1, hl2⟩ | ⟨h0, hl1, hl2⟩ | h0 | h0
      · have hrk : rankJ j = 10 - j.least := by unfold rankJ; rw [if_pos h0]
        by_cases h4 : j.least = 4
        · by_cases hs : seesL j.toks 0 minus = false
          · obtain ⟨f, r, h1, h2⟩ := sub (jPrimary j.toks j.out) (.inr (.inr (.inl rfl))) (by
              have : rankJ (jPrimary j.toks j.out) = 5 := rfl
              unfold measJ
              rw [this, hrk]
              show j.toks.length * 16 + 5 < _
              omega)
            refine ⟨f, r, fun g hg => ?_, h2⟩
            unfold parF
            rw [if_pos h0, if_pos h4, if_pos hs]
            exact h1 g hg
          · obtain ⟨k, rest, ht⟩ := sees_cons (by simpa using hs)
            obtain ⟨f, r, h1, h2⟩ := sub (jLevel 4 j.toks.tail j.out) (.inl ⟨rfl, by show 1 ≤ 4; omega, by show 4 ≤ 4; omega⟩) (by
              have : rankJ (jLevel 4 j.toks.tail j.out) = 6 := rfl
              unfold measJ
              rw [this]
              show j.toks.tail.length * 16 + 6 < _
              rw [ht]
              simp
              omega)
            obtain ⟨g0, r0, e1, e2⟩ := andL_run (h1 f (Nat.le_refl _)) j.toks.length (fun _ a t o => some (putL t o ⟨12, 0, ByteArray.empty, [a]⟩)) (fun a t o hu => by
              subst hu
              refine ⟨0, _, fun _ _ => rfl, ?_⟩
              have : t.length ≤ j.toks.tail.length := h2
              show t.length ≤ _
              rw [List.length_tail] at this
              omega)
            refine ⟨g0, r0, fun g hg => ?_, e2⟩
            unfold parF
            rw [if_pos h0, if_pos h4, if_neg hs]
            exact e1 g hg
        · obtain ⟨f, r, h1, h2⟩ := sub (jLevel (j.least + 1) j.toks j.out) (.inl ⟨rfl, by show 1 ≤ j.least + 1; omega, by show j.least + 1 ≤ 4; omega⟩) (by
            have : rankJ (jLevel (j.least + 1) j.toks j.out) = 10 - (j.least + 1) := rfl
            unfold measJ
            rw [this, hrk]
            show j.toks.length * 16 + _ < _
            omega)
          obtain ⟨g0, r0, e1, e2⟩ := andL_run (h1 f (Nat.le_refl _)) j.toks.length (fun g a t o => parF z g (jLoop j.least a t o)) (fun a t o hu => by
            subst hu
            have ht : t.length ≤ j.toks.length := h2
            obtain ⟨f', r', k1, k2⟩ := sub (jLoop j.least a t o) (.inr (.inl ⟨rfl, hl1, by show j.least ≤ 3; omega⟩)) (by
              have : rankJ (jLoop j.least a t o) = 1 := rfl
              unfold measJ
              rw [this, hrk]
              show t.length * 16 + 1 < _
              omega)
            refine ⟨f', r', k1, ?_⟩
            match r', k2 with
            | Except.error _, _ => exact trivial
            | Except.ok x, k2 =>
              have : x.2.1.length ≤ t.length := k2
              show x.2.1.length ≤ _
              omega)
          refine ⟨g0, r0, fun g hg => ?_, e2⟩
          unfold parF
          rw [if_pos h0, if_neg h4]
          exact e1 g hg
      · have hn0 : ¬ j.tag = 0 := by omega
        cases htk : j.toks with
        | nil =>
          refine ⟨0, PR.ok j.a [] j.out, fun g _ => ?_, Nat.le_refl _⟩
          unfold parF
          rw [if_neg hn0, if_pos h0, htk]
        | cons k rest =>
          by_cases h2 : k.kind ≠ 4
          · refine ⟨0, PR.ok j.a j.toks j.out, fun g _ => ?_, by rw [htk]; exact Nat.le_refl _⟩
            unfold parF
            rw [if_neg hn0, if_pos h0]
            simp only [htk]
            rw [if_pos h2]
          · by_cases h3 : infixOp k.text = 0 ∨ strength (infixOp k.text) ≠ j.least
            · refine ⟨0, PR.ok j.a j.toks j.out, fun g _ => ?_, by rw [htk]; exact Nat.le_refl _⟩
              unfold parF
              rw [if_neg hn0, if_pos h0]
              simp only [htk]
              rw [if_neg h2, if_pos h3]
            · obtain ⟨f, r, h1, hl⟩ := sub (jLevel (j.least + 1) rest j.out) (.inl ⟨rfl, by show 1 ≤ j.least + 1; omega, by show j.least + 1 ≤ 4; omega⟩) (by
                have : rankJ (jLevel (j.least + 1) rest j.out) = 10 - (j.least + 1) := rfl
                unfold measJ
                rw [this, htk]
                show rest.length * 16 + _ < _
                rw [List.length_cons]
                omega)
              obtain ⟨g0, r0, e1, e2⟩ := andL_run (h1 f (Nat.le_refl _)) (k :: rest).length (fun g b t o => if j.least = 1 then some (putL t o ⟨infixOp k.text, 0, ByteArray.empty, [j.a, b]⟩) else parF z g (jLoop j.least o.length t (o ++ [⟨infixOp k.text, 0, ByteArray.empty, [j.a, b]⟩]))) (fun b t o hu => by
                subst hu
                have ht : t.length ≤ rest.length := hl
                by_cases h5 : j.least = 1
                · refine ⟨0, putL t o ⟨infixOp k.text, 0, ByteArray.empty, [j.a, b]⟩, fun _ _ => by rw [if_pos h5], ?_⟩
                  show t.length ≤ (k :: rest).length
                  rw [List.length_cons]
                  omega
                · obtain ⟨f', r', k1, k2⟩ := sub (jLoop j.least o.length t (o ++ [⟨infixOp k.text, 0, ByteArray.empty, [j.a, b]⟩])) (.inr (.inl ⟨rfl, hl1, hl2⟩)) (by
                    have : rankJ (jLoop j.least o.length t (o ++ [⟨infixOp k.text, 0, ByteArray.empty, [j.a, b]⟩])) = 1 := rfl
                    unfold measJ
                    rw [this, htk]
                    show t.length * 16 + 1 < _
                    rw [List.length_cons]
                    omega)
                  refine ⟨f', r', fun g hg => by rw [if_neg h5]; exact k1 g hg, ?_⟩
                  match r', k2 with
                  | Except.error _, _ => exact trivial
                  | Except.ok x, k2 =>
                    have : x.2.1.length ≤ t.length := k2
                    show x.2.1.length ≤ (k :: rest).length
                    rw [List.length_cons]
                    omega)
              refine ⟨g0, r0, fun g hg => ?_, e2⟩
              unfold parF
              rw [if_neg hn0, if_pos h0]
              simp only [htk]
              rw [if_neg h2, if_neg h3]
              exact e1 g hg
      · have hn0 : ¬ j.tag = 0 := by omega
        have hn1 : ¬ j.tag = 1 := by omega
        by_cases hs : seesL j.toks 0 lpar = true
        · obtain ⟨k, rest, ht⟩ := sees_cons hs
          obtain ⟨f, r, h1, hl⟩ := sub (jLevel 1 j.toks.tail j.out) (.inl ⟨rfl, by show 1 ≤ 1; omega, by show 1 ≤ 4; omega⟩) (by
            have : rankJ (jLevel 1 j.toks.tail j.out) = 9 := rfl
            unfold measJ
            rw [this]
            show j.toks.tail.length * 16 + 9 < _
            rw [ht]
            simp
            omega)
          obtain ⟨g0, r0, e1, e2⟩ := andL_run (h1 f (Nat.le_refl _)) j.toks.length (fun _ a t o => if seesL t 0 rpar = true then some (PR.ok a t.tail o) else some (failL z t 5)) (fun a t o hu => by
            subst hu
            have ht2 : t.length ≤ j.toks.tail.length := hl
            rw [List.length_tail] at ht2
            by_cases h5 : seesL t 0 rpar = true
            · refine ⟨0, PR.ok a t.tail o, fun _ _ => by rw [if_pos h5], ?_⟩
              show t.tail.length ≤ _
              rw [List.length_tail]
              omega
            · exact ⟨0, failL z t 5, fun _ _ => by rw [if_neg h5], fail_less _ _ _ _⟩)
          refine ⟨g0, r0, fun g hg => ?_, e2⟩
          unfold parF
          rw [if_neg hn0, if_neg hn1, if_pos h0, if_pos hs]
          exact e1 g hg
        · cases htk : j.toks with
          | nil =>
            refine ⟨0, failL z [] 5, fun g _ => ?_, fail_less _ _ _ _⟩
            unfold parF
            rw [if_neg hn0, if_neg hn1, if_pos h0, if_neg hs, htk]
          | cons k rest =>
            have hun : ∀ g, parF z (g + 1) j = (if k.kind ≠ 2 ∧ k.kind ≠ 1 then some (failL z j.toks 5)
                else if k.kind = 2 ∧ 1000000 < k.n then some (failL z j.toks 9)
                else if k.kind = 2 then some (putL rest j.out ⟨1, k.n, ByteArray.empty, []⟩)
                else if funcOp k.text = 0 ∧ seesL j.toks 1 lpar = true then some (failL z j.toks 7)
                else if funcOp k.text = 0 then some (putL rest j.out ⟨2, 0, k.text, []⟩)
                else parF z g (jArgs (funcOp k.text) 0 [] rest j.out)) := fun g => by
              conv => lhs; unfold parF
              rw [if_neg hn0, if_neg hn1, if_pos h0, if_neg hs]
              simp only [htk]
            by_cases c1 : k.kind ≠ 2 ∧ k.kind ≠ 1
            · exact ⟨0, _, fun g _ => by rw [hun, if_pos c1], fail_less _ _ _ _⟩
            · by_cases c2 : k.kind = 2 ∧ 1000000 < k.n
              · exact ⟨0, _, fun g _ => by rw [hun, if_neg c1, if_pos c2], fail_less _ _ _ _⟩
              · by_cases c3 : k.kind = 2
                · exact ⟨0, _, fun g _ => by rw [hun, if_neg c1, if_neg c2, if_pos c3], by show rest.length ≤ _; rw [List.length_cons]; omega⟩
                · by_cases c4 : funcOp k.text = 0 ∧ seesL j.toks 1 lpar = true
                  · exact ⟨0, _, fun g _ => by rw [hun, if_neg c1, if_neg c2, if_neg c3, if_pos c4], fail_less _ _ _ _⟩
                  · by_cases c5 : funcOp k.text = 0
                    · exact ⟨0, _, fun g _ => by rw [hun, if_neg c1, if_neg c2, if_neg c3, if_neg c4, if_pos c5], by show rest.length ≤ _; rw [List.length_cons]; omega⟩
                    · obtain ⟨f', r', k1, k2⟩ := sub (jArgs (funcOp k.text) 0 [] rest j.out) (.inr (.inr (.inr rfl))) (by
                        have : rankJ (jArgs (funcOp k.text) 0 [] rest j.out) = 1 := rfl
                        unfold measJ
                        rw [this, htk]
                        show rest.length * 16 + 1 < _
                        rw [List.length_cons]
                        omega)
                      refine ⟨f', r', fun g hg => by rw [hun, if_neg c1, if_neg c2, if_neg c3, if_neg c4, if_neg c5]; exact k1 g hg, ?_⟩
                      match r', k2 with
                      | Except.error _, _ => exact trivial
                      | Except.ok x, k2 =>
                        have : x.2.1.length ≤ rest.length := k2
                        show x.2.1.length ≤ (k :: rest).length
                        rw [List.length_cons]
                        omega
      · have hn0 : ¬ j.tag = 0 := by omega
        have hn1 : ¬ j.tag = 1 := by omega
        have hn2 : ¬ j.tag = 2 := by omega
        by_cases hi : (j.i : Int) < operands j.a
        · by_cases hs : seesL j.toks 0 (if j.i = 0 then lpar else comma) = true
          · obtain ⟨k, rest, ht⟩ := sees_cons hs
            obtain ⟨f, r, h1, hl⟩ := sub (jLevel 1 j.toks.tail j.out) (.inl ⟨rfl, by show 1 ≤ 1; omega, by show 1 ≤ 4; omega⟩) (by
              have : rankJ (jLevel 1 j.toks.tail j.out) = 9 := rfl
              unfold measJ
              rw [this]
              show j.toks.tail.length * 16 + 9 < _
              rw [ht]
              simp
              omega)
            obtain ⟨g0, r0, e1, e2⟩ := andL_run (h1 f (Nat.le_refl _)) j.toks.length (fun g a t o => parF z g (jArgs j.a (j.i + 1) (j.kids ++ [a]) t o)) (fun a t o hu => by
              subst hu
              have ht2 : t.length ≤ j.toks.tail.length := hl
              have hlen : j.toks.tail.length + 1 = j.toks.length := by rw [ht]; rfl
              obtain ⟨f', r', k1, k2⟩ := sub (jArgs j.a (j.i + 1) (j.kids ++ [a]) t o) (.inr (.inr (.inr rfl))) (by
                have : rankJ (jArgs j.a (j.i + 1) (j.kids ++ [a]) t o) = 1 := rfl
                unfold measJ
                rw [this]
                show t.length * 16 + 1 < _
                omega)
              refine ⟨f', r', k1, ?_⟩
              match r', k2 with
              | Except.error _, _ => exact trivial
              | Except.ok x, k2 =>
                have : x.2.1.length ≤ t.length := k2
                show x.2.1.length ≤ _
                omega)
            refine ⟨g0, r0, fun g hg => ?_, e2⟩
            unfold parF
            rw [if_neg hn0, if_neg hn1, if_neg hn2, if_pos hi, if_pos hs]
            exact e1 g hg
          · refine ⟨0, failL z j.toks 5, fun g _ => ?_, fail_less _ _ _ _⟩
            unfold parF
            rw [if_neg hn0, if_neg hn1, if_neg hn2, if_pos hi, if_neg hs]
        · by_cases hs : seesL j.toks 0 rpar = true
          · refine ⟨0, putL j.toks.tail j.out ⟨j.a, 0, ByteArray.empty, j.kids⟩, fun g _ => ?_, ?_⟩
            · unfold parF
              rw [if_neg hn0, if_neg hn1, if_neg hn2, if_neg hi, if_pos hs]
            · show j.toks.tail.length ≤ _
              rw [List.length_tail]
              omega
          · refine ⟨0, failL z j.toks 5, fun g _ => ?_, fail_less _ _ _ _⟩
            unfold parF
            rw [if_neg hn0, if_neg hn1, if_neg hn2, if_neg hi, if_neg hs]
/-- There is enough fuel for a whole text. -/
theorem par_whole (z : Int) (toks : List Tok) : ∃ f res, parF z f (jLevel 1 toks []) = some res := by
  obtain ⟨f, r, h, _⟩ := par_total z (measJ (jLevel 1 toks [])) (jLevel 1 toks []) (.inl ⟨rfl, by show 1 ≤ 1; omega, by show 1 ≤ 4; omega⟩) (Nat.le_refl _)
  exact ⟨f, r, h f (Nat.le_refl _)⟩
end Go.Proofs.YtkomgidcgepknaaGreatDoor

/-
  The parser reads what a tree is written as. No program.
-/
set_option linter.unusedVariables false
set_option linter.unusedSimpArgs false
namespace Go.Proofs.YtkomgidcgepknaaGreatDoor

/-- The parser comes to v. -/
def Run (z : Int) (j : Job) (v : PR) : Prop := ∃ f, parF z f j = some v
/-- A token without its offset; of a number only what it is. -/
def er (t : Tok) : Int × ByteArray × Int := (t.kind, if t.kind = 2 then ByteArray.empty else t.text, t.n)
def symE (t : ByteArray) : Int × ByteArray × Int := (4, t, 0)
def infixT (op : Int) : ByteArray := if op = 10 then ⟨#[60]⟩ else if op = 11 then ⟨#[61, 61]⟩ else if op = 3 then ⟨#[43]⟩ else if op = 4 then ⟨#[45]⟩ else if op = 5 then ⟨#[42]⟩ else ⟨#[47]⟩
def funcT (op : Int) : ByteArray := if op = 7 then ⟨#[109, 105, 110]⟩ else if op = 8 then ⟨#[109, 97, 120]⟩ else ⟨#[105, 102]⟩
def paren (own least : Nat) (l : List (Int × ByteArray × Int)) : List (Int × ByteArray × Int) := if own < least then symE lpar :: (l ++ [symE rpar]) else l
def ownB (op : Int) : Nat := if op = 10 ∨ op = 11 then 1 else if op = 3 ∨ op = 4 then 2 else if op = 5 ∨ op = 6 then 3 else 5
def Tr.own : Tr → Nat
  | .leaf _ => 5
  | .un _ => 4
  | .bin op _ _ => ownB op
  | .cond _ _ _ => 5
/-- The tokens of a tree, in parentheses where it binds less strongly than it has to. -/
def Tr.toks : Tr → Nat → List (Int × ByteArray × Int)
  | .leaf x, m => paren 5 m (if x.op = 1 then [(2, ByteArray.empty, x.n)] else [(1, x.name, 0)])
  | .un a, m => paren 4 m (symE minus :: a.toks 4)
  | .bin op a b, m => paren (ownB op) m (if ownB op = 5 then (1, funcT op, 0) :: symE lpar :: (a.toks 1 ++ symE comma :: (b.toks 1 ++ [symE rpar]))
    else if ownB op = 1 then a.toks 2 ++ symE (infixT op) :: b.toks 2 else a.toks (ownB op) ++ symE (infixT op) :: b.toks (ownB op + 1))
  | .cond a b c, m => paren 5 m ((1, funcT 9, 0) :: symE lpar :: (a.toks 1 ++ symE comma :: (b.toks 1 ++ symE comma :: (c.toks 1 ++ [symE rpar]))))

/-! ### Steps of the parser -/
theorem run_up {z : Int} {l : Nat} {toks : List Tok} {out : List Nod} {a : Int} {t : List Tok} {o : List Nod} {v : PR} (hl : l < 4) (h1 : Run z (jLevel (l + 1) toks out) (PR.ok a t o)) (h2 : Run z (jLoop l a t o) v) : Run z (jLevel l toks out) v := by
  obtain ⟨f, h1⟩ := h1
  obtain ⟨g, h2⟩ := h2
  refine ⟨max f g + 1, ?_⟩
  unfold parF
  show (if l = 4 then _ else andL (parF z (max f g) (jLevel (l + 1) toks out)) fun a t o => parF z (max f g) (jLoop l a t o)) = _
  rw [if_neg (by omega), parF_mono h1 _ (by omega)]
  exact parF_mono h2 _ (by omega)
theorem run_prim {z : Int} {toks : List Tok} {out : List Nod} {v : PR} (hm : seesL toks 0 minus = false) (h : Run z (jPrimary toks out) v) : Run z (jLevel 4 toks out) v := by
  obtain ⟨f, h⟩ := h
  refine ⟨f + 1, ?_⟩
  unfold parF
  show (if seesL toks 0 minus = false then parF z f (jPrimary toks out) else _) = _
  rw [if_pos hm]
  exact h
theorem run_neg {z : Int} {k : Tok} {rest : List Tok} {out : List Nod} {a : Int} {t : List Tok} {o : List Nod} (hm : seesL (k :: rest) 0 minus = true) (h : Run z (jLevel 4 rest out) (PR.ok a t o)) :
    Run z (jLevel 4 (k :: rest) out) (putL t o ⟨12, 0, ByteArray.empty, [a]⟩) := by
  obtain ⟨f, h⟩ := h
  refine ⟨f + 1, ?_⟩
  unfold parF
  show (if seesL (k :: rest) 0 minus = false then _ else andL (parF z f (jLevel 4 rest out)) fun a t o => some (putL t o ⟨12, 0, ByteArray.empty, [a]⟩)) = _
  rw [hm, if_neg (by decide), h]
  rfl
/-- What follows lets the loops of the levels above m stop. -/
def stopL (m : Nat) : List Tok → Prop
  | [] => True
  | k :: _ => k.kind = 4 ∧ k.text ≠ lpar ∧ (infixOp k.text = 0 ∨ strength (infixOp k.text) ≤ m)
theorem stopL.mono {m n : Nat} {toks : List Tok} (h : stopL m toks) (hmn : m ≤ n) : stopL n toks := by
  cases toks with
  | nil => exact trivial
  | cons k _ => exact ⟨h.1, h.2.1, h.2.2.elim .inl fun h => .inr (by omega)⟩
theorem loop_stop {z : Int} {l m : Nat} {a : Int} {toks : List Tok} {out : List Nod} (h : stopL m toks) (hl : m < l) : Run z (jLoop l a toks out) (PR.ok a toks out) := by
  refine ⟨1, ?_⟩
  unfold parF
  cases toks with
  | nil => rfl
  | cons k rest =>
    show (if k.kind ≠ 4 then some (PR.ok a (k :: rest) out) else if infixOp k.text = 0 ∨ strength (infixOp k.text) ≠ (l : Int) then some (PR.ok a (k :: rest) out) else _) = _
    rw [if_neg (fun hk => hk h.1), if_pos (h.2.2.elim .inl fun h => .inr (by omega))]
theorem loop_go {z : Int} {l : Nat} {a b : Int} {k : Tok} {rest t : List Tok} {out o : List Nod} {v : PR} (hk : k.kind = 4) (h0 : infixOp k.text ≠ 0) (hs : strength (infixOp k.text) = l) (hl : l ≠ 1)
    (h1 : Run z (jLevel (l + 1) rest out) (PR.ok b t o)) (h2 : Run z (jLoop l o.length t (o ++ [⟨infixOp k.text, 0, ByteArray.empty, [a, b]⟩])) v) : Run z (jLoop l a (k :: rest) out) v := by
  obtain ⟨f, h1⟩ := h1
  obtain ⟨g, h2⟩ := h2
  refine ⟨max f g + 1, ?_⟩
  unfold parF
  show (if k.kind ≠ 4 then _ else if infixOp k.text = 0 ∨ strength (infixOp k.text) ≠ (l : Int) then _ else andL (parF z (max f g) (jLevel (l + 1) rest out)) fun b t o =>
    if l = 1 then some (putL t o ⟨infixOp k.text, 0, ByteArray.empty, [a, b]⟩) else parF z (max f g) (jLoop l o.length t (o ++ [⟨infixOp k.text, 0, ByteArray.empty, [a, b]⟩]))) = _
  rw [if_neg (fun h => h hk), if_neg (fun h => h.elim h0 fun h => h hs), parF_mono h1 _ (by omega)]
  show (if l = 1 then _ else parF z (max f g) (jLoop l o.length t (o ++ [⟨infixOp k.text, 0, ByteArray.empty, [a, b]⟩]))) = _
  rw [if_neg hl]
  exact parF_mono h2 _ (by omega)
theorem loop_weak {z : Int} {a b : Int} {k : Tok} {rest t : List Tok} {out o : List Nod} (hk : k.kind = 4) (h0 : infixOp k.text ≠ 0) (hs : strength (infixOp k.text) = 1)
    (h1 : Run z (jLevel 2 rest out) (PR.ok b t o)) : Run z (jLoop 1 a (k :: rest) out) (putL t o ⟨infixOp k.text, 0, ByteArray.empty, [a, b]⟩) := by
  obtain ⟨f, h1⟩ := h1
  refine ⟨f + 1, ?_⟩
  unfold parF
  show (if k.kind ≠ 4 then _ else if infixOp k.text = 0 ∨ strength (infixOp k.text) ≠ ((1 : Nat) : Int) then _ else andL (parF z f (jLevel 2 rest out)) fun b t o =>
    some (putL t o ⟨infixOp k.text, 0, ByteArray.empty, [a, b]⟩)) = _
  rw [if_neg (fun h => h hk), if_neg (fun h => h.elim h0 fun h => h hs), h1]
  rfl
theorem rprim_par {z : Int} {k r : Tok} {rest t : List Tok} {out o : List Nod} {a : Int} (hk : seesL (k :: rest) 0 lpar = true) (hr : seesL (r :: t) 0 rpar = true) (h : Run z (jLevel 1 rest out) (PR.ok a (r :: t) o)) : Run z (jPrimary (k :: rest) out) (PR.ok a t o) := by
  obtain ⟨f, h⟩ := h
  refine ⟨f + 1, ?_⟩
  unfold parF
  show (if seesL (k :: rest) 0 lpar = true then andL (parF z f (jLevel 1 rest out)) fun a t o => if seesL t 0 rpar = true then some (PR.ok a t.tail o) else some (failL z t 5) else _) = _
  rw [if_pos hk, h]
  show (if seesL (r :: t) 0 rpar = true then some (PR.ok a t o) else _) = _
  rw [if_pos hr]
theorem rprim_num {z : Int} {k : Tok} {rest : List Tok} {out : List Nod} (hk : k.kind = 2) (hn : k.n ≤ 1000000) : Run z (jPrimary (k :: rest) out) (putL rest out ⟨1, k.n, ByteArray.empty, []⟩) := by
  refine ⟨1, ?_⟩
  unfold parF
  have hs : seesL (k :: rest) 0 lpar = false := by
    unfold seesL
    show (k.kind == 4 && _) = false
    rw [hk]; rfl
  show (if seesL (k :: rest) 0 lpar = true then _ else if k.kind ≠ 2 ∧ k.kind ≠ 1 then _ else if k.kind = 2 ∧ 1000000 < k.n then _ else if k.kind = 2 then some (putL rest out ⟨1, k.n, ByteArray.empty, []⟩) else _) = _
  rw [hs, if_neg (by decide), if_neg (fun h => h.1 hk), if_neg (fun h => by omega), if_pos hk]
theorem rprim_name {z : Int} {k : Tok} {rest : List Tok} {out : List Nod} (hk : k.kind = 1) (hf : funcOp k.text = 0) (hr : seesL rest 0 lpar = false) : Run z (jPrimary (k :: rest) out) (putL rest out ⟨2, 0, k.text, []⟩) := by
  refine ⟨1, ?_⟩
  unfold parF
  have hs : seesL (k :: rest) 0 lpar = false := by
    unfold seesL
    show (k.kind == 4 && _) = false
    rw [hk]; rfl
  have hs1 : seesL (k :: rest) 1 lpar = false := hr
  show (if seesL (k :: rest) 0 lpar = true then _ else if k.kind ≠ 2 ∧ k.kind ≠ 1 then _ else if k.kind = 2 ∧ 1000000 < k.n then _ else if k.kind = 2 then _
    else if funcOp k.text = 0 ∧ seesL (k :: rest) 1 lpar = true then _ else if funcOp k.text = 0 then some (putL rest out ⟨2, 0, k.text, []⟩) else _) = _
  rw [hs, if_neg (by decide), if_neg (fun h => h.2 hk), if_neg (fun h => by omega), if_neg (by omega), hs1, if_neg (fun h => by cases h.2), if_pos hf]
theorem prim_func {z : Int} {k : Tok} {rest : List Tok} {out : List Nod} {v : PR} (hk : k.kind = 1) (hf : funcOp k.text ≠ 0) (h : Run z (jArgs (funcOp k.text) 0 [] rest out) v) : Run z (jPrimary (k :: rest) out) v := by
  obtain ⟨f, h⟩ := h
  refine ⟨f + 1, ?_⟩
  unfold parF
  have hs : seesL (k :: rest) 0 lpar = false := by
    unfold seesL
    show (k.kind == 4 && _) = false
    rw [hk]; rfl
  show (if seesL (k :: rest) 0 lpar = true then _ else if k.kind ≠ 2 ∧ k.kind ≠ 1 then _ else if k.kind = 2 ∧ 1000000 < k.n then _ else if k.kind = 2 then _
    else if funcOp k.text = 0 ∧ seesL (k :: rest) 1 lpar = true then _ else if funcOp k.text = 0 then _ else parF z f (jArgs (funcOp k.text) 0 [] rest out)) = _
  rw [hs, if_neg (by decide), if_neg (fun h => h.2 hk), if_neg (fun h => by omega), if_neg (by omega), if_neg (fun h => hf h.1), if_neg hf]
  exact h
theorem args_go {z op : Int} {i : Nat} {kids : List Int} {k : Tok} {rest t : List Tok} {out o : List Nod} {a : Int} {v : PR} (hi : (i : Int) < operands op) (hk : seesL (k :: rest) 0 (if i = 0 then lpar else comma) = true)
    (h1 : Run z (jLevel 1 rest out) (PR.ok a t o)) (h2 : Run z (jArgs op (i + 1) (kids ++ [a]) t o) v) : Run z (jArgs op i kids (k :: rest) out) v := by
  obtain ⟨f, h1⟩ := h1
  obtain ⟨g, h2⟩ := h2
  refine ⟨max f g + 1, ?_⟩
  unfold parF
  show (if (i : Int) < operands op then (if seesL (k :: rest) 0 (if i = 0 then lpar else comma) = true then andL (parF z (max f g) (jLevel 1 rest out)) fun a t o => parF z (max f g) (jArgs op (i + 1) (kids ++ [a]) t o) else _) else _) = _
  rw [if_pos hi, if_pos hk, parF_mono h1 _ (by omega)]
  exact parF_mono h2 _ (by omega)
theorem args_end {z op : Int} {i : Nat} {kids : List Int} {k : Tok} {rest : List Tok} {out : List Nod} (hi : ¬ (i : Int) < operands op) (hk : seesL (k :: rest) 0 rpar = true) : Run z (jArgs op i kids (k :: rest) out) (putL rest out ⟨op, 0, ByteArray.empty, kids⟩) := by
  refine ⟨1, ?_⟩
  unfold parF
  show (if (i : Int) < operands op then _ else if seesL (k :: rest) 0 rpar = true then some (putL rest out ⟨op, 0, ByteArray.empty, kids⟩) else _) = _
  rw [if_neg hi, if_pos hk]
end Go.Proofs.YtkomgidcgepknaaGreatDoor

/-
  The lexer on a text that is put together of tokens with gaps behind them. No program.
-/
set_option linter.unusedVariables false
set_option linter.unusedSimpArgs false
namespace Go.Proofs.YtkomgidcgepknaaGreatDoor

/-- From the offset i on the text is l. -/
def Suf (s : ByteArray) (i : Nat) (l : List UInt8) : Prop := i ≤ s.size ∧ s.data.toList.drop i = l
section
variable {s : ByteArray} {i : Nat} {l p r : List UInt8}
theorem Suf.size (h : Suf s i l) : i + l.length = s.size := by
  have h1 := congrArg List.length h.2
  rw [List.length_drop] at h1
  have e : s.data.toList.length = s.size := Array.length_toList
  have := h.1
  omega
theorem Suf.cut (h : Suf s i (p ++ r)) : Suf s (i + p.length) r := by
  have hs := h.size
  rw [List.length_append] at hs
  refine ⟨by omega, ?_⟩
  rw [← List.drop_drop, h.2, List.drop_left]
theorem Suf.byte (h : Suf s i l) {j : Nat} {c : UInt8} (hj : l[j]? = some c) : i + j < s.size ∧ bAt s (i + j) = c.toNat := by
  have hs := h.size
  have hl : j < l.length := (List.getElem?_eq_some_iff.1 hj).1
  have hlt : i + j < s.size := by omega
  refine ⟨hlt, ?_⟩
  rw [bAt_eq hlt]
  have h1 : s.data.toList[i + j]? = some c := by rw [← hj, ← h.2, List.getElem?_drop]
  have h2 : s.data.toList[i + j]? = some s[i + j] := by
    rw [Array.getElem?_toList]
    exact Array.getElem?_eq_getElem hlt
  rw [h2] at h1
  injection h1 with h1
  rw [h1]
theorem Suf.cls (h : Suf s i l) {j : Nat} {c : UInt8} (hj : l[j]? = some c) : atC s (i + j) = cls c.toNat := by
  obtain ⟨h1, h2⟩ := h.byte hj
  unfold atC
  rw [if_pos h1, h2]
theorem Suf.done (h : Suf s i []) : ¬ i < s.size := by have := h.size; simp at this; omega
theorem Suf.text (h : Suf s i (p ++ r)) : s.extract i (i + p.length) = ⟨p.toArray⟩ := by
  rw [Go.Lib.extract_eq, h.2, Nat.add_sub_cancel_left, List.take_left]
theorem Suf.whole (l : List UInt8) : Suf ⟨l.toArray⟩ 0 l := ⟨Nat.zero_le _, by simp⟩
end
/-- No letter, digit or '_' follows. -/
def bdry (r : List UInt8) : Prop := ∀ c, r[0]? = some c → cls c.toNat ≠ 3 ∧ cls c.toNat ≠ 4 ∧ cls c.toNat ≠ 5
theorem word_cls {c : Nat} (h : isWord c = true) : cls c = 3 ∨ cls c = 4 ∨ cls c = 5 := by
  unfold isWord at h
  rw [Bool.or_eq_true, Bool.or_eq_true] at h
  unfold cls
  by_cases h1 : isLetter c = true
  · rw [if_pos h1]; exact .inl rfl
  · rw [if_neg h1]
    by_cases h2 : isDigit c = true
    · rw [if_pos h2]; exact .inr (.inl rfl)
    · rw [if_neg h2]
      have h3 : c = 95 := by
        rcases h with (h | h) | h
        · exact absurd h h1
        · exact absurd h h2
        · exact beq_iff_eq.1 h
      rw [if_pos h3]; exact .inr (.inr rfl)
theorem bdry_end {s : ByteArray} {e : Nat} {r : List UInt8} (h : Suf s e r) (hb : bdry r) : e < s.size → atC s e ≠ 3 ∧ atC s e ≠ 4 ∧ atC s e ≠ 5 := by
  intro hlt
  have hs := h.size
  obtain ⟨c, r', rfl⟩ : ∃ c r', r = c :: r' := by
    cases r with
    | nil => simp at hs; omega
    | cons c r' => exact ⟨c, r', rfl⟩
  have := h.cls (j := 0) (c := c) rfl
  rw [Nat.add_zero] at this
  rw [this]
  exact hb c rfl
theorem bAt_list {p : List UInt8} {j : Nat} {c : UInt8} (h : p[j]? = some c) : bAt ⟨p.toArray⟩ j = c.toNat := by
  have := ((Suf.whole p).byte h).2
  rwa [Nat.zero_add] at this
theorem next_name_T {s : ByteArray} {i : Nat} {p r : List UInt8} (h : Suf s i (p ++ r)) (hp : nameB ⟨p.toArray⟩ = true) (hr : bdry r) : nextT s i = (0, ⟨1, ⟨p.toArray⟩, 0, i⟩, i + p.length) := by
  unfold nameB at hp
  simp only [Bool.and_eq_true, decide_eq_true_eq] at hp
  obtain ⟨⟨⟨h1, h2⟩, h3⟩, h4⟩ := hp
  have hsz : (⟨p.toArray⟩ : ByteArray).size = p.length := by simp [ByteArray.size]
  rw [hsz] at h1 h2 h4
  have hs := h.size
  rw [List.length_append] at hs
  have hcut := h.cut
  have hbe := bdry_end hcut hr
  have hat : ∀ j, i ≤ j → j < i + p.length → atC s j = cls (bAt ⟨p.toArray⟩ (j - i)) := by
    intro j hj1 hj2
    have hg : (p ++ r)[j - i]? = some (p[j - i]'(by omega)) := by rw [List.getElem?_append_left (by omega), List.getElem?_eq_getElem (by omega)]
    have e := h.cls hg
    rw [show i + (j - i) = j from by omega] at e
    rw [e, bAt_list (c := p[j - i]'(by omega)) (List.getElem?_eq_getElem (by omega))]
  have hw : whileE s isWordC i = i + p.length := by
    refine whileE_eq (by omega) (by omega) (fun j hj1 hj2 => ?_) (fun hc => ?_)
    · rw [hat j hj1 hj2]
      have := List.all_eq_true.1 h4 (j - i) (List.mem_range.2 (by omega))
      rcases word_cls this with e | e | e <;> rw [e] <;> rfl
    · obtain ⟨e1, e2⟩ := hc
      obtain ⟨n3, n4, n5⟩ := hbe e1
      unfold isWordC inL at e2
      simp at e2
      omega
  have h0 : atC s i = 3 := by
    rw [hat i (Nat.le_refl _) (by omega), Nat.sub_self]
    unfold cls
    rw [if_pos h3]
  unfold nextT
  rw [if_pos h0, hw, if_neg (by omega), h.text]
/-- The number that digits stand for. -/
def numV (p : List UInt8) : Int := p.foldl (fun a c => a * 10 + ((c.toNat : Int) - 48)) 0
theorem numD_V {s : ByteArray} {i : Nat} {l : List UInt8} (h : Suf s i l) : ∀ k, k ≤ l.length → numD s i k = numV (l.take k)
  | 0, _ => rfl
  | k + 1, hk => by
    have hg : l[k]? = some (l[k]'(by omega)) := List.getElem?_eq_getElem (by omega)
    show numD s i k * 10 + ((bAt s (i + k) : Int) - 48) = _
    rw [numD_V h k (by omega), (h.byte hg).2, List.take_succ_eq_append_getElem (by omega)]
    unfold numV
    rw [List.foldl_append]
    rfl
theorem digit_cls {c : Nat} (h : isDigit c = true) : cls c = 4 := by
  unfold cls
  have h1 : ¬ isLetter c = true := by
    unfold isDigit at h
    unfold isLetter
    simp only [Bool.and_eq_true, decide_eq_true_eq, Bool.or_eq_true] at h ⊢
    omega
  rw [if_neg h1, if_pos h]
theorem next_num_T {s : ByteArray} {i : Nat} {p r : List UInt8} (h : Suf s i (p ++ r)) (hp : ∀ c ∈ p, isDigit c.toNat = true) (h1 : 1 ≤ p.length) (h2 : p.length ≤ 13) (hr : bdry r) : nextT s i = (0, ⟨2, ⟨p.toArray⟩, numV p, i⟩, i + p.length) := by
  have hs := h.size
  rw [List.length_append] at hs
  have hcut := h.cut
  have hbe := bdry_end hcut hr
  have hat : ∀ j, i ≤ j → j < i + p.length → atC s j = 4 := by
    intro j hj1 hj2
    have hg : (p ++ r)[j - i]? = some (p[j - i]'(by omega)) := by rw [List.getElem?_append_left (by omega), List.getElem?_eq_getElem (by omega)]
    have e := h.cls hg
    rw [show i + (j - i) = j from by omega] at e
    rw [e]
    exact digit_cls (hp _ (List.getElem_mem _))
  have hw : whileE s isDigC i = i + p.length := by
    refine whileE_eq (by omega) (by omega) (fun j hj1 hj2 => ?_) (fun hc => ?_)
    · rw [hat j hj1 hj2]; rfl
    · obtain ⟨e1, e2⟩ := hc
      obtain ⟨n3, n4, n5⟩ := hbe e1
      unfold isDigC inL at e2
      simp at e2
      omega
  have h0 : atC s i = 4 := hat i (Nat.le_refl _) (by omega)
  have hn : ¬ (13 < i + p.length - i ∨ atC s (i + p.length) = 3 ∨ atC s (i + p.length) = 5) := by
    intro hc
    rcases hc with hc | hc | hc
    · omega
    · by_cases he : i + p.length < s.size
      · exact (hbe he).1 hc
      · unfold atC at hc; rw [if_neg he] at hc; omega
    · by_cases he : i + p.length < s.size
      · exact (hbe he).2.2 hc
      · unfold atC at hc; rw [if_neg he] at hc; omega
  have hD := numD_V h p.length (by rw [List.length_append]; omega)
  rw [List.take_left] at hD
  unfold nextT
  rw [if_neg (by omega), if_pos h0, hw, if_neg hn, h.text, Nat.add_sub_cancel_left, hD]
/-- A symbol with what follows. -/
def symOk (b r : List UInt8) : Prop := (∃ c, b = [c] ∧ cls c.toNat = 9) ∨ (∃ c, b = [c] ∧ cls c.toNat = 8 ∧ r[0]? ≠ some 61) ∨ ∃ c, b = [c, 61] ∧ (cls c.toNat = 7 ∨ cls c.toNat = 8)
theorem next_sym_T {s : ByteArray} {i : Nat} {p r : List UInt8} (h : Suf s i (p ++ r)) (hp : symOk p r) : nextT s i = (0, ⟨4, ⟨p.toArray⟩, 0, i⟩, i + p.length) := by
  have ht := h.text
  rcases hp with ⟨c, rfl, hc⟩ | ⟨c0, rfl, hc0, hr⟩ | ⟨c0, rfl, hc0⟩
  · have h0 := h.cls (j := 0) (c := c) rfl
    rw [Nat.add_zero, hc] at h0
    unfold nextT
    rw [if_neg (by omega), if_neg (by omega), if_neg (by omega), if_neg (by omega), if_pos h0]
    show (0, (⟨4, s.extract i (i + 1), 0, i⟩ : Tok), i + 1) = _
    rw [show s.extract i (i + 1) = _ from ht]
    rfl
  · have h0 := h.cls (j := 0) (c := c0) rfl
    rw [Nat.add_zero] at h0
    have h8 : atC s i = 8 := by rw [h0, hc0]
    have h61 : bAt s (i + 1) ≠ 61 := by
      intro hb
      have hlt := bAt_in hb (by decide)
      have hs := h.size
      obtain ⟨c, r', rfl⟩ : ∃ c r', r = c :: r' := by
        cases r with
        | nil => simp at hs; omega
        | cons c r' => exact ⟨c, r', rfl⟩
      have := (h.byte (j := 1) (c := c) rfl).2
      rw [this] at hb
      apply hr
      show some c = some 61
      congr 1
      exact UInt8.toNat_inj.1 hb
    unfold nextT
    rw [if_neg (by omega), if_neg (by omega), if_neg (by omega), if_pos (.inr h8), if_neg h61, if_neg (by omega)]
    show (0, (⟨4, s.extract i (i + 1), 0, i⟩ : Tok), i + 1) = _
    rw [show s.extract i (i + 1) = _ from ht]
    rfl
  · have h0 := h.cls (j := 0) (c := c0) rfl
    rw [Nat.add_zero] at h0
    have h8 : atC s i = 7 ∨ atC s i = 8 := by rw [h0]; exact hc0
    have h61 : bAt s (i + 1) = 61 := (h.byte (j := 1) (c := 61) rfl).2
    unfold nextT
    rw [if_neg (by omega), if_neg (by omega), if_neg (by omega), if_pos h8, if_pos h61]
    show (0, (⟨4, s.extract i (i + 2), 0, i⟩ : Tok), i + 2) = _
    rw [show s.extract i (i + 2) = _ from ht]
    rfl
/-- A gap: blanks, and comments to the ends of their lines. -/
inductive GapOk : List UInt8 → Prop
  | nil : GapOk []
  | blank {c : UInt8} {g : List UInt8} (h : cls c.toNat = 1) (hg : GapOk g) : GapOk (c :: g)
  | note {m g : List UInt8} (h : ∀ c ∈ m, c ≠ 10) (hg : GapOk g) : GapOk (35 :: (m ++ 10 :: g))
/-- What begins is no gap. -/
def startOk (r : List UInt8) : Prop := ∀ c, r[0]? = some c → cls c.toNat ≠ 1 ∧ cls c.toNat ≠ 2
theorem gap_T {s : ByteArray} {g : List UInt8} (hg : GapOk g) : ∀ {i : Nat} {r : List UInt8}, Suf s i (g ++ r) → startOk r → gapE s i = i + g.length := by
  induction hg with
  | nil =>
    intro i r h hr
    rw [List.nil_append] at h
    have hn : ¬ (i < s.size ∧ isBlank (atC s i) = true) ∧ atC s i ≠ 2 := by
      by_cases hlt : i < s.size
      · obtain ⟨c, r', rfl⟩ : ∃ c r', r = c :: r' := by
          cases r with
          | nil => exact absurd hlt h.done
          | cons c r' => exact ⟨c, r', rfl⟩
        have hc := h.cls (j := 0) (c := c) rfl
        rw [Nat.add_zero] at hc
        obtain ⟨n1, n2⟩ := hr c rfl
        rw [hc]
        refine ⟨fun hh => ?_, n2⟩
        have := hh.2
        unfold isBlank inL at this
        simp at this
        omega
      · refine ⟨fun hh => hlt hh.1, ?_⟩
        unfold atC
        rw [if_neg hlt]
        omega
    rw [gapE_eq, whileE_stop hn.1]
    unfold gapJ
    rw [if_neg hn.2]
    rfl
  | @blank c g hc hg ih =>
    intro i r h hr
    have h0 := h.cls (j := 0) (c := c) rfl
    have hb := (h.byte (j := 0) (c := c) rfl).1
    rw [Nat.add_zero] at h0 hb
    have h1 := ih (Suf.cut (p := [c]) h) hr
    rw [gapE_eq] at h1 ⊢
    have h1 : gapJ s (whileE s isBlank (i + 1)) = i + 1 + g.length := h1
    rw [whileE_step hb (by rw [h0, hc]; rfl), h1, List.length_cons]
    omega
  | @note m g hm hg ih =>
    intro i r h hr
    have h0 := h.cls (j := 0) (c := 35) rfl
    rw [Nat.add_zero] at h0
    have h2 : atC s i = 2 := h0
    have hs := h.size
    have hw : whileE s isBlank i = i := whileE_stop (fun hh => by
      have := hh.2
      rw [h2] at this
      cases this)
    have hsuf : Suf s (i + (1 + m.length)) (10 :: (g ++ r)) := by
      have := Suf.cut (p := 35 :: m) (r := 10 :: (g ++ r)) (by simpa using h)
      simpa [Nat.add_comm] using this
    have hk := (hsuf.byte (j := 0) (c := 10) rfl)
    rw [Nat.add_zero] at hk
    have hfind : find s isNl i = some (i + (1 + m.length)) := by
      refine find_eq (by omega) hk.1 (by rw [hk.2]; rfl) fun j hj1 hj2 => ?_
      by_cases hj : j = i
      · subst hj
        have := (h.byte (j := 0) (c := 35) rfl).2
        rw [Nat.add_zero] at this
        rw [this]
        rfl
      · have hlt : j - i - 1 < m.length := by omega
        have hgk : ∀ k, (hk : k < m.length) → (35 :: (m ++ 10 :: g) ++ r)[k + 1]? = some (m[k]'hk) := by
          intro k hk
          rw [List.cons_append, List.getElem?_cons_succ, List.append_assoc, List.getElem?_append_left hk, List.getElem?_eq_getElem hk]
        have hg : (35 :: (m ++ 10 :: g) ++ r)[j - i]? = some (m[j - i - 1]'hlt) := by
          rw [← hgk _ hlt]
          congr 1
          omega
        have := (h.byte hg).2
        rw [show i + (j - i) = j from by omega] at this
        rw [this]
        have hne := hm _ (List.getElem_mem hlt)
        unfold isNl
        rw [beq_eq_false_iff_ne]
        intro he
        exact hne (UInt8.toNat_inj.1 he)
    have hcut : Suf s (i + (1 + m.length) + 1) (g ++ r) := Suf.cut (p := [10]) hsuf
    have h1 := ih hcut hr
    have hblank : gapE s (i + (1 + m.length)) = gapE s (i + (1 + m.length) + 1) := by
      have hc := hsuf.cls (j := 0) (c := 10) rfl
      rw [Nat.add_zero] at hc
      rw [gapE_eq, gapE_eq, whileE_step hk.1 (by rw [hc]; rfl)]
    rw [gapE_eq, hw]
    unfold gapJ
    rw [if_pos h2, hfind]
    show gapE s (i + (1 + m.length)) = _
    rw [hblank, h1]
    simp
    omega

/-! ### Pieces -/
/-- A token, its bytes, and the gap behind it. -/
structure Pc where
  e : Int × ByteArray × Int
  b : List UInt8
  g : List UInt8
def pText (ps : List Pc) : List UInt8 := ps.flatMap fun p => p.b ++ p.g
def okPc (p : Pc) (r : List UInt8) : Prop :=
  (p.e = (1, ⟨p.b.toArray⟩, 0) ∧ nameB ⟨p.b.toArray⟩ = true ∧ bdry r) ∨
  (p.e = (2, ByteArray.empty, numV p.b) ∧ (∀ c ∈ p.b, isDigit c.toNat = true) ∧ 1 ≤ p.b.length ∧ p.b.length ≤ 13 ∧ bdry r) ∨
  (p.e = symE ⟨p.b.toArray⟩ ∧ symOk p.b r)
def okPcs : List Pc → Prop
  | [] => True
  | p :: ps => okPc p (p.g ++ pText ps) ∧ GapOk p.g ∧ okPcs ps
theorem next_pc {s : ByteArray} {i : Nat} {p : Pc} {r : List UInt8} (h : Suf s i (p.b ++ r)) (hp : okPc p r) : ∃ t : Tok, nextT s i = (0, t, i + p.b.length) ∧ er t = p.e ∧ t.text = ⟨p.b.toArray⟩ := by
  rcases hp with ⟨he, hn, hr⟩ | ⟨he, hd, h1, h2, hr⟩ | ⟨he, hs⟩
  · exact ⟨_, next_name_T h hn hr, by rw [he]; rfl, rfl⟩
  · exact ⟨_, next_num_T h hd h1 h2 hr, by rw [he]; rfl, rfl⟩
  · exact ⟨_, next_sym_T h hs, by rw [he]; rfl, rfl⟩
theorem pc_start {p : Pc} {r : List UInt8} (hp : okPc p r) : 1 ≤ p.b.length ∧ startOk (p.b ++ r) := by
  rcases hp with ⟨he, hn, hr⟩ | ⟨he, hd, h1, h2, hr⟩ | ⟨he, hs⟩
  · unfold nameB at hn
    simp only [Bool.and_eq_true, decide_eq_true_eq] at hn
    obtain ⟨⟨⟨n1, n2⟩, n3⟩, n4⟩ := hn
    have hsz : (⟨p.b.toArray⟩ : ByteArray).size = p.b.length := by simp [ByteArray.size]
    rw [hsz] at n1
    refine ⟨n1, fun c hc => ?_⟩
    have hc' : p.b[0]? = some c := by rw [← hc, List.getElem?_append_left (by omega)]
    rw [bAt_list hc'] at n3
    have : cls c.toNat = 3 := by unfold cls; rw [if_pos n3]
    omega
  · refine ⟨h1, fun c hc => ?_⟩
    have hc' : p.b[0]? = some c := by rw [← hc, List.getElem?_append_left (by omega)]
    have := digit_cls (hd c (List.mem_of_getElem? hc'))
    omega
  · rcases hs with ⟨c, hb, hc⟩ | ⟨c, hb, hc, _⟩ | ⟨c, hb, hc⟩
    all_goals
      rw [hb]
      refine ⟨by simp, fun d hd => ?_⟩
      injection hd with hd
      rw [← hd]
      omega
theorem pcs_start {ps : List Pc} (h : okPcs ps) : startOk (pText ps) := by
  cases ps with
  | nil => exact fun c hc => by cases hc
  | cons p ps =>
    have := (pc_start h.1).2
    show startOk ((p.b ++ p.g) ++ pText ps)
    rw [List.append_assoc]
    exact this
theorem lex_pieces {s : ByteArray} : ∀ (ps : List Pc) (i : Nat) (acc : List Tok), Suf s i (pText ps) → okPcs ps → acc.length + ps.length ≤ 5000 →
    ∃ toks, lexI s i acc = ⟨acc ++ toks, 0, 0⟩ ∧ toks.map er = ps.map Pc.e ∧ toks.map Tok.text = ps.map fun p => ⟨p.b.toArray⟩
  | [], i, acc, h, _, _ => ⟨[], by rw [lexI_end h.done, List.append_nil], rfl, rfl⟩
  | p :: ps, i, acc, h, hok, hl => by
    have h' : Suf s i (p.b ++ (p.g ++ pText ps)) := by
      have : pText (p :: ps) = p.b ++ (p.g ++ pText ps) := by
        show (p.b ++ p.g) ++ pText ps = _
        rw [List.append_assoc]
      rw [← this]
      exact h
    obtain ⟨t, ht, het, htx⟩ := next_pc h' hok.1
    have hs := h'.size
    have hp1 := (pc_start hok.1).1
    rw [List.length_append] at hs
    have hgap := gap_T hok.2.1 h'.cut (pcs_start hok.2.2)
    rw [List.length_cons] at hl
    obtain ⟨toks, h1, h2, h3⟩ := lex_pieces ps (i + p.b.length + p.g.length) (acc ++ [t]) (Suf.cut h'.cut) hok.2.2 (by rw [List.length_append]; simp; omega)
    refine ⟨t :: toks, ?_, by rw [List.map_cons, List.map_cons, het, h2], by rw [List.map_cons, List.map_cons, htx, h3]⟩
    rw [lexI_next (by omega) (by rw [ht]) acc (by omega), ht]
    show lexI s (gapE s (i + p.b.length)) (acc ++ [t]) = _
    rw [hgap, h1, List.append_assoc]
    rfl
/-- A text of a gap and of pieces. -/
theorem lex_text {g : List UInt8} {ps : List Pc} (hg : GapOk g) (hok : okPcs ps) (hl : ps.length ≤ 5000) (hs : (g ++ pText ps).length ≤ 20000) :
    ∃ toks, lexL ⟨(g ++ pText ps).toArray⟩ = ⟨toks, 0, 0⟩ ∧ toks.map er = ps.map Pc.e ∧ toks.map Tok.text = ps.map fun p => ⟨p.b.toArray⟩ := by
  have hsuf := Suf.whole (g ++ pText ps)
  have hgap := gap_T hg hsuf (pcs_start hok)
  obtain ⟨toks, h1, h2, h3⟩ := lex_pieces ps (0 + g.length) [] hsuf.cut hok (by simpa using hl)
  refine ⟨toks, ?_, h2, h3⟩
  unfold lexL
  have hsz : (⟨(g ++ pText ps).toArray⟩ : ByteArray).size = (g ++ pText ps).length := by simp [ByteArray.size]
  rw [hsz, if_neg (by omega), hgap, h1]
  rfl
end Go.Proofs.YtkomgidcgepknaaGreatDoor

/-
  The parser reads what a tree is written as, whole. No program.
-/
set_option linter.unusedVariables false
set_option linter.unusedSimpArgs false
namespace Go.Proofs.YtkomgidcgepknaaGreatDoor

/-- The tree has been read. -/
def okT (t : Tr) (rest : List Tok) (out : List Nod) : PR := PR.ok (((out.length + t.size : Nat) : Int) - 1) rest (out ++ t.flat out.length)
def PropA (z : Int) (t : Tr) : Prop := ∀ pre rest out, pre.map er = t.toks 1 → stopL 0 rest → Run z (jLevel 1 (pre ++ rest) out) (okT t rest out)
def PropB (z : Int) (t : Tr) (l : Nat) : Prop := ∀ pre rest out v, pre.map er = t.toks l → stopL l rest → Run z (jLoop l (((out.length + t.size : Nat) : Int) - 1) rest (out ++ t.flat out.length)) v → Run z (jLevel l (pre ++ rest) out) v
def PropC (z : Int) (t : Tr) : Prop := ∀ pre rest out, pre.map er = t.toks 4 → stopL 3 rest → Run z (jLevel 4 (pre ++ rest) out) (okT t rest out)
structure Reads1 (z : Int) (t : Tr) : Prop where
  a : PropA z t
  b2 : PropB z t 2
  b3 : PropB z t 3
  c : PropC z t
theorem er_sym {k : Tok} {s : ByteArray} (h : er k = symE s) : k.kind = 4 ∧ k.text = s := by
  unfold er symE at h
  injection h with h1 h2
  injection h2 with h2 _
  rw [if_neg (by omega)] at h2
  exact ⟨h1, h2⟩
theorem sees_sym {k : Tok} {s : ByteArray} (h : er k = symE s) (rest : List Tok) : seesL (k :: rest) 0 s = true := by
  obtain ⟨h1, h2⟩ := er_sym h
  unfold seesL
  show (k.kind == 4 && decide (k.text = s)) = true
  rw [h1, decide_eq_true h2]
  rfl
theorem sees_not {k : Tok} {s u : ByteArray} (h : er k = symE s) (hn : s ≠ u) (rest : List Tok) : seesL (k :: rest) 0 u = false := by
  obtain ⟨h1, h2⟩ := er_sym h
  unfold seesL
  show (k.kind == 4 && decide (k.text = u)) = false
  rw [h2, decide_eq_false hn, Bool.and_false]
theorem own_pos (t : Tr) : 1 ≤ t.own := by
  cases t with
  | leaf x => show 1 ≤ 5; omega
  | un a => show 1 ≤ 4; omega
  | bin op a b => show 1 ≤ ownB op; unfold ownB; (repeat' split) <;> omega
  | cond a b c => show 1 ≤ 5; omega
theorem paren_le {o m : Nat} {l : List (Int × ByteArray × Int)} (h : m ≤ o) : paren o m l = l := by
  unfold paren
  rw [if_neg (by omega)]
theorem paren_gt {o m : Nat} {l : List (Int × ByteArray × Int)} (h : o < m) : paren o m l = symE lpar :: (l ++ [symE rpar]) := by
  unfold paren
  rw [if_pos h]
theorem toks_eq (t : Tr) (m : Nat) : t.toks m = paren t.own m (t.toks 0) := by
  cases t with
  | leaf x => simp only [Tr.toks, paren_le (Nat.zero_le _), Tr.own]
  | un a => simp only [Tr.toks, paren_le (Nat.zero_le _), Tr.own]
  | bin op a b => simp only [Tr.toks, paren_le (Nat.zero_le _), Tr.own]
  | cond a b c => simp only [Tr.toks, paren_le (Nat.zero_le _), Tr.own]
theorem toks_own {t : Tr} {m : Nat} (h : m ≤ t.own) : t.toks m = t.toks 1 := by
  rw [toks_eq t m, toks_eq t 1, paren_le h, paren_le (own_pos t)]
theorem toks_par {t : Tr} {m : Nat} (h : t.own < m) : t.toks m = symE lpar :: (t.toks 1 ++ [symE rpar]) := by
  rw [toks_eq t m, toks_eq t 1, paren_gt h, paren_le (own_pos t)]
theorem map_cons_inv {pre : List Tok} {x : Int × ByteArray × Int} {l : List (Int × ByteArray × Int)} (h : pre.map er = x :: l) : ∃ k p, pre = k :: p ∧ er k = x ∧ p.map er = l := by
  cases pre with
  | nil => cases h
  | cons k p => injection h with h1 h2; exact ⟨k, p, rfl, h1, h2⟩
theorem map_append_inv {pre : List Tok} {l m : List (Int × ByteArray × Int)} (h : pre.map er = l ++ m) : ∃ p q, pre = p ++ q ∧ p.map er = l ∧ q.map er = m := List.map_eq_append_iff.1 h
theorem stop_rpar {r : Tok} {rest : List Tok} (h : er r = symE rpar) (m : Nat) : stopL m (r :: rest) := by
  obtain ⟨h1, h2⟩ := er_sym h
  exact ⟨h1, by rw [h2]; decide, .inl (by rw [h2]; decide)⟩
theorem stop_comma {r : Tok} {rest : List Tok} (h : er r = symE comma) (m : Nat) : stopL m (r :: rest) := by
  obtain ⟨h1, h2⟩ := er_sym h
  exact ⟨h1, by rw [h2]; decide, .inl (by rw [h2]; decide)⟩
/-- In parentheses. -/
theorem run_par {z : Int} {t : Tr} (hA : PropA z t) {pre rest : List Tok} {out : List Nod} (h : pre.map er = symE lpar :: (t.toks 1 ++ [symE rpar])) : Run z (jLevel 4 (pre ++ rest) out) (okT t rest out) := by
  obtain ⟨k, p0, rfl, hk, hp0⟩ := map_cons_inv h
  obtain ⟨p, q, rfl, hp, hq⟩ := map_append_inv hp0
  obtain ⟨r, q2, rfl, hr, hq2⟩ := map_cons_inv hq
  obtain rfl : q2 = [] := List.map_eq_nil_iff.1 hq2
  have hA := hA p (r :: rest) out hp (stop_rpar hr 0)
  have e : (k :: (p ++ [r])) ++ rest = k :: (p ++ (r :: rest)) := by simp
  rw [e]
  exact run_prim (sees_not hk (by decide) _) (rprim_par (sees_sym hk _) (sees_sym hr _) hA)
theorem mk_all {z : Int} {t : Tr} (hA : PropA z t) (h2 : 2 ≤ t.own → PropB z t 2) (h3 : 3 ≤ t.own → PropB z t 3) (hC : 4 ≤ t.own → PropC z t) : Reads1 z t := by
  have c : PropC z t := by
    by_cases h : 4 ≤ t.own
    · exact hC h
    · intro pre rest out hp hs
      rw [toks_par (by omega)] at hp
      exact run_par hA hp
  have b3 : PropB z t 3 := by
    by_cases h : 3 ≤ t.own
    · exact h3 h
    · intro pre rest out v hp hs hv
      rw [toks_par (by omega)] at hp
      exact run_up (by omega) (run_par hA hp) hv
  have b2 : PropB z t 2 := by
    by_cases h : 2 ≤ t.own
    · exact h2 h
    · intro pre rest out v hp hs hv
      rw [toks_par (by omega)] at hp
      exact run_up (by omega) (run_up (by omega) (run_par hA hp) (loop_stop hs (by omega))) hv
  exact ⟨hA, b2, b3, c⟩
theorem a_of_b2 {z : Int} {t : Tr} (ho : 2 ≤ t.own) (h : PropB z t 2) : PropA z t := fun pre rest out hp hs =>
  run_up (by omega) (h pre rest out _ (by rw [toks_own ho]; exact hp) (hs.mono (by omega)) (loop_stop hs (by omega))) (loop_stop hs (by omega))
theorem b2_of_b3 {z : Int} {t : Tr} (ho : 3 ≤ t.own) (h : PropB z t 3) : PropB z t 2 := fun pre rest out v hp hs hv =>
  run_up (by omega) (h pre rest out _ (by rw [toks_own ho]; rw [toks_own (by omega)] at hp; exact hp) (hs.mono (by omega)) (loop_stop hs (by omega))) hv
theorem b3_of_c {z : Int} {t : Tr} (ho : 4 ≤ t.own) (h : PropC z t) : PropB z t 3 := fun pre rest out v hp hs hv =>
  run_up (by omega) (h pre rest out (by rw [toks_own ho]; rw [toks_own (by omega)] at hp; exact hp) hs) hv
theorem mk_c {z : Int} {t : Tr} (ho : 4 ≤ t.own) (h : PropC z t) : Reads1 z t :=
  have b3 := b3_of_c ho h
  have b2 := b2_of_b3 (by omega) b3
  mk_all (a_of_b2 (by omega) b2) (fun _ => b2) (fun _ => b3) fun _ => h
theorem infix_sym {op : Int} (h : ownB op ≠ 5) : infixOp (infixT op) = op ∧ strength op = ownB op ∧ infixT op ≠ lpar := by
  have : op = 10 ∨ op = 11 ∨ op = 3 ∨ op = 4 ∨ op = 5 ∨ op = 6 := by
    unfold ownB at h
    by_cases h1 : op = 10 ∨ op = 11
    · omega
    · rw [if_neg h1] at h
      by_cases h2 : op = 3 ∨ op = 4
      · omega
      · rw [if_neg h2] at h
        by_cases h3 : op = 5 ∨ op = 6
        · omega
        · rw [if_neg h3] at h
          exact absurd rfl h
  rcases this with rfl | rfl | rfl | rfl | rfl | rfl <;> exact ⟨by decide, by decide, by decide⟩
theorem binop_ne {op : Int} (h : binOp op) (hf : ownB op ≠ 5) : op ≠ 0 := by have := h.1; omega
theorem func_op {op : Int} (h : binOp op) (ho : ownB op = 5) : op = 7 ∨ op = 8 := by
  obtain ⟨h1, h2, h3⟩ := h
  unfold ownB at ho
  by_cases c1 : op = 10 ∨ op = 11
  · rw [if_pos c1] at ho; omega
  · rw [if_neg c1] at ho
    by_cases c2 : op = 3 ∨ op = 4
    · rw [if_pos c2] at ho; omega
    · rw [if_neg c2] at ho
      by_cases c3 : op = 5 ∨ op = 6
      · rw [if_pos c3] at ho; omega
      · omega
theorem flat_bin (op : Int) (a b : Tr) (out : List Nod) : (out ++ a.flat out.length ++ b.flat (out ++ a.flat out.length).length) ++ [⟨op, 0, ByteArray.empty, [((out.length + a.size : Nat) : Int) - 1, (((out ++ a.flat out.length).length + b.size : Nat) : Int) - 1]⟩] = out ++ (Tr.bin op a b).flat out.length := by
  show _ = out ++ (a.flat out.length ++ b.flat (out.length + a.size) ++ [_])
  rw [List.length_append, Tr.flat_len]
  simp only [List.append_assoc]
theorem len2 (a b : Tr) (out : List Nod) : (out ++ a.flat out.length ++ b.flat (out ++ a.flat out.length).length).length = out.length + a.size + b.size := by
  rw [List.length_append, Tr.flat_len, List.length_append, Tr.flat_len]
theorem sees_name {k : Tok} (hk : k.kind ≠ 4) (rest : List Tok) (s : ByteArray) : seesL (k :: rest) 0 s = false := by
  unfold seesL
  show (k.kind == 4 && _) = false
  rw [beq_eq_false_iff_ne.2 hk, Bool.false_and]
theorem er_kind {k : Tok} {a : Int} {s : ByteArray} {n : Int} (h : er k = (a, s, n)) (ha : a ≠ 2) : k.kind = a ∧ k.text = s ∧ k.n = n := by
  unfold er at h
  injection h with h1 h2
  injection h2 with h2 h3
  rw [if_neg (by omega)] at h2
  exact ⟨h1, h2, h3⟩
theorem stop_not {m : Nat} {rest : List Tok} (h : stopL m rest) : seesL rest 0 lpar = false := by
  cases rest with
  | nil => rfl
  | cons k r =>
    unfold seesL
    show (k.kind == 4 && decide (k.text = lpar)) = false
    rw [decide_eq_false h.2.1, Bool.and_false]
theorem reads_leaf {z : Int} {x : Nod} (hg : (Tr.leaf x).good) : Reads1 z (.leaf x) := by
  refine mk_c (show 4 ≤ 5 by omega) fun pre rest out hp hs => ?_
  have hops := formed_k hg.1
  have hk0 : x.kids = [] := by
    rcases hg.2 with h | h <;> rw [h] at hops <;> simp [operands] at hops <;> exact List.eq_nil_of_length_eq_zero (by omega)
  have hok : okT (.leaf x) rest out = putL rest out x := by
    show PR.ok (((out.length + 1 : Nat) : Int) - 1) rest (out ++ [x]) = PR.ok out.length rest (out ++ [x])
    congr 1
    omega
  rw [hok]
  have hp' : pre.map er = (if x.op = 1 then [(2, ByteArray.empty, x.n)] else [(1, x.name, 0)]) := hp
  rcases hg.2 with h | h
  · rw [if_pos h] at hp'
    obtain ⟨k, p, rfl, hk, hq⟩ := map_cons_inv hp'
    obtain rfl : p = [] := List.map_eq_nil_iff.1 hq
    have hk2 : k.kind = 2 ∧ k.n = x.n := by
      unfold er at hk
      injection hk with h1 h2
      injection h2 with _ h3
      exact ⟨h1, h3⟩
    have hf := hg.1
    unfold formedL at hf
    rw [if_pos h] at hf
    simp only [Bool.and_eq_true, decide_eq_true_eq] at hf
    have hx : x = ⟨1, k.n, ByteArray.empty, []⟩ := by
      cases x
      simp only at h hk0 hk2 hf
      rw [h, hk0, hk2.2, hf.2.1.1]
    rw [hx]
    exact run_prim (sees_name (by omega) _ _) (rprim_num hk2.1 (by rw [hk2.2]; exact hf.2.2))
  · rw [if_neg (by omega)] at hp'
    obtain ⟨k, p, rfl, hk, hq⟩ := map_cons_inv hp'
    obtain rfl : p = [] := List.map_eq_nil_iff.1 hq
    obtain ⟨k1, k2, k3⟩ := er_kind hk (by omega)
    have hf := hg.1
    unfold formedL at hf
    rw [if_neg (by omega), if_pos h] at hf
    simp only [Bool.and_eq_true, decide_eq_true_eq] at hf
    have hx : x = ⟨2, 0, k.text, []⟩ := by
      cases x
      simp only at h hk0 k2 hf
      rw [h, hk0, k2, hf.2.1.1]
    rw [hx]
    exact run_prim (sees_name (by omega) _ _) (rprim_name k1 (by rw [k2]; exact hf.2.2) (stop_not hs))
theorem reads_un {z : Int} {a : Tr} (ha : Reads1 z a) : Reads1 z (.un a) := by
  refine mk_c (show 4 ≤ 4 by omega) fun pre rest out hp hs => ?_
  have hp' : pre.map er = symE minus :: a.toks 4 := by
    simp only [Tr.toks] at hp
    rw [paren_le (Nat.le_refl _)] at hp
    exact hp
  obtain ⟨k, p, rfl, hk, hp⟩ := map_cons_inv hp'
  have h := run_neg (z := z) (sees_sym hk (p ++ rest)) (ha.c p rest out hp hs)
  have e : putL rest (out ++ a.flat out.length) ⟨12, 0, ByteArray.empty, [((out.length + a.size : Nat) : Int) - 1]⟩ = okT (.un a) rest out := by
    show PR.ok _ _ _ = PR.ok _ _ _
    have h1 : (((out ++ a.flat out.length).length : Nat) : Int) = ((out.length + (a.size + 1) : Nat) : Int) - 1 := by rw [List.length_append, Tr.flat_len]; omega
    have h2 : (out ++ a.flat out.length) ++ [⟨12, 0, ByteArray.empty, [((out.length + a.size : Nat) : Int) - 1]⟩] = out ++ (Tr.un a).flat out.length := by
      show _ = out ++ (a.flat out.length ++ [_])
      rw [List.append_assoc]
    rw [h1, h2]
    rfl
  rw [← e]
  exact h
theorem ok_bin {op : Int} {a b : Tr} {rest : List Tok} {out : List Nod} : PR.ok ((out ++ a.flat out.length ++ b.flat (out ++ a.flat out.length).length).length : Int) rest ((out ++ a.flat out.length ++ b.flat (out ++ a.flat out.length).length) ++ [⟨op, 0, ByteArray.empty, [((out.length + a.size : Nat) : Int) - 1, (((out ++ a.flat out.length).length + b.size : Nat) : Int) - 1]⟩]) = okT (.bin op a b) rest out := by
  rw [flat_bin, len2]
  unfold okT
  have : ((out.length + a.size + b.size : Nat) : Int) = ((out.length + (Tr.bin op a b).size : Nat) : Int) - 1 := by
    show _ = ((out.length + (a.size + b.size + 1) : Nat) : Int) - 1
    omega
  rw [this]
theorem idx_bin (op : Int) (a b : Tr) (out : List Nod) : ((out.length + (Tr.bin op a b).size : Nat) : Int) - 1 = ((out ++ a.flat out.length ++ b.flat (out ++ a.flat out.length).length).length : Int) := by
  rw [len2]
  show ((out.length + (a.size + b.size + 1) : Nat) : Int) - 1 = _
  omega
theorem stop_infix {op : Int} {k : Tok} {rest : List Tok} (ho : ownB op ≠ 5) (hk : er k = symE (infixT op)) {m : Nat} (hm : ownB op ≤ m) : stopL m (k :: rest) := by
  obtain ⟨h1, h2⟩ := er_sym hk
  obtain ⟨i1, i2, i3⟩ := infix_sym ho
  refine ⟨h1, by rw [h2]; exact i3, .inr ?_⟩
  rw [h2, i1, i2]
  omega
theorem func_text {op : Int} (h : op = 7 ∨ op = 8 ∨ op = 9) : funcOp (funcT op) = op := by
  rcases h with rfl | rfl | rfl <;> decide
theorem reads_bin {z : Int} {op : Int} {a b : Tr} (hb : binOp op) (ra : Reads1 z a) (rb : Reads1 z b) : Reads1 z (.bin op a b) := by
  by_cases h5 : ownB op = 5
  · refine mk_c (show 4 ≤ ownB op by omega) fun pre rest out hp hs => ?_
    simp only [Tr.toks] at hp
    rw [paren_le (by omega), if_pos h5] at hp
    obtain ⟨k, p0, rfl, hk, hp0⟩ := map_cons_inv hp
    obtain ⟨l, p1, rfl, hl, hp1⟩ := map_cons_inv hp0
    obtain ⟨pa, q1, rfl, ha, hq1⟩ := map_append_inv hp1
    obtain ⟨cm, q2, rfl, hcm, hq2⟩ := map_cons_inv hq1
    obtain ⟨pb, q3, rfl, hbm, hq3⟩ := map_append_inv hq2
    obtain ⟨r, q4, rfl, hr, hq4⟩ := map_cons_inv hq3
    obtain rfl : q4 = [] := List.map_eq_nil_iff.1 hq4
    obtain ⟨k1, k2, k3⟩ := er_kind hk (by omega)
    have hop := func_op hb h5
    have hf : funcOp k.text = op := by rw [k2]; exact func_text (by omega)
    have e : (k :: l :: (pa ++ (cm :: (pb ++ [r])))) ++ rest = k :: l :: (pa ++ (cm :: (pb ++ (r :: rest)))) := by simp
    rw [e]
    refine run_prim (sees_name (by omega) _ _) (prim_func k1 (by rw [hf]; omega) ?_)
    rw [hf]
    have h2 : operands op = 2 := by rcases hop with rfl | rfl <;> decide
    have A := ra.a pa (cm :: (pb ++ (r :: rest))) out ha (stop_comma hcm 0)
    have B := rb.a pb (r :: rest) (out ++ a.flat out.length) hbm (stop_rpar hr 0)
    have E := args_end (z := z) (op := op) (i := 2) (kids := [((out.length + a.size : Nat) : Int) - 1, (((out ++ a.flat out.length).length + b.size : Nat) : Int) - 1]) (k := r) (rest := rest) (out := out ++ a.flat out.length ++ b.flat (out ++ a.flat out.length).length) (by rw [h2]; decide) (sees_sym hr _)
    have G2 := args_go (z := z) (op := op) (i := 1) (kids := [((out.length + a.size : Nat) : Int) - 1]) (by rw [h2]; decide) (sees_sym hcm _) B E
    have G1 := args_go (z := z) (op := op) (i := 0) (kids := []) (by rw [h2]; decide) (sees_sym hl _) A G2
    rw [← ok_bin]
    exact G1
  · obtain ⟨i1, i2, i3⟩ := infix_sym h5
    have hn0 : infixOp (infixT op) ≠ 0 := by rw [i1]; have := hb.1; omega
    have hown : ownB op = 1 ∨ ownB op = 2 ∨ ownB op = 3 := by
      unfold ownB at h5 ⊢
      by_cases c1 : op = 10 ∨ op = 11
      · rw [if_pos c1]; exact .inl rfl
      · rw [if_neg c1] at h5 ⊢
        by_cases c2 : op = 3 ∨ op = 4
        · rw [if_pos c2]; exact .inr (.inl rfl)
        · rw [if_neg c2] at h5 ⊢
          by_cases c3 : op = 5 ∨ op = 6
          · rw [if_pos c3]; exact .inr (.inr rfl)
          · rw [if_neg c3] at h5; exact absurd rfl h5
    rcases hown with ho | ho | ho
    · have hA : PropA z (.bin op a b) := by
        intro pre rest out hp hs
        simp only [Tr.toks] at hp
        rw [paren_le (by omega), if_neg h5, if_pos ho] at hp
        obtain ⟨pa, q1, rfl, ha, hq1⟩ := map_append_inv hp
        obtain ⟨k, pb, rfl, hk, hpb⟩ := map_cons_inv hq1
        obtain ⟨k1, k2⟩ := er_sym hk
        have e : (pa ++ (k :: pb)) ++ rest = pa ++ (k :: (pb ++ rest)) := by simp
        rw [e]
        have A := ra.b2 pa (k :: (pb ++ rest)) out _ ha (stop_infix h5 hk (by omega)) (loop_stop (stop_infix h5 hk (m := 1) (by omega)) (by omega))
        have B := rb.b2 pb rest (out ++ a.flat out.length) _ hpb (hs.mono (by omega)) (loop_stop hs (by omega))
        have W := loop_weak (z := z) (a := ((out.length + a.size : Nat) : Int) - 1) k1 (by rw [k2]; exact hn0) (by rw [k2, i1, i2, ho]; rfl) B
        rw [k2, i1] at W
        rw [← ok_bin]
        exact run_up (by omega) A W
      exact mk_all hA (fun h => by have : 2 ≤ ownB op := h; omega) (fun h => by have : 3 ≤ ownB op := h; omega) (fun h => by have : 4 ≤ ownB op := h; omega)
    · have hB : PropB z (.bin op a b) 2 := by
        intro pre rest out v hp hs hv
        simp only [Tr.toks] at hp
        rw [paren_le (by omega), if_neg h5, if_neg (by omega), ho] at hp
        obtain ⟨pa, q1, rfl, ha, hq1⟩ := map_append_inv hp
        obtain ⟨k, pb, rfl, hk, hpb⟩ := map_cons_inv hq1
        obtain ⟨k1, k2⟩ := er_sym hk
        have e : (pa ++ (k :: pb)) ++ rest = pa ++ (k :: (pb ++ rest)) := by simp
        rw [e]
        refine ra.b2 pa (k :: (pb ++ rest)) out v ha (stop_infix h5 hk (by omega)) ?_
        have B := rb.b3 pb rest (out ++ a.flat out.length) _ hpb (hs.mono (by omega)) (loop_stop hs (by omega))
        refine loop_go k1 (by rw [k2]; exact hn0) (by rw [k2, i1, i2, ho]) (by omega) B ?_
        rw [k2, i1, flat_bin, ← idx_bin op a b out]
        exact hv
      exact mk_all (a_of_b2 (show 2 ≤ ownB op by omega) hB) (fun _ => hB) (fun h => by have : 3 ≤ ownB op := h; omega) (fun h => by have : 4 ≤ ownB op := h; omega)
    · have hB : PropB z (.bin op a b) 3 := by
        intro pre rest out v hp hs hv
        simp only [Tr.toks] at hp
        rw [paren_le (by omega), if_neg h5, if_neg (by omega), ho] at hp
        obtain ⟨pa, q1, rfl, ha, hq1⟩ := map_append_inv hp
        obtain ⟨k, pb, rfl, hk, hpb⟩ := map_cons_inv hq1
        obtain ⟨k1, k2⟩ := er_sym hk
        have e : (pa ++ (k :: pb)) ++ rest = pa ++ (k :: (pb ++ rest)) := by simp
        rw [e]
        refine ra.b3 pa (k :: (pb ++ rest)) out v ha (stop_infix h5 hk (by omega)) ?_
        have B := rb.c pb rest (out ++ a.flat out.length) hpb hs
        refine loop_go k1 (by rw [k2]; exact hn0) (by rw [k2, i1, i2, ho]) (by omega) B ?_
        rw [k2, i1, flat_bin, ← idx_bin op a b out]
        exact hv
      have hB2 := b2_of_b3 (t := .bin op a b) (show 3 ≤ ownB op by omega) hB
      exact mk_all (a_of_b2 (show 2 ≤ ownB op by omega) hB2) (fun _ => hB2) (fun _ => hB) (fun h => by have : 4 ≤ ownB op := h; omega)
theorem reads_cond {z : Int} {a b c : Tr} (ra : Reads1 z a) (rb : Reads1 z b) (rc : Reads1 z c) : Reads1 z (.cond a b c) := by
  refine mk_c (show 4 ≤ 5 by omega) fun pre rest out hp hs => ?_
  simp only [Tr.toks] at hp
  rw [paren_le (by omega)] at hp
  obtain ⟨k, p0, rfl, hk, hp0⟩ := map_cons_inv hp
  obtain ⟨l, p1, rfl, hl, hp1⟩ := map_cons_inv hp0
  obtain ⟨pa, q1, rfl, ha, hq1⟩ := map_append_inv hp1
  obtain ⟨cm, q2, rfl, hcm, hq2⟩ := map_cons_inv hq1
  obtain ⟨pb, q3, rfl, hbm, hq3⟩ := map_append_inv hq2
  obtain ⟨cn, q4, rfl, hcn, hq4⟩ := map_cons_inv hq3
  obtain ⟨pc, q5, rfl, hcm2, hq5⟩ := map_append_inv hq4
  obtain ⟨r, q6, rfl, hr, hq6⟩ := map_cons_inv hq5
  obtain rfl : q6 = [] := List.map_eq_nil_iff.1 hq6
  obtain ⟨k1, k2, k3⟩ := er_kind hk (by omega)
  have hf : funcOp k.text = 9 := by rw [k2]; exact func_text (by omega)
  have e : (k :: l :: (pa ++ (cm :: (pb ++ (cn :: (pc ++ [r])))))) ++ rest = k :: l :: (pa ++ (cm :: (pb ++ (cn :: (pc ++ (r :: rest)))))) := by simp
  rw [e]
  refine run_prim (sees_name (by omega) _ _) (prim_func k1 (by rw [hf]; omega) ?_)
  rw [hf]
  have h3 : operands 9 = 3 := by decide
  obtain ⟨o1, ho1⟩ : ∃ o1, o1 = out ++ a.flat out.length := ⟨_, rfl⟩
  have A := ra.a pa (cm :: (pb ++ (cn :: (pc ++ (r :: rest))))) out ha (stop_comma hcm 0)
  unfold okT at A
  rw [← ho1] at A
  have B := rb.a pb (cn :: (pc ++ (r :: rest))) o1 hbm (stop_comma hcn 0)
  unfold okT at B
  obtain ⟨o2, ho2⟩ : ∃ o2, o2 = o1 ++ b.flat o1.length := ⟨_, rfl⟩
  rw [← ho2] at B
  have C := rc.a pc (r :: rest) o2 hcm2 (stop_rpar hr 0)
  unfold okT at C
  obtain ⟨o3, ho3⟩ : ∃ o3, o3 = o2 ++ c.flat o2.length := ⟨_, rfl⟩
  rw [← ho3] at C
  have E := args_end (z := z) (op := 9) (i := 3) (kids := [((out.length + a.size : Nat) : Int) - 1, ((o1.length + b.size : Nat) : Int) - 1, ((o2.length + c.size : Nat) : Int) - 1]) (k := r) (rest := rest) (out := o3) (by rw [h3]; decide) (sees_sym hr _)
  have G3 := args_go (z := z) (op := 9) (i := 2) (kids := [((out.length + a.size : Nat) : Int) - 1, ((o1.length + b.size : Nat) : Int) - 1]) (by rw [h3]; decide) (sees_sym hcn _) C E
  have G2 := args_go (z := z) (op := 9) (i := 1) (kids := [((out.length + a.size : Nat) : Int) - 1]) (by rw [h3]; decide) (sees_sym hcm _) B G3
  have G1 := args_go (z := z) (op := 9) (i := 0) (kids := []) (by rw [h3]; decide) (sees_sym hl _) A G2
  have l1 : o1.length = out.length + a.size := by rw [ho1, List.length_append, Tr.flat_len]
  have l2 : o2.length = out.length + a.size + b.size := by rw [ho2, List.length_append, Tr.flat_len, l1]
  have l3 : o3.length = out.length + a.size + b.size + c.size := by rw [ho3, List.length_append, Tr.flat_len, l2]
  have e2 : putL rest o3 ⟨9, 0, ByteArray.empty, [((out.length + a.size : Nat) : Int) - 1, ((o1.length + b.size : Nat) : Int) - 1, ((o2.length + c.size : Nat) : Int) - 1]⟩ = okT (.cond a b c) rest out := by
    show PR.ok _ _ _ = PR.ok _ _ _
    have f1 : ((o3.length : Nat) : Int) = ((out.length + (a.size + b.size + c.size + 1) : Nat) : Int) - 1 := by rw [l3]; omega
    have f2 : o3 ++ [⟨9, 0, ByteArray.empty, [((out.length + a.size : Nat) : Int) - 1, ((o1.length + b.size : Nat) : Int) - 1, ((o2.length + c.size : Nat) : Int) - 1]⟩] = out ++ (Tr.cond a b c).flat out.length := by
      show _ = out ++ (a.flat out.length ++ b.flat (out.length + a.size) ++ c.flat (out.length + a.size + b.size) ++ [_])
      have e3 : o3 = out ++ a.flat out.length ++ b.flat (out.length + a.size) ++ c.flat (out.length + a.size + b.size) := by rw [ho3, l2, ho2, l1, ho1]
      rw [l1, l2, e3]
      simp only [List.append_assoc]
    rw [f1, f2]
    rfl
  rw [← e2]
  exact G1
theorem reads_tree (z : Int) : ∀ t : Tr, t.good → Reads1 z t
  | .leaf x, h => reads_leaf h
  | .un a, h => reads_un (reads_tree z a h)
  | .bin op a b, h => reads_bin h.1 (reads_tree z a h.2.1) (reads_tree z b h.2.2)
  | .cond a b c, h => reads_cond (reads_tree z a h.1) (reads_tree z b h.2.1) (reads_tree z c h.2.2)
/-- Tokens that are those of a tree are read as its nodes. -/
theorem parse_tree (z : Int) {t : Tr} (hg : t.good) {toks : List Tok} (h : toks.map er = t.toks 1) : Run z (jLevel 1 toks []) (PR.ok ((t.size : Int) - 1) [] (t.flat 0)) := by
  have := (reads_tree z t hg).a toks [] [] h trivial
  rw [List.append_nil] at this
  have e : okT t [] [] = PR.ok ((t.size : Int) - 1) [] (t.flat 0) := by
    unfold okT
    simp
  rw [← e]
  exact this
end Go.Proofs.YtkomgidcgepknaaGreatDoor

/-
  The text of a tree: its pieces, which the lexer reads as its tokens. No program.
-/
set_option linter.unusedVariables false
set_option linter.unusedSimpArgs false
namespace Go.Proofs.YtkomgidcgepknaaGreatDoor
open Go.Lib (itoa decDigits)

/-! ### Pieces in front of bytes -/
def okPcsR : List Pc → List UInt8 → Prop
  | [], _ => True
  | p :: ps, r => okPc p (p.g ++ (pText ps ++ r)) ∧ GapOk p.g ∧ okPcsR ps r
theorem okPcsR_ok : ∀ ps, okPcsR ps [] → okPcs ps
  | [], _ => trivial
  | p :: ps, h => by
    obtain ⟨h1, h2, h3⟩ := h
    rw [List.append_nil] at h1
    exact ⟨h1, h2, okPcsR_ok ps h3⟩
theorem pText_app (a b : List Pc) : pText (a ++ b) = pText a ++ pText b := List.flatMap_append
theorem pText_cons (p : Pc) (ps : List Pc) : pText (p :: ps) = p.b ++ (p.g ++ pText ps) := by
  show (p.b ++ p.g) ++ pText ps = _
  rw [List.append_assoc]
theorem okPcsR_app : ∀ (a b : List Pc) (r : List UInt8), okPcsR a (pText b ++ r) → okPcsR b r → okPcsR (a ++ b) r
  | [], b, r, _, hb => hb
  | p :: a, b, r, h, hb => by
    obtain ⟨h1, h2, h3⟩ := h
    refine ⟨?_, h2, okPcsR_app a b r h3 hb⟩
    show okPc p (p.g ++ (pText (a ++ b) ++ r))
    rw [pText_app, List.append_assoc]
    exact h1
theorem okPcsR_cons {p : Pc} {ps : List Pc} {r : List UInt8} (h1 : okPc p (p.g ++ (pText ps ++ r))) (h2 : GapOk p.g) (h3 : okPcsR ps r) : okPcsR (p :: ps) r := ⟨h1, h2, h3⟩
theorem bdry_cons {c : UInt8} {r : List UInt8} (h : cls c.toNat ≠ 3 ∧ cls c.toNat ≠ 4 ∧ cls c.toNat ≠ 5) : bdry (c :: r) := fun d hd => by
  injection hd with hd
  rw [← hd]
  exact h
theorem bdry_nil : bdry [] := fun d hd => by cases hd
theorem gap_sp : GapOk [32] := .blank (by decide) .nil

/-! ### The pieces of a tree -/
def symP (t : ByteArray) (g : List UInt8) : Pc := ⟨symE t, t.data.toList, g⟩
def nameP (t : ByteArray) (g : List UInt8) : Pc := ⟨(1, t, 0), t.data.toList, g⟩
def numP (n : Int) (g : List UInt8) : Pc := ⟨(2, ByteArray.empty, n), itoa n, g⟩
def parenP (own least : Nat) (f : List UInt8 → List Pc) (g : List UInt8) : List Pc := if own < least then symP lpar [] :: (f [] ++ [symP rpar g]) else f g
def Tr.pcs : Tr → Nat → List UInt8 → List Pc
  | .leaf x, m, g => parenP 5 m (fun g => if x.op = 1 then [numP x.n g] else [nameP x.name g]) g
  | .un a, m, g => parenP 4 m (fun g => symP minus [] :: a.pcs 4 g) g
  | .bin op a b, m, g => parenP (ownB op) m (fun g => if ownB op = 5 then nameP (funcT op) [] :: symP lpar [] :: (a.pcs 1 [] ++ symP comma [32] :: (b.pcs 1 [] ++ [symP rpar g]))
    else if ownB op = 1 then a.pcs 2 [32] ++ symP (infixT op) [32] :: b.pcs 2 g else a.pcs (ownB op) [32] ++ symP (infixT op) [32] :: b.pcs (ownB op + 1) g) g
  | .cond a b c, m, g => parenP 5 m (fun g => nameP (funcT 9) [] :: symP lpar [] :: (a.pcs 1 [] ++ symP comma [32] :: (b.pcs 1 [] ++ symP comma [32] :: (c.pcs 1 [] ++ [symP rpar g])))) g
/-- The text of a tree. -/
def parenS (own least : Nat) (l : List UInt8) : List UInt8 := if own < least then 40 :: (l ++ [41]) else l
def Tr.str : Tr → Nat → List UInt8
  | .leaf x, m => parenS 5 m (if x.op = 1 then itoa x.n else x.name.data.toList)
  | .un a, m => parenS 4 m (45 :: a.str 4)
  | .bin op a b, m => parenS (ownB op) m (if ownB op = 5 then (funcT op).data.toList ++ (40 :: (a.str 1 ++ (44 :: 32 :: (b.str 1 ++ [41]))))
    else if ownB op = 1 then a.str 2 ++ (32 :: ((infixT op).data.toList ++ (32 :: b.str 2))) else a.str (ownB op) ++ (32 :: ((infixT op).data.toList ++ (32 :: b.str (ownB op + 1)))))
  | .cond a b c, m => parenS 5 m ((funcT 9).data.toList ++ (40 :: (a.str 1 ++ (44 :: 32 :: (b.str 1 ++ (44 :: 32 :: (c.str 1 ++ [41])))))))
theorem parenP_e (own least : Nat) (f : List UInt8 → List Pc) (g : List UInt8) (l : List (Int × ByteArray × Int)) (h : ∀ g, (f g).map Pc.e = l) : (parenP own least f g).map Pc.e = paren own least l := by
  unfold parenP paren
  split
  · rw [List.map_cons, List.map_append, h]; rfl
  · exact h g
theorem pcs_e : ∀ (t : Tr) (m : Nat) (g : List UInt8), (t.pcs m g).map Pc.e = t.toks m
  | .leaf x, m, g => parenP_e _ _ _ _ _ fun g => by split <;> rfl
  | .un a, m, g => parenP_e _ _ _ _ _ fun g => by rw [List.map_cons, pcs_e a]; rfl
  | .bin op a b, m, g => parenP_e _ _ _ _ _ fun g => by
    split
    · rw [List.map_cons, List.map_cons, List.map_append, List.map_cons, List.map_append, pcs_e a, pcs_e b]; rfl
    · split <;> rw [List.map_append, List.map_cons, pcs_e a, pcs_e b] <;> rfl
  | .cond a b c, m, g => parenP_e _ _ _ _ _ fun g => by
    rw [List.map_cons, List.map_cons, List.map_append, List.map_cons, List.map_append, List.map_cons, List.map_append, pcs_e a, pcs_e b, pcs_e c]; rfl
theorem pText_sym (t : ByteArray) (g : List UInt8) (ps : List Pc) : pText (symP t g :: ps) = t.data.toList ++ (g ++ pText ps) := pText_cons _ _
theorem pText_name (t : ByteArray) (g : List UInt8) (ps : List Pc) : pText (nameP t g :: ps) = t.data.toList ++ (g ++ pText ps) := pText_cons _ _
theorem pText_num (n : Int) (g : List UInt8) (ps : List Pc) : pText (numP n g :: ps) = itoa n ++ (g ++ pText ps) := pText_cons _ _
theorem pText_nil : pText [] = [] := rfl
theorem lp_l : lpar.data.toList = [40] := rfl
theorem rp_l : rpar.data.toList = [41] := rfl
theorem cm_l : comma.data.toList = [44] := rfl
theorem mn_l : minus.data.toList = [45] := rfl
theorem parenP_t (own least : Nat) (f : List UInt8 → List Pc) (g l : List UInt8) (h : ∀ g, pText (f g) = l ++ g) : pText (parenP own least f g) = parenS own least l ++ g := by
  unfold parenP parenS
  split
  · simp [pText_sym, pText_app, h, lp_l, rp_l, pText_nil]
  · exact h g
theorem pcs_t : ∀ (t : Tr) (m : Nat) (g : List UInt8), pText (t.pcs m g) = t.str m ++ g
  | .leaf x, m, g => parenP_t _ _ _ _ _ fun g => by split <;> simp [pText_num, pText_name, pText_nil]
  | .un a, m, g => parenP_t _ _ _ _ _ fun g => by simp [pText_sym, pcs_t a, mn_l]
  | .bin op a b, m, g => parenP_t _ _ _ _ _ fun g => by
    split
    · simp [pText_name, pText_sym, pText_app, pcs_t a, pcs_t b, lp_l, rp_l, cm_l, pText_nil]
    · split <;> simp [pText_sym, pText_app, pcs_t a, pcs_t b]
  | .cond a b c, m, g => parenP_t _ _ _ _ _ fun g => by
    simp [pText_name, pText_sym, pText_app, pcs_t a, pcs_t b, pcs_t c, lp_l, rp_l, cm_l, pText_nil]

/-! ### Numerals -/
theorem dec_digits (u : Nat) : ∀ c ∈ decDigits u, isDigit c.toNat = true := by
  induction u using Nat.strongRecOn with
  | _ u ih =>
    have hd : ∀ v, v < 10 → isDigit (UInt8.ofNat (48 + v)).toNat = true := by
      intro v hv
      have : (UInt8.ofNat (48 + v)).toNat = 48 + v := by rw [UInt8.toNat_ofNat']; omega
      rw [this]
      unfold isDigit
      simp only [Bool.and_eq_true, decide_eq_true_eq]
      omega
    rw [decDigits]
    split
    · rename_i h
      intro c hc
      simp only [List.mem_cons, List.not_mem_nil, or_false] at hc
      subst hc
      exact hd u h
    · rename_i h
      intro c hc
      rcases List.mem_append.1 hc with hc | hc
      · exact ih (u / 10) (by omega) c hc
      · simp only [List.mem_cons, List.not_mem_nil, or_false] at hc
        subst hc
        exact hd _ (by omega)
theorem dec_numV (u : Nat) : numV (decDigits u) = u := by
  induction u using Nat.strongRecOn with
  | _ u ih =>
    have hd : ∀ v, v < 10 → ((UInt8.ofNat (48 + v)).toNat : Int) = 48 + v := by
      intro v hv
      have : (UInt8.ofNat (48 + v)).toNat = 48 + v := by rw [UInt8.toNat_ofNat']; omega
      omega
    rw [decDigits]
    split
    · rename_i h
      show (0 * 10 + (((UInt8.ofNat (48 + u)).toNat : Int) - 48)) = _
      rw [hd u h]
      omega
    · rename_i h
      have h1 := ih (u / 10) (by omega)
      unfold numV at h1 ⊢
      rw [List.foldl_append, h1]
      show ((u / 10 : Nat) : Int) * 10 + (((UInt8.ofNat (48 + u % 10)).toNat : Int) - 48) = _
      rw [hd _ (by omega)]
      omega
theorem dec_len (u : Nat) : 1 ≤ (decDigits u).length ∧ ∀ k, u < 10 ^ (k + 1) → (decDigits u).length ≤ k + 1 := by
  induction u using Nat.strongRecOn with
  | _ u ih =>
    rw [decDigits]
    split
    · exact ⟨by simp, fun k _ => by simp⟩
    · rename_i h
      obtain ⟨h1, h2⟩ := ih (u / 10) (by omega)
      refine ⟨by simp, fun k hk => ?_⟩
      cases k with
      | zero => simp at hk; omega
      | succ k =>
        have := h2 k (by rw [Nat.pow_succ] at hk; omega)
        simp
        omega
theorem itoa_nn {n : Int} (h : 0 ≤ n) : itoa n = decDigits n.toNat := by
  unfold itoa
  rw [if_neg (by omega)]

/-! ### The pieces are right -/
theorem ok_sym1 {t : ByteArray} {c : UInt8} (h : t = ⟨#[c]⟩) (hc : cls c.toNat = 9) (g r : List UInt8) : okPc (symP t g) r := by
  subst h
  exact .inr (.inr ⟨rfl, .inl ⟨c, rfl, hc⟩⟩)
theorem ok_lpar (g r : List UInt8) : okPc (symP lpar g) r := ok_sym1 rfl (by decide) g r
theorem ok_rpar (g r : List UInt8) : okPc (symP rpar g) r := ok_sym1 rfl (by decide) g r
theorem ok_comma (g r : List UInt8) : okPc (symP comma g) r := ok_sym1 rfl (by decide) g r
theorem ok_minus (g r : List UInt8) : okPc (symP minus g) r := ok_sym1 rfl (by decide) g r
theorem ok_infix (op : Int) (r : List UInt8) : okPc (symP (infixT op) [32]) ([32] ++ r) := by
  unfold infixT
  by_cases h10 : op = 10
  · rw [if_pos h10]
    exact .inr (.inr ⟨rfl, .inr (.inl ⟨60, rfl, by decide, by simp⟩)⟩)
  rw [if_neg h10]
  by_cases h11 : op = 11
  · rw [if_pos h11]
    exact .inr (.inr ⟨rfl, .inr (.inr ⟨61, rfl, by decide⟩)⟩)
  rw [if_neg h11]
  split
  · exact ok_sym1 rfl (by decide) _ _
  · split
    · exact ok_sym1 rfl (by decide) _ _
    · split <;> exact ok_sym1 rfl (by decide) _ _
theorem ba_toList (t : ByteArray) : (⟨t.data.toList.toArray⟩ : ByteArray) = t := by cases t; simp
theorem ok_name {t : ByteArray} {g r : List UInt8} (h : nameB t = true) (hr : bdry r) : okPc (nameP t g) r := by
  refine .inl ⟨?_, ?_, hr⟩
  · show (1, t, 0) = (1, (⟨t.data.toList.toArray⟩ : ByteArray), 0)
    rw [ba_toList]
  · show nameB ⟨t.data.toList.toArray⟩ = true
    rw [ba_toList]
    exact h
theorem ok_num {n : Int} {g r : List UInt8} (h0 : 0 ≤ n) (h1 : n ≤ 1000000) (hr : bdry r) : okPc (numP n g) r := by
  obtain ⟨h2, h3⟩ := dec_len n.toNat
  have h4 := h3 6 (by omega)
  refine .inr (.inl ⟨?_, ?_, ?_, ?_, hr⟩)
  · show (2, ByteArray.empty, n) = (2, ByteArray.empty, numV (itoa n))
    rw [itoa_nn h0, dec_numV]
    congr 2
    omega
  · show ∀ c ∈ itoa n, _
    rw [itoa_nn h0]
    exact dec_digits _
  · show 1 ≤ (itoa n).length
    rw [itoa_nn h0]
    exact h2
  · show (itoa n).length ≤ 13
    rw [itoa_nn h0]
    omega
theorem func_name (op : Int) : nameB (funcT op) = true := by
  unfold funcT
  split
  · decide
  · split <;> decide
theorem leaf_good {x : Nod} (h : (Tr.leaf x).good) : (x.op = 1 ∧ 0 ≤ x.n ∧ x.n ≤ 1000000) ∨ (x.op = 2 ∧ nameB x.name = true) := by
  obtain ⟨hf, ho⟩ := h
  unfold formedL at hf
  rcases ho with ho | ho
  · rw [if_pos ho] at hf
    simp only [Bool.and_eq_true, decide_eq_true_eq] at hf
    exact .inl ⟨ho, hf.2.1.2, hf.2.2⟩
  · rw [if_neg (by omega), if_pos ho] at hf
    simp only [Bool.and_eq_true, decide_eq_true_eq] at hf
    exact .inr ⟨ho, hf.2.1.2⟩
theorem parenP_ok {own least : Nat} {f : List UInt8 → List Pc} {g r : List UInt8} (hg : GapOk g) (hr : bdry (g ++ r)) (h : ∀ g r, GapOk g → bdry (g ++ r) → okPcsR (f g) r) : okPcsR (parenP own least f g) r := by
  unfold parenP
  split
  · refine okPcsR_cons (ok_lpar _ _) .nil (okPcsR_app _ _ _ (h _ _ .nil ?_) (okPcsR_cons (ok_rpar _ _) hg trivial))
    rw [pText_sym]
    exact bdry_cons (by decide)
  · exact h g r hg hr
theorem b_comma {g r : List UInt8} {ps : List Pc} : bdry ([] ++ (pText (symP comma g :: ps) ++ r)) := by
  rw [pText_sym]
  exact bdry_cons (by decide)
theorem b_rpar {g r : List UInt8} {ps : List Pc} : bdry ([] ++ (pText (symP rpar g :: ps) ++ r)) := by
  rw [pText_sym]
  exact bdry_cons (by decide)
theorem b_lpar {g r : List UInt8} {ps : List Pc} : bdry ([] ++ (pText (symP lpar g :: ps) ++ r)) := by
  rw [pText_sym]
  exact bdry_cons (by decide)
theorem b_sp {r : List UInt8} : bdry ([32] ++ r) := bdry_cons (by decide)
theorem pcs_ok : ∀ (t : Tr), t.good → ∀ (m : Nat) (g r : List UInt8), GapOk g → bdry (g ++ r) → okPcsR (t.pcs m g) r
  | .leaf x, hx, m, g, r, hg, hr => parenP_ok hg hr fun g r hg hr => by
    rcases leaf_good hx with ⟨ho, h0, h1⟩ | ⟨ho, h0⟩
    · rw [if_pos ho]
      exact okPcsR_cons (ok_num h0 h1 (by rw [pText_nil, List.nil_append]; exact hr)) hg trivial
    · rw [if_neg (by omega)]
      exact okPcsR_cons (ok_name h0 (by rw [pText_nil, List.nil_append]; exact hr)) hg trivial
  | .un a, hx, m, g, r, hg, hr => parenP_ok hg hr fun g r hg hr => okPcsR_cons (ok_minus _ _) .nil (pcs_ok a hx 4 g r hg hr)
  | .bin op a b, hx, m, g, r, hg, hr => parenP_ok hg hr fun g r hg hr => by
    obtain ⟨hb, ha, hb'⟩ := hx
    have hin : ∀ (la lb : Nat), okPcsR (a.pcs la [32] ++ symP (infixT op) [32] :: b.pcs lb g) r := fun la lb =>
      okPcsR_app _ _ _ (pcs_ok a ha _ _ _ gap_sp b_sp) (okPcsR_cons (ok_infix op _) gap_sp (pcs_ok b hb' _ _ _ hg hr))
    split
    · exact okPcsR_cons (ok_name (func_name op) b_lpar) .nil (okPcsR_cons (ok_lpar _ _) .nil (okPcsR_app _ _ _ (pcs_ok a ha _ _ _ .nil b_comma)
        (okPcsR_cons (ok_comma _ _) gap_sp (okPcsR_app _ _ _ (pcs_ok b hb' _ _ _ .nil b_rpar) (okPcsR_cons (ok_rpar _ _) hg trivial)))))
    · split
      · exact hin _ _
      · exact hin _ _
  | .cond a b c, hx, m, g, r, hg, hr => parenP_ok hg hr fun g r hg hr => by
    obtain ⟨ha, hb, hc⟩ := hx
    exact okPcsR_cons (ok_name (func_name 9) b_lpar) .nil (okPcsR_cons (ok_lpar _ _) .nil (okPcsR_app _ _ _ (pcs_ok a ha _ _ _ .nil b_comma)
        (okPcsR_cons (ok_comma _ _) gap_sp (okPcsR_app _ _ _ (pcs_ok b hb _ _ _ .nil b_comma) (okPcsR_cons (ok_comma _ _) gap_sp (okPcsR_app _ _ _ (pcs_ok c hc _ _ _ .nil b_rpar) (okPcsR_cons (ok_rpar _ _) hg trivial)))))))

/-! ### Sizes -/
theorem paren_len (own least : Nat) (l : List (Int × ByteArray × Int)) : (paren own least l).length ≤ l.length + 2 := by
  unfold paren
  split <;> simp
theorem toks_len : ∀ (t : Tr) (m : Nat), (t.toks m).length ≤ 8 * t.size
  | .leaf x, m => by
    have := paren_len 5 m (if x.op = 1 then [(2, ByteArray.empty, x.n)] else [(1, x.name, 0)])
    show (paren 5 m _).length ≤ _
    have h2 : (if x.op = 1 then [((2 : Int), ByteArray.empty, x.n)] else [(1, x.name, 0)]).length = 1 := by split <;> rfl
    simp only [Tr.size]
    omega
  | .un a, m => by
    have := paren_len 4 m (symE minus :: a.toks 4)
    have h1 := toks_len a 4
    show (paren 4 m _).length ≤ _
    simp only [Tr.size, List.length_cons] at this ⊢
    omega
  | .bin op a b, m => by
    have := paren_len (ownB op) m (if ownB op = 5 then (1, funcT op, 0) :: symE lpar :: (a.toks 1 ++ symE comma :: (b.toks 1 ++ [symE rpar]))
      else if ownB op = 1 then a.toks 2 ++ symE (infixT op) :: b.toks 2 else a.toks (ownB op) ++ symE (infixT op) :: b.toks (ownB op + 1))
    have h1 := toks_len a 1
    have h2 := toks_len b 1
    have h3 := toks_len a 2
    have h4 := toks_len b 2
    have h5 := toks_len a (ownB op)
    have h6 := toks_len b (ownB op + 1)
    show (paren (ownB op) m _).length ≤ _
    refine Nat.le_trans this ?_
    simp only [Tr.size]
    split
    · simp; omega
    · split <;> (simp; omega)
  | .cond a b c, m => by
    have := paren_len 5 m ((1, funcT 9, 0) :: symE lpar :: (a.toks 1 ++ symE comma :: (b.toks 1 ++ symE comma :: (c.toks 1 ++ [symE rpar]))))
    have h1 := toks_len a 1
    have h2 := toks_len b 1
    have h3 := toks_len c 1
    show (paren 5 m _).length ≤ _
    refine Nat.le_trans this ?_
    simp only [Tr.size]
    simp
    omega
theorem parenS_len (own least : Nat) (l : List UInt8) : (parenS own least l).length ≤ l.length + 2 := by
  unfold parenS
  split <;> simp
theorem infix_len (op : Int) : (infixT op).data.toList.length ≤ 2 := by
  unfold infixT
  repeat' split
  all_goals decide
theorem func_len (op : Int) : (funcT op).data.toList.length ≤ 3 := by
  unfold funcT
  repeat' split
  all_goals decide
theorem str_len : ∀ (t : Tr), t.good → ∀ (m : Nat), (t.str m).length ≤ 26 * t.size
  | .leaf x, hx, m => by
    have := parenS_len 5 m (if x.op = 1 then itoa x.n else x.name.data.toList)
    show (parenS 5 m _).length ≤ _
    refine Nat.le_trans this ?_
    simp only [Tr.size]
    rcases leaf_good hx with ⟨ho, h0, h1⟩ | ⟨ho, h0⟩
    · rw [if_pos ho, itoa_nn h0]
      have := (dec_len x.n.toNat).2 6 (by omega)
      omega
    · rw [if_neg (by omega)]
      unfold nameB at h0
      simp only [Bool.and_eq_true, decide_eq_true_eq] at h0
      have := h0.1.1.2
      have hs : x.name.data.toList.length = x.name.size := Array.length_toList
      omega
  | .un a, hx, m => by
    have := parenS_len 4 m (45 :: a.str 4)
    have h1 := str_len a hx 4
    show (parenS 4 m _).length ≤ _
    simp only [Tr.size, List.length_cons] at this ⊢
    omega
  | .bin op a b, hx, m => by
    obtain ⟨_, ha, hb⟩ := hx
    have := parenS_len (ownB op) m (if ownB op = 5 then (funcT op).data.toList ++ (40 :: (a.str 1 ++ (44 :: 32 :: (b.str 1 ++ [41]))))
      else if ownB op = 1 then a.str 2 ++ (32 :: ((infixT op).data.toList ++ (32 :: b.str 2))) else a.str (ownB op) ++ (32 :: ((infixT op).data.toList ++ (32 :: b.str (ownB op + 1)))))
    have h1 := str_len a ha 1
    have h2 := str_len b hb 1
    have h3 := str_len a ha 2
    have h4 := str_len b hb 2
    have h5 := str_len a ha (ownB op)
    have h6 := str_len b hb (ownB op + 1)
    have h7 := infix_len op
    have h8 := func_len op
    show (parenS (ownB op) m _).length ≤ _
    refine Nat.le_trans this ?_
    simp only [Tr.size]
    split
    · simp only [List.length_append, List.length_cons, List.length_nil]; omega
    · split <;> (simp only [List.length_append, List.length_cons, List.length_nil]; omega)
  | .cond a b c, hx, m => by
    obtain ⟨ha, hb, hc⟩ := hx
    have := parenS_len 5 m ((funcT 9).data.toList ++ (40 :: (a.str 1 ++ (44 :: 32 :: (b.str 1 ++ (44 :: 32 :: (c.str 1 ++ [41])))))))
    have h1 := str_len a ha 1
    have h2 := str_len b hb 1
    have h3 := str_len c hc 1
    have h8 := func_len 9
    show (parenS 5 m _).length ≤ _
    refine Nat.le_trans this ?_
    simp only [Tr.size]
    simp only [List.length_append, List.length_cons, List.length_nil]
    omega
/-- The lexer reads the text of a tree as its tokens. -/
theorem lex_tree {t : Tr} (hg : t.good) (hs : t.size ≤ 600) : ∃ toks, lexL ⟨(t.str 1).toArray⟩ = ⟨toks, 0, 0⟩ ∧ toks.map er = t.toks 1 := by
  have ht := pcs_t t 1 []
  have he := pcs_e t 1 []
  have hok := okPcsR_ok _ (pcs_ok t hg 1 [] [] .nil bdry_nil)
  have hl := toks_len t 1
  have hl2 := str_len t hg 1
  rw [List.append_nil] at ht
  have hlen : (t.pcs 1 []).length = (t.toks 1).length := by rw [← he, List.length_map]
  obtain ⟨toks, h1, h2, _⟩ := lex_text .nil hok (by omega) (by rw [List.nil_append, ht]; omega)
  rw [List.nil_append, ht] at h1
  exact ⟨toks, h1, by rw [h2, he]⟩
end Go.Proofs.YtkomgidcgepknaaGreatDoor
