/-
  Expressions as trees: a good tree is a valid list of nodes; the tree is told by the list. No program.
-/
import Derived.Test.YtkomgidcgepknaaGreatDoorTree
set_option linter.unusedVariables false
set_option linter.unusedSimpArgs false
namespace Go.Proofs.YtkomgidcgepknaaGreatDoor

theorem scan_one {e : List Nod} {n : Nat} {os : List (Nat × Nat)} {x : Nod} (h : scanN e n = some os) (hx : nodAt e n = x) (hf : formedL x = true) (hk : x.kids.length ≤ os.length) (hr : x.kids.reverse = (os.take x.kids.length).map (fun (y : Nat × Nat) => (y.1 : Int))) :
    scanN e (n + 1) = some ((n, deepest (os.take x.kids.length) + 1) :: os.drop x.kids.length) := by
  show (match scanN e n with
      | none => none
      | some os => if formedL (nodAt e n) = true ∧ (nodAt e n).kids.length ≤ os.length ∧ (nodAt e n).kids.reverse = (os.take (nodAt e n).kids.length).map (fun (x : Nat × Nat) => (x.1 : Int))
        then some ((n, deepest (os.take (nodAt e n).kids.length) + 1) :: os.drop (nodAt e n).kids.length) else none) = _
  rw [h, hx]
  dsimp only
  rw [if_pos ⟨hf, hk, hr⟩]
theorem formed_un (v : Int) : formedL ⟨12, 0, ByteArray.empty, [v]⟩ = true := by simp [formedL, operands]
theorem formed_cond (u v w : Int) : formedL ⟨9, 0, ByteArray.empty, [u, v, w]⟩ = true := by simp [formedL, operands]
theorem formed_bin {op : Int} (h : binOp op) (u v : Int) : formedL ⟨op, 0, ByteArray.empty, [u, v]⟩ = true := by
  obtain ⟨h1, h2, h3⟩ := h
  unfold formedL operands
  dsimp only
  rw [if_neg (by omega), if_neg (by omega), if_neg h3, if_pos ⟨h1, h2⟩, if_neg (by omega), if_neg (by omega)]
  simp
theorem getD_left {l m : List Nod} {i : Nat} (h : i < l.length) : (l ++ m).getD i Nod.none_ = l.getD i Nod.none_ := by
  rw [List.getD_eq_getElem?_getD, List.getElem?_append_left h, ← List.getD_eq_getElem?_getD]
theorem getD_right {l m : List Nod} {i : Nat} : (l ++ m).getD (l.length + i) Nod.none_ = m.getD i Nod.none_ := by
  rw [List.getD_eq_getElem?_getD, List.getElem?_append_right (by omega), Nat.add_sub_cancel_left, ← List.getD_eq_getElem?_getD]
/-- The nodes of e from k on are those of l. -/
def AtL (e : List Nod) (k : Nat) (l : List Nod) : Prop := ∀ i, i < l.length → nodAt e (k + i) = l.getD i Nod.none_
theorem AtL.left {e l m : List Nod} {k : Nat} (h : AtL e k (l ++ m)) : AtL e k l := fun i hi => by
  rw [h i (by rw [List.length_append]; omega), getD_left hi]
theorem AtL.right {e l m : List Nod} {k : Nat} (h : AtL e k (l ++ m)) : AtL e (k + l.length) m := fun i hi => by
  rw [Nat.add_assoc, h (l.length + i) (by rw [List.length_append]; omega), getD_right]
theorem AtL.one {e : List Nod} {k : Nat} {x : Nod} (h : AtL e k [x]) : nodAt e k = x := h 0 (by simp)
theorem scan_tree (e : List Nod) : ∀ (t : Tr), t.good → ∀ (k : Nat) (os : List (Nat × Nat)), scanN e k = some os → AtL e k (t.flat k) → scanN e (k + t.size) = some ((k + t.size - 1, t.deep) :: os)
  | .leaf x, hg, k, os, h, ha => by
    have hops := formed_k hg.1
    have h0 : x.kids = [] := by
      rcases hg.2 with h | h <;> rw [h] at hops <;> simp [operands] at hops <;> exact List.eq_nil_of_length_eq_zero (by omega)
    have := scan_one h ha.one hg.1 (by rw [h0]; simp) (by rw [h0]; rfl)
    rw [h0] at this
    exact this
  | .un a, hg, k, os, h, ha => by
    have h1 := scan_tree e a hg k os h ha.left
    have hn := AtL.right ha
    rw [Tr.flat_len] at hn
    have hp := a.size_pos
    have := scan_one h1 hn.one (formed_un _) (by simp) (by
      show [(((k + a.size : Nat) : Int) - 1)] = [((k + a.size - 1 : Nat) : Int)]
      congr 1
      omega)
    rw [show k + (Tr.un a).size = k + a.size + 1 from by simp [Tr.size]; omega, this]
    show some ((k + a.size, deepest [(k + a.size - 1, a.deep)] + 1) :: os) = some ((k + a.size + 1 - 1, a.deep + 1) :: os)
    simp [deepest]
  | .bin op a b, hg, k, os, h, ha => by
    have h1 := scan_tree e a hg.2.1 k os h ha.left.left
    have hb := AtL.right (AtL.left ha)
    rw [Tr.flat_len] at hb
    have h2 := scan_tree e b hg.2.2 (k + a.size) _ h1 hb
    have hn := AtL.right ha
    rw [List.length_append, Tr.flat_len, Tr.flat_len, ← Nat.add_assoc] at hn
    have pa := a.size_pos
    have pb := b.size_pos
    have := scan_one h2 hn.one (formed_bin hg.1 _ _) (by simp) (by
      show [(((k + a.size + b.size : Nat) : Int) - 1), (((k + a.size : Nat) : Int) - 1)] = [((k + a.size + b.size - 1 : Nat) : Int), ((k + a.size - 1 : Nat) : Int)]
      simp only [List.cons.injEq, and_true]
      omega)
    rw [show k + (Tr.bin op a b).size = k + a.size + b.size + 1 from by simp [Tr.size]; omega, this]
    show some ((k + a.size + b.size, max b.deep (max a.deep 0) + 1) :: os) = some ((k + a.size + b.size + 1 - 1, max a.deep b.deep + 1) :: os)
    congr 3
    omega
  | .cond a b c, hg, k, os, h, ha => by
    have h1 := scan_tree e a hg.1 k os h ha.left.left.left
    have hb := AtL.right (AtL.left (AtL.left ha))
    rw [Tr.flat_len] at hb
    have h2 := scan_tree e b hg.2.1 (k + a.size) _ h1 hb
    have hc := AtL.right (AtL.left ha)
    rw [List.length_append, Tr.flat_len, Tr.flat_len, ← Nat.add_assoc] at hc
    have h3 := scan_tree e c hg.2.2 (k + a.size + b.size) _ h2 hc
    have hn := AtL.right ha
    rw [List.length_append, List.length_append, Tr.flat_len, Tr.flat_len, Tr.flat_len, ← Nat.add_assoc, ← Nat.add_assoc] at hn
    have pa := a.size_pos
    have pb := b.size_pos
    have pc := c.size_pos
    have := scan_one h3 hn.one (formed_cond _ _ _) (by simp) (by
      show [(((k + a.size + b.size + c.size : Nat) : Int) - 1), (((k + a.size + b.size : Nat) : Int) - 1), (((k + a.size : Nat) : Int) - 1)] = [((k + a.size + b.size + c.size - 1 : Nat) : Int), ((k + a.size + b.size - 1 : Nat) : Int), ((k + a.size - 1 : Nat) : Int)]
      simp only [List.cons.injEq, and_true]
      omega)
    rw [show k + (Tr.cond a b c).size = k + a.size + b.size + c.size + 1 from by simp [Tr.size]; omega, this]
    show some ((k + a.size + b.size + c.size, max c.deep (max b.deep (max a.deep 0)) + 1) :: os) = some ((k + a.size + b.size + c.size + 1 - 1, max a.deep (max b.deep c.deep) + 1) :: os)
    congr 3
    omega
theorem atL_self (l : List Nod) : AtL l 0 l := fun i hi => by rw [Nat.zero_add]; rfl
/-- A tree of few nodes that is not deep is valid. -/
theorem tree_valid {t : Tr} (hg : t.good) (hs : t.size ≤ 300) (hd : t.deep ≤ 40) : validL (t.flat 0) = true := by
  have h := scan_tree (t.flat 0) t hg 0 [] rfl (atL_self _)
  rw [valid_eq]
  unfold validR
  have hl := Tr.flat_len t 0
  have hp := t.size_pos
  rw [Nat.zero_add] at h
  rw [hl, h, decide_eq_true hp, decide_eq_true hs]
  exact decide_eq_true hd
theorem tree_valid_iff {t : Tr} (hg : t.good) : validL (t.flat 0) = (decide (t.size ≤ 300) && decide (t.deep ≤ 40)) := by
  have h := scan_tree (t.flat 0) t hg 0 [] rfl (atL_self _)
  rw [valid_eq]
  unfold validR
  have hl := Tr.flat_len t 0
  have hp := t.size_pos
  rw [Nat.zero_add] at h
  rw [hl, h, decide_eq_true hp]
  rfl
end Go.Proofs.YtkomgidcgepknaaGreatDoor
