/-
  Expressions as trees: a valid list of nodes is a tree, written down from left to right. No program.
-/
import Derived.Test.YtkomgidcgepknaaGreatDoorBndP
set_option linter.unusedVariables false
set_option linter.unusedSimpArgs false
namespace Go.Proofs.YtkomgidcgepknaaGreatDoor

inductive Tr where
  | leaf (x : Nod)
  | un (a : Tr)
  | bin (op : Int) (a b : Tr)
  | cond (a b c : Tr)
def Tr.size : Tr → Nat
  | .leaf _ => 1
  | .un a => a.size + 1
  | .bin _ a b => a.size + b.size + 1
  | .cond a b c => a.size + b.size + c.size + 1
def Tr.deep : Tr → Nat
  | .leaf _ => 1
  | .un a => a.deep + 1
  | .bin _ a b => max a.deep b.deep + 1
  | .cond a b c => max a.deep (max b.deep c.deep) + 1
/-- The nodes of a tree, the first of them at the index k. -/
def Tr.flat : Tr → Nat → List Nod
  | .leaf x, _ => [x]
  | .un a, k => a.flat k ++ [⟨12, 0, ByteArray.empty, [((k + a.size : Nat) : Int) - 1]⟩]
  | .bin op a b, k => a.flat k ++ b.flat (k + a.size) ++ [⟨op, 0, ByteArray.empty, [((k + a.size : Nat) : Int) - 1, ((k + a.size + b.size : Nat) : Int) - 1]⟩]
  | .cond a b c, k => a.flat k ++ b.flat (k + a.size) ++ c.flat (k + a.size + b.size) ++ [⟨9, 0, ByteArray.empty, [((k + a.size : Nat) : Int) - 1, ((k + a.size + b.size : Nat) : Int) - 1, ((k + a.size + b.size + c.size : Nat) : Int) - 1]⟩]
def binOp (op : Int) : Prop := 3 ≤ op ∧ op ≤ 11 ∧ op ≠ 9
def Tr.good : Tr → Prop
  | .leaf x => formedL x = true ∧ (x.op = 1 ∨ x.op = 2)
  | .un a => a.good
  | .bin op a b => binOp op ∧ a.good ∧ b.good
  | .cond a b c => a.good ∧ b.good ∧ c.good
theorem Tr.flat_len : ∀ (t : Tr) (k : Nat), (t.flat k).length = t.size
  | .leaf _, _ => rfl
  | .un a, k => by simp [Tr.flat, Tr.size, Tr.flat_len a]
  | .bin _ a b, k => by simp [Tr.flat, Tr.size, Tr.flat_len a, Tr.flat_len b]; omega
  | .cond a b c, k => by simp [Tr.flat, Tr.size, Tr.flat_len a, Tr.flat_len b, Tr.flat_len c]; omega
theorem Tr.size_pos (t : Tr) : 1 ≤ t.size := by cases t <;> simp [Tr.size]
theorem Tr.deep_pos (t : Tr) : 1 ≤ t.deep := by cases t <;> simp [Tr.deep]
/-- A forest, the last tree first. -/
def fl : List Tr → List Nod
  | [] => []
  | t :: ts => fl ts ++ t.flat (fl ts).length
def rootsF : List Tr → List (Nat × Nat)
  | [] => []
  | t :: ts => ((fl ts).length + t.size - 1, t.deep) :: rootsF ts
theorem fl_len (t : Tr) (ts : List Tr) : (fl (t :: ts)).length = (fl ts).length + t.size := by
  show (fl ts ++ t.flat (fl ts).length).length = _
  rw [List.length_append, Tr.flat_len]
theorem rootsF_len : ∀ ts : List Tr, (rootsF ts).length = ts.length
  | [] => rfl
  | _ :: ts => by simp [rootsF, rootsF_len ts]
theorem formed_n {x : Nod} (h : formedL x = true) (h3 : 3 ≤ x.op) : x.n = 0 ∧ x.name = ByteArray.empty := by
  unfold formedL at h
  rw [if_neg (by omega), if_neg (by omega)] at h
  simp only [Bool.and_eq_true, decide_eq_true_eq] at h
  exact h.2
theorem formed_k {x : Nod} (h : formedL x = true) : operands x.op = (x.kids.length : Int) := by
  unfold formedL at h
  rw [Bool.and_eq_true, decide_eq_true_eq] at h
  exact h.1
theorem nod_ext {x : Nod} {op : Int} {ks : List Int} (h1 : x.op = op) (h2 : x.n = 0) (h3 : x.name = ByteArray.empty) (h4 : x.kids = ks) : x = ⟨op, 0, ByteArray.empty, ks⟩ := by
  cases x
  simp only at h1 h2 h3 h4
  rw [h1, h2, h3, h4]
/-- One more node behind a forest. -/
theorem forest_step {ts : List Tr} {x : Nod} (hg : ∀ t ∈ ts, t.good) (hf : formedL x = true) (hk : x.kids.length ≤ (rootsF ts).length) (hr : x.kids.reverse = ((rootsF ts).take x.kids.length).map (fun y => (y.1 : Int))) :
    ∃ ts', (∀ t ∈ ts', t.good) ∧ fl ts' = fl ts ++ [x] ∧ rootsF ts' = ((fl ts).length, deepest ((rootsF ts).take x.kids.length) + 1) :: (rootsF ts).drop x.kids.length := by
  have hops := formed_k hf
  have hok := formed_ok hf
  have hop : x.op = 1 ∨ x.op = 2 ∨ x.op = 12 ∨ x.op = 9 ∨ binOp x.op := by
    unfold binOp
    have := hok.1
    have := hok.2.1
    omega
  rcases hop with h | h | h | h | h
  · have h0 : x.kids.length = 0 := by rw [h] at hops; simp [operands] at hops; omega
    refine ⟨.leaf x :: ts, fun t ht => ?_, rfl, ?_⟩
    · rcases List.mem_cons.1 ht with rfl | ht
      · exact ⟨hf, .inl h⟩
      · exact hg t ht
    · rw [h0]
      show ((fl ts).length + 1 - 1, 1) :: rootsF ts = _
      simp [deepest]
  · have h0 : x.kids.length = 0 := by rw [h] at hops; simp [operands] at hops; omega
    refine ⟨.leaf x :: ts, fun t ht => ?_, rfl, ?_⟩
    · rcases List.mem_cons.1 ht with rfl | ht
      · exact ⟨hf, .inr h⟩
      · exact hg t ht
    · rw [h0]
      show ((fl ts).length + 1 - 1, 1) :: rootsF ts = _
      simp [deepest]
  · have hn := formed_n hf (by omega)
    have h1 : x.kids.length = 1 := by rw [h] at hops; simp [operands] at hops; omega
    rw [h1] at hk hr ⊢
    match ts, hg, hk, hr with
    | a :: ts, hg, hk, hr =>
      have hkids : x.kids = [(((fl ts).length + a.size - 1 : Nat) : Int)] := by
        have := congrArg List.reverse hr
        rw [List.reverse_reverse] at this
        exact this
      have hp := a.size_pos
      have hx : x = ⟨12, 0, ByteArray.empty, [(((fl ts).length + a.size : Nat) : Int) - 1]⟩ := nod_ext h hn.1 hn.2 (by rw [hkids]; congr 1; omega)
      refine ⟨.un a :: ts, fun t ht => ?_, ?_, ?_⟩
      · rcases List.mem_cons.1 ht with rfl | ht
        · exact hg a List.mem_cons_self
        · exact hg t (List.mem_cons_of_mem _ ht)
      · show fl ts ++ (a.flat _ ++ [_]) = (fl ts ++ a.flat _) ++ [x]
        rw [hx, List.append_assoc]
      · show ((fl ts).length + (a.size + 1) - 1, a.deep + 1) :: rootsF ts = ((fl (a :: ts)).length, deepest [((fl ts).length + a.size - 1, a.deep)] + 1) :: rootsF ts
        rw [fl_len]
        simp [deepest]
  · have hn := formed_n hf (by omega)
    have h3 : x.kids.length = 3 := by rw [h] at hops; simp [operands] at hops; omega
    rw [h3] at hk hr ⊢
    match ts, hg, hk, hr with
    | [], hg, hk, hr => simp [rootsF] at hk
    | [_], hg, hk, hr => simp [rootsF] at hk
    | [_, _], hg, hk, hr => simp [rootsF] at hk
    | c :: b :: a :: ts, hg, hk, hr =>
      have hkids : x.kids = [(((fl ts).length + a.size - 1 : Nat) : Int), (((fl (a :: ts)).length + b.size - 1 : Nat) : Int), (((fl (b :: a :: ts)).length + c.size - 1 : Nat) : Int)] := by
        have := congrArg List.reverse hr
        rw [List.reverse_reverse] at this
        exact this
      have pa := a.size_pos
      have pb := b.size_pos
      have pc := c.size_pos
      rw [fl_len, fl_len, fl_len] at hkids
      have hx : x = ⟨9, 0, ByteArray.empty, [(((fl ts).length + a.size : Nat) : Int) - 1, (((fl ts).length + a.size + b.size : Nat) : Int) - 1, (((fl ts).length + a.size + b.size + c.size : Nat) : Int) - 1]⟩ := nod_ext h hn.1 hn.2 (by rw [hkids]; simp only [List.cons.injEq, and_true]; omega)
      refine ⟨.cond a b c :: ts, fun t ht => ?_, ?_, ?_⟩
      · rcases List.mem_cons.1 ht with rfl | ht
        · exact ⟨hg a (by simp), hg b (by simp), hg c (by simp)⟩
        · exact hg t (by simp [ht])
      · show fl ts ++ (a.flat _ ++ b.flat _ ++ c.flat _ ++ [_]) = ((fl ts ++ a.flat _) ++ b.flat (fl (a :: ts)).length ++ c.flat (fl (b :: a :: ts)).length) ++ [x]
        rw [hx, fl_len, fl_len, fl_len]
        simp only [List.append_assoc]
      · show ((fl ts).length + (a.size + b.size + c.size + 1) - 1, max a.deep (max b.deep c.deep) + 1) :: rootsF ts = ((fl (c :: b :: a :: ts)).length, max c.deep (max b.deep (max a.deep 0)) + 1) :: rootsF ts
        rw [fl_len, fl_len, fl_len]
        congr 2 <;> omega
  · obtain ⟨hb1, hb2, hb3⟩ := h
    have hn := formed_n hf hb1
    have h2 : x.kids.length = 2 := by
      unfold operands at hops
      rw [if_neg (by omega), if_neg (by omega), if_neg hb3, if_pos ⟨hb1, hb2⟩] at hops
      omega
    rw [h2] at hk hr ⊢
    match ts, hg, hk, hr with
    | [], hg, hk, hr => simp [rootsF] at hk
    | [_], hg, hk, hr => simp [rootsF] at hk
    | b :: a :: ts, hg, hk, hr =>
      have hkids : x.kids = [(((fl ts).length + a.size - 1 : Nat) : Int), (((fl (a :: ts)).length + b.size - 1 : Nat) : Int)] := by
        have := congrArg List.reverse hr
        rw [List.reverse_reverse] at this
        exact this
      have pa := a.size_pos
      have pb := b.size_pos
      rw [fl_len] at hkids
      have hx : x = ⟨x.op, 0, ByteArray.empty, [(((fl ts).length + a.size : Nat) : Int) - 1, (((fl ts).length + a.size + b.size : Nat) : Int) - 1]⟩ := nod_ext rfl hn.1 hn.2 (by rw [hkids]; simp only [List.cons.injEq, and_true]; omega)
      refine ⟨.bin x.op a b :: ts, fun t ht => ?_, ?_, ?_⟩
      · rcases List.mem_cons.1 ht with rfl | ht
        · exact ⟨⟨hb1, hb2, hb3⟩, hg a (by simp), hg b (by simp)⟩
        · exact hg t (by simp [ht])
      · show fl ts ++ (a.flat _ ++ b.flat _ ++ [_]) = ((fl ts ++ a.flat _) ++ b.flat (fl (a :: ts)).length) ++ [x]
        rw [fl_len]
        conv => rhs; rw [hx]
        simp only [List.append_assoc]
      · show ((fl ts).length + (a.size + b.size + 1) - 1, max a.deep b.deep + 1) :: rootsF ts = ((fl (b :: a :: ts)).length, max b.deep (max a.deep 0) + 1) :: rootsF ts
        rw [fl_len, fl_len]
        congr 2 <;> omega
theorem scan_forest {e : List Nod} : ∀ (n : Nat) (os : List (Nat × Nat)), n ≤ e.length → scanN e n = some os → ∃ ts, (∀ t ∈ ts, Tr.good t) ∧ fl ts = e.take n ∧ rootsF ts = os
  | 0, os, _, h => by
    injection h with h
    subst h
    exact ⟨[], fun t ht => absurd ht List.not_mem_nil, by simp [fl], rfl⟩
  | n + 1, os, hn, h => by
    have h' : (match scanN e n with
      | none => none
      | some os => if formedL (nodAt e n) = true ∧ (nodAt e n).kids.length ≤ os.length ∧ (nodAt e n).kids.reverse = (os.take (nodAt e n).kids.length).map (fun x => (x.1 : Int))
        then some ((n, deepest (os.take (nodAt e n).kids.length) + 1) :: os.drop (nodAt e n).kids.length) else none) = some os := h
    cases hs : scanN e n with
    | none => rw [hs] at h'; cases h'
    | some os0 =>
      rw [hs] at h'
      simp only at h'
      split at h'
      · rename_i hc
        injection h' with h'
        subst h'
        obtain ⟨ts, hg, hf, hr⟩ := scan_forest n os0 (by omega) hs
        subst hr
        obtain ⟨ts', h1, h2, h3⟩ := forest_step hg hc.1 hc.2.1 hc.2.2
        have hl : (fl ts).length = n := by rw [hf, List.length_take]; omega
        refine ⟨ts', h1, ?_, ?_⟩
        · rw [h2, hf, nod_take (by omega)]
        · rw [h3, hl]
      · cases h'
/-- A valid expression is a tree. -/
theorem valid_tree {e : List Nod} (h : validL e = true) : ∃ t : Tr, t.good ∧ e = t.flat 0 ∧ t.size ≤ 300 ∧ t.deep ≤ 40 := by
  have h' := h
  rw [valid_eq] at h'
  unfold validR at h'
  simp only [Bool.and_eq_true, decide_eq_true_eq] at h'
  obtain ⟨⟨h1, h2⟩, h3⟩ := h'
  cases hs : scanN e e.length with
  | none => rw [hs] at h3; cases h3
  | some os =>
    rw [hs] at h3
    obtain ⟨ts, hg, hf, hr⟩ := scan_forest e.length os (Nat.le_refl _) hs
    rw [List.take_length] at hf
    match os, h3, hr with
    | [x], h3, hr =>
      match ts, hg, hf, hr with
      | [t], hg, hf, hr =>
        have he : e = t.flat 0 := hf.symm
        refine ⟨t, hg t (by simp), he, ?_, ?_⟩
        · rw [← Tr.flat_len t 0, ← he]
          exact h2
        · injection hr with hr _
          rw [← hr] at h3
          exact of_decide_eq_true h3
      | [], hg, hf, hr => cases hr
      | _ :: _ :: _, hg, hf, hr => injection hr with _ hr; cases hr
end Go.Proofs.YtkomgidcgepknaaGreatDoor
