/-
  What Parse returns for the text of a tree. No program.
-/
import Derived.Test.YtkomgidcgepknaaGreatDoorText
import Derived.Test.YtkomgidcgepknaaGreatDoorExpP
set_option linter.unusedVariables false
set_option linter.unusedSimpArgs false
namespace Go.Proofs.YtkomgidcgepknaaGreatDoor

/-- No error of the parser is 0. -/
def NoZ (r : Option PR) : Prop := ∀ x, r = some (Except.error x) → x.1 ≠ 0
theorem noZ_none : NoZ none := fun x h => by cases h
theorem noZ_ok (a : Int) (t : List Tok) (o : List Nod) : NoZ (some (PR.ok a t o)) := fun x h => by injection h with h; cases h
theorem noZ_put (t : List Tok) (o : List Nod) (y : Nod) : NoZ (some (putL t o y)) := noZ_ok _ _ _
theorem noZ_fail (z : Int) (t : List Tok) {err : Int} (he : err ≠ 0) : NoZ (some (failL z t err)) := fun x h => by
  cases t with
  | nil =>
    injection h with h
    injection h with h
    subst h
    show (6 : Int) ≠ 0
    decide
  | cons k l =>
    injection h with h
    injection h with h
    subst h
    exact he
theorem noZ_and {r : Option PR} {k : Int → List Tok → List Nod → Option PR} (h : NoZ r) (hk : ∀ a t o, NoZ (k a t o)) : NoZ (andL r k) := by
  cases r with
  | none => exact noZ_none
  | some v =>
    cases v with
    | error x => exact h
    | ok x => exact hk _ _ _
theorem noZ_par (z : Int) : ∀ f j, NoZ (parF z f j)
  | 0, j => noZ_none
  | f + 1, j => by
    unfold parF
    repeat' first
      | exact noZ_par z f _
      | exact noZ_ok _ _ _
      | exact noZ_put _ _ _
      | exact noZ_fail _ _ (by decide)
      | refine noZ_and (noZ_par z f _) fun a t o => ?_
      | split
/-- Tokens that are those of a tree are parsed as its nodes. -/
theorem toks_is {s : ByteArray} {toks : List Tok} (hl : lexL s = ⟨toks, 0, 0⟩) {t : Tr} (hg : t.good) (ht : toks.map er = t.toks 1) :
    ParseIs s (if validL (t.flat 0) = true then ⟨t.flat 0, 0, 0⟩ else ⟨[], 2, 0⟩) := by
  unfold ParseIs
  rw [if_neg (by rw [hl]; simp)]
  obtain ⟨f, h⟩ := parse_tree s.size hg (toks := (lexL s).toks) (by rw [hl]; exact ht)
  exact ⟨f, _, h, rfl⟩
/-- Every text has something that Parse returns. -/
theorem parse_is (s : ByteArray) : ∃ r, ParseIs s r := by
  unfold ParseIs
  by_cases h : (lexL s).err ≠ 0
  · exact ⟨_, by rw [if_pos h]⟩
  · obtain ⟨f, res, hr⟩ := par_whole s.size (lexL s).toks
    exact ⟨_, by rw [if_neg h]; exact ⟨f, res, hr, rfl⟩⟩
/-- Only one. -/
theorem parse_same {s : ByteArray} {r u : ParR} (h1 : ParseIs s r) (h2 : ParseIs s u) : r = u := by
  unfold ParseIs at h1 h2
  by_cases h : (lexL s).err ≠ 0
  · rw [if_pos h] at h1 h2
    rw [h1, h2]
  · rw [if_neg h] at h1 h2
    obtain ⟨f, a, ha, rfl⟩ := h1
    obtain ⟨g, b, hb, rfl⟩ := h2
    rw [parF_same ha hb]
/-- What it returns without an error is valid; with one there is nothing. -/
theorem parse_valid {s : ByteArray} {r : ParR} (h : ParseIs s r) : (r.err = 0 → validL r.out = true) ∧ (r.err ≠ 0 → r.out = []) := by
  unfold ParseIs at h
  by_cases he : (lexL s).err ≠ 0
  · rw [if_pos he] at h
    subst h
    exact ⟨fun h => absurd h he, fun _ => rfl⟩
  · rw [if_neg he] at h
    obtain ⟨f, res, hr, rfl⟩ := h
    unfold endP
    cases res with
    | error x => exact ⟨fun h => absurd h (noZ_par _ _ _ x hr), fun _ => rfl⟩
    | ok x =>
      obtain ⟨a, toks, out⟩ := x
      cases toks with
      | cons k l => exact ⟨fun h => by have h : (5 : Int) = 0 := h; omega, fun _ => rfl⟩
      | nil =>
        dsimp only
        split
        · rename_i hv
          exact ⟨fun _ => hv, fun h => absurd rfl h⟩
        · exact ⟨fun h => by have h : (2 : Int) = 0 := h; omega, fun _ => rfl⟩
/-- The text of a valid expression is parsed as it. -/
theorem parse_text {t : Tr} (hg : t.good) (hv : validL (t.flat 0) = true) : ParseIs ⟨(t.str 1).toArray⟩ ⟨t.flat 0, 0, 0⟩ := by
  have hs : t.size ≤ 300 := by
    rw [tree_valid_iff hg] at hv
    simp only [Bool.and_eq_true, decide_eq_true_eq] at hv
    exact hv.1
  obtain ⟨toks, h1, h2⟩ := lex_tree hg (by omega)
  have := toks_is h1 hg h2
  rwa [if_pos hv] at this
/-- Two valid expressions with one text are one. -/
theorem text_inj {t u : Tr} (hg : t.good) (hv : validL (t.flat 0) = true) (ug : u.good) (uv : validL (u.flat 0) = true) (h : t.str 1 = u.str 1) : t.flat 0 = u.flat 0 := by
  have h1 := parse_text hg hv
  have h2 := parse_text ug uv
  rw [h] at h1
  have := parse_same h1 h2
  injection this
end Go.Proofs.YtkomgidcgepknaaGreatDoor

/-
  Chapter 21, ExprParts: the plain law. No program.
-/
set_option linter.unusedVariables false
set_option linter.unusedSimpArgs false
namespace Go.Proofs.YtkomgidcgepknaaGreatDoor

/-- A node with other indices of operands. -/
def shiftI (d : Int) (x : Nod) : Nod := { x with kids := x.kids.map fun j => j + d }
theorem shiftI_nil {d : Int} {x : Nod} (h : x.kids = []) : shiftI d x = x := by
  obtain ⟨o, n, s, ks⟩ := x
  have h : ks = [] := h
  subst h
  rfl
theorem leaf_kids {x : Nod} (hg : (Tr.leaf x).good) : x.kids = [] := by
  have hops := formed_k hg.1
  rcases hg.2 with h | h <;> rw [h] at hops <;> simp [operands] at hops <;> exact List.eq_nil_of_length_eq_zero (by omega)
theorem flat_move : ∀ (t : Tr), t.good → ∀ (k m : Nat), (t.flat k).map (shiftI ((m : Int) - k)) = t.flat m
  | .leaf x, hg, k, m => by
    show [shiftI _ x] = [x]
    rw [shiftI_nil (leaf_kids hg)]
  | .un a, hg, k, m => by
    simp only [Tr.flat, List.map_append, List.map_cons, List.map_nil, flat_move a hg k m]
    simp only [shiftI, List.map_cons, List.map_nil]
    rw [show ((k + a.size : Nat) : Int) - 1 + ((m : Int) - k) = ((m + a.size : Nat) : Int) - 1 from by omega]
  | .bin op a b, hg, k, m => by
    have hb := flat_move b hg.2.2 (k + a.size) (m + a.size)
    rw [show (((m + a.size : Nat) : Int) - (k + a.size : Nat)) = (m : Int) - k from by omega] at hb
    simp only [Tr.flat, List.map_append, List.map_cons, List.map_nil, flat_move a hg.2.1 k m, hb]
    simp only [shiftI, List.map_cons, List.map_nil]
    rw [show ((k + a.size : Nat) : Int) - 1 + ((m : Int) - k) = ((m + a.size : Nat) : Int) - 1 from by omega,
      show ((k + a.size + b.size : Nat) : Int) - 1 + ((m : Int) - k) = ((m + a.size + b.size : Nat) : Int) - 1 from by omega]
  | .cond a b c, hg, k, m => by
    have hb := flat_move b hg.2.1 (k + a.size) (m + a.size)
    rw [show (((m + a.size : Nat) : Int) - (k + a.size : Nat)) = (m : Int) - k from by omega] at hb
    have hc := flat_move c hg.2.2 (k + a.size + b.size) (m + a.size + b.size)
    rw [show (((m + a.size + b.size : Nat) : Int) - (k + a.size + b.size : Nat)) = (m : Int) - k from by omega] at hc
    simp only [Tr.flat, List.map_append, List.map_cons, List.map_nil, flat_move a hg.1 k m, hb, hc]
    simp only [shiftI, List.map_cons, List.map_nil]
    rw [show ((k + a.size : Nat) : Int) - 1 + ((m : Int) - k) = ((m + a.size : Nat) : Int) - 1 from by omega,
      show ((k + a.size + b.size : Nat) : Int) - 1 + ((m : Int) - k) = ((m + a.size + b.size : Nat) : Int) - 1 from by omega,
      show ((k + a.size + b.size + c.size : Nat) : Int) - 1 + ((m : Int) - k) = ((m + a.size + b.size + c.size : Nat) : Int) - 1 from by omega]
/-- Every node is the root of a tree. -/
theorem sub_at {e : List Nod} : ∀ (t : Tr), t.good → ∀ (k i : Nat), AtL e k (t.flat k) → k ≤ i → i < k + t.size →
    ∃ (s : Tr) (K : Nat), s.good ∧ s.size ≤ t.size ∧ s.deep ≤ t.deep ∧ AtL e K (s.flat K) ∧ i + 1 = K + s.size ∧ k ≤ K
  | .leaf x, hg, k, i, ha, h1, h2 => ⟨.leaf x, k, hg, Nat.le_refl _, Nat.le_refl _, ha, by simp only [Tr.size] at h2 ⊢; omega, Nat.le_refl _⟩
  | .un a, hg, k, i, ha, h1, h2 => by
    by_cases h : i < k + a.size
    · obtain ⟨s, K, g1, g2, g3, g4, g5, g6⟩ := sub_at a hg k i ha.left h1 h
      exact ⟨s, K, g1, by simp only [Tr.size]; omega, by simp only [Tr.deep]; omega, g4, g5, g6⟩
    · exact ⟨.un a, k, hg, Nat.le_refl _, Nat.le_refl _, ha, by simp only [Tr.size] at h2 ⊢; omega, Nat.le_refl _⟩
  | .bin op a b, hg, k, i, ha, h1, h2 => by
    by_cases h : i < k + a.size
    · obtain ⟨s, K, g1, g2, g3, g4, g5, g6⟩ := sub_at a hg.2.1 k i ha.left.left h1 h
      exact ⟨s, K, g1, by simp only [Tr.size]; omega, by simp only [Tr.deep]; omega, g4, g5, g6⟩
    · by_cases h' : i < k + a.size + b.size
      · have hb := ha.left.right
        rw [Tr.flat_len] at hb
        obtain ⟨s, K, g1, g2, g3, g4, g5, g6⟩ := sub_at b hg.2.2 (k + a.size) i hb (by omega) h'
        exact ⟨s, K, g1, by simp only [Tr.size]; omega, by simp only [Tr.deep]; omega, g4, g5, by omega⟩
      · exact ⟨.bin op a b, k, hg, Nat.le_refl _, Nat.le_refl _, ha, by simp only [Tr.size] at h2 ⊢; omega, Nat.le_refl _⟩
  | .cond a b c, hg, k, i, ha, h1, h2 => by
    by_cases h : i < k + a.size
    · obtain ⟨s, K, g1, g2, g3, g4, g5, g6⟩ := sub_at a hg.1 k i ha.left.left.left h1 h
      exact ⟨s, K, g1, by simp only [Tr.size]; omega, by simp only [Tr.deep]; omega, g4, g5, g6⟩
    · by_cases h' : i < k + a.size + b.size
      · have hb := ha.left.left.right
        rw [Tr.flat_len] at hb
        obtain ⟨s, K, g1, g2, g3, g4, g5, g6⟩ := sub_at b hg.2.1 (k + a.size) i hb (by omega) h'
        exact ⟨s, K, g1, by simp only [Tr.size]; omega, by simp only [Tr.deep]; omega, g4, g5, by omega⟩
      · by_cases h'' : i < k + a.size + b.size + c.size
        · have hc := ha.left.right
          rw [List.length_append, Tr.flat_len, Tr.flat_len, ← Nat.add_assoc] at hc
          obtain ⟨s, K, g1, g2, g3, g4, g5, g6⟩ := sub_at c hg.2.2 (k + a.size + b.size) i hc (by omega) h''
          exact ⟨s, K, g1, by simp only [Tr.size]; omega, by simp only [Tr.deep]; omega, g4, g5, by omega⟩
        · exact ⟨.cond a b c, k, hg, Nat.le_refl _, Nat.le_refl _, ha, by simp only [Tr.size] at h2 ⊢; omega, Nat.le_refl _⟩
/-- The way down to the first node of a tree. -/
theorem first_go {e : List Nod} {s : Tr} (hg : s.good) {K : Nat} (h : AtL e K (s.flat K)) :
    ((nodAt e (K + s.size - 1)).kids = [] ∧ s.size = 1) ∨ ∃ (a : Tr) (r : List Int), a.good ∧ a.size < s.size ∧ AtL e K (a.flat K) ∧ (nodAt e (K + s.size - 1)).kids = (((K + a.size : Nat) : Int) - 1) :: r := by
  cases s with
  | leaf x =>
    left
    have : nodAt e K = x := h.one
    refine ⟨?_, rfl⟩
    show (nodAt e (K + 1 - 1)).kids = []
    rw [Nat.add_sub_cancel, this]
    exact leaf_kids hg
  | un a =>
    right
    refine ⟨a, [], hg, by simp only [Tr.size]; omega, h.left, ?_⟩
    have hn := AtL.right h
    rw [Tr.flat_len] at hn
    have hn := hn.one
    show (nodAt e (K + (a.size + 1) - 1)).kids = _
    rw [show K + (a.size + 1) - 1 = K + a.size from by omega, hn]
  | bin op a b =>
    right
    refine ⟨a, [((K + a.size + b.size : Nat) : Int) - 1], hg.2.1, by simp only [Tr.size]; omega, h.left.left, ?_⟩
    have hn := AtL.right h
    rw [List.length_append, Tr.flat_len, Tr.flat_len, ← Nat.add_assoc] at hn
    have hn := hn.one
    show (nodAt e (K + (a.size + b.size + 1) - 1)).kids = _
    rw [show K + (a.size + b.size + 1) - 1 = K + a.size + b.size from by omega, hn]
  | cond a b c =>
    right
    refine ⟨a, [((K + a.size + b.size : Nat) : Int) - 1, ((K + a.size + b.size + c.size : Nat) : Int) - 1], hg.1, by simp only [Tr.size]; omega, h.left.left.left, ?_⟩
    have hn := AtL.right h
    rw [List.length_append, List.length_append, Tr.flat_len, Tr.flat_len, Tr.flat_len, ← Nat.add_assoc, ← Nat.add_assoc] at hn
    have hn := hn.one
    show (nodAt e (K + (a.size + b.size + c.size + 1) - 1)).kids = _
    rw [show K + (a.size + b.size + c.size + 1) - 1 = K + a.size + b.size + c.size from by omega, hn]
theorem atL_list {e l : List Nod} {k : Nat} (h : AtL e k l) (hk : k + l.length ≤ e.length) : (e.drop k).take l.length = l := by
  apply List.ext_getElem?
  intro i
  by_cases hi : i < l.length
  · rw [List.getElem?_take, if_pos hi, List.getElem?_drop]
    have := h i hi
    rw [List.getElem?_eq_getElem (by omega), List.getElem?_eq_getElem hi]
    unfold nodAt at this
    rw [List.getD_eq_getElem?_getD, List.getElem?_eq_getElem (by omega), List.getD_eq_getElem?_getD, List.getElem?_eq_getElem hi] at this
    simpa using this
  · rw [List.getElem?_eq_none (by rw [List.length_take]; omega), List.getElem?_eq_none (by omega)]
/-- The nodes of a node of a valid expression, moved, are valid. -/
theorem part_plain {e : List Nod} (hv : validL e = true) {i : Nat} (hi : i < e.length) :
    ∃ (s : Tr) (K : Nat), s.good ∧ AtL e K (s.flat K) ∧ i + 1 = K + s.size ∧ ((e.drop K).take s.size).map (shiftI (-(K : Int))) = s.flat 0 ∧ validL (s.flat 0) = true := by
  obtain ⟨t, hg, rfl, h1, h2⟩ := valid_tree hv
  have hl := Tr.flat_len t 0
  obtain ⟨s, K, g1, g2, g3, g4, g5, g6⟩ := sub_at t hg 0 i (atL_self _) (Nat.zero_le _) (by omega)
  refine ⟨s, K, g1, g4, g5, ?_, tree_valid g1 (by omega) (by omega)⟩
  have h3 := atL_list g4 (by rw [Tr.flat_len]; omega)
  rw [Tr.flat_len] at h3
  rw [h3]
  have := flat_move s g1 K 0
  rwa [show (((0 : Nat) : Int) - (K : Int)) = -(K : Int) from by omega] at this
/-- Two expressions and a node with OpAdd. -/
def sumL (e o : List Nod) : List Nod := e ++ o.map (shiftI e.length) ++ [⟨3, 0, ByteArray.empty, [(e.length : Int) - 1, ((e.length + o.length : Nat) : Int) - 1]⟩]
theorem sum_tree {a b : Tr} (hb : b.good) : sumL (a.flat 0) (b.flat 0) = (Tr.bin 3 a b).flat 0 := by
  have := flat_move b hb 0 a.size
  rw [show ((a.size : Int) - ((0 : Nat) : Int)) = (a.size : Int) from by omega] at this
  unfold sumL
  rw [Tr.flat_len, Tr.flat_len, this]
  simp only [Tr.flat, Nat.zero_add]
/-- The text of both in parentheses with a '+' between them. -/
def sumS (s t : List UInt8) : List UInt8 := 40 :: (s ++ (41 :: 32 :: 43 :: 32 :: 40 :: (t ++ [41])))
theorem sum_lex {a b : Tr} (ha : a.good) (hb : b.good) (hs : a.size ≤ 300) (ht : b.size ≤ 300) :
    ∃ toks, lexL ⟨(sumS (a.str 1) (b.str 1)).toArray⟩ = ⟨toks, 0, 0⟩ ∧ toks.map er = symE lpar :: (a.toks 1 ++ [symE rpar]) ++ (symE (infixT 3) :: (symE lpar :: (b.toks 1 ++ [symE rpar]))) := by
  have hok : okPcs (symP lpar [] :: (a.pcs 1 [] ++ (symP rpar [32] :: symP (infixT 3) [32] :: symP lpar [] :: (b.pcs 1 [] ++ [symP rpar []])))) := by
    refine okPcsR_ok _ (okPcsR_cons (ok_lpar _ _) .nil (okPcsR_app _ _ _ (pcs_ok a ha 1 [] _ .nil b_rpar) (okPcsR_cons (ok_rpar _ _) gap_sp (okPcsR_cons (ok_infix 3 _) gap_sp (okPcsR_cons (ok_lpar _ _) .nil
      (okPcsR_app _ _ _ (pcs_ok b hb 1 [] _ .nil b_rpar) (okPcsR_cons (ok_rpar _ _) .nil trivial)))))))
  have htx : pText (symP lpar [] :: (a.pcs 1 [] ++ (symP rpar [32] :: symP (infixT 3) [32] :: symP lpar [] :: (b.pcs 1 [] ++ [symP rpar []])))) = sumS (a.str 1) (b.str 1) := by
    rw [pText_sym, pText_app, pcs_t, pText_sym, pText_sym, pText_sym, pText_app, pcs_t, pText_sym, pText_nil]
    simp only [lp_l, rp_l, List.append_nil, List.nil_append]
    show _ = 40 :: (a.str 1 ++ (41 :: 32 :: 43 :: 32 :: 40 :: (b.str 1 ++ [41])))
    simp [infixT]
  have la := toks_len a 1
  have lb := toks_len b 1
  have la2 := str_len a ha 1
  have lb2 := str_len b hb 1
  have ea : (a.pcs 1 []).length = (a.toks 1).length := by rw [← pcs_e a 1 [], List.length_map]
  have eb : (b.pcs 1 []).length = (b.toks 1).length := by rw [← pcs_e b 1 [], List.length_map]
  obtain ⟨toks, h1, h2, _⟩ := lex_text .nil hok (by simp only [List.length_cons, List.length_append, List.length_nil]; omega) (by
    rw [List.nil_append, htx]
    unfold sumS
    simp only [List.length_cons, List.length_append, List.length_nil]
    omega)
  rw [List.nil_append, htx] at h1
  refine ⟨toks, h1, ?_⟩
  rw [h2]
  simp only [List.map_cons, List.map_append, List.map_nil, pcs_e]
  simp [symP]
theorem sum_parse {a b : Tr} (ha : a.good) (hb : b.good) (hs : a.size ≤ 300) (ht : b.size ≤ 300) :
    ParseIs ⟨(sumS (a.str 1) (b.str 1)).toArray⟩ (if validL ((Tr.bin 3 a b).flat 0) = true then ⟨(Tr.bin 3 a b).flat 0, 0, 0⟩ else ⟨[], 2, 0⟩) := by
  obtain ⟨toks, h1, h2⟩ := sum_lex ha hb hs ht
  unfold ParseIs
  rw [if_neg (by rw [h1]; simp), h1]
  obtain ⟨pa, q1, rfl, hpa, hq1⟩ := map_append_inv h2
  obtain ⟨k, pb, rfl, hk, hpb⟩ := map_cons_inv hq1
  obtain ⟨k1, k2⟩ := er_sym hk
  have ho : ownB 3 = 2 := by decide
  obtain ⟨i1, i2, i3⟩ := infix_sym (op := 3) (by rw [ho]; decide)
  generalize ((⟨(sumS (a.str 1) (b.str 1)).toArray⟩ : ByteArray).size : Int) = z
  have ra := (reads_tree z a ha).a
  have rb := (reads_tree z b hb).a
  have hst : stopL 2 (k :: pb) := stop_infix (op := 3) (by rw [ho]; decide) hk (by rw [ho]; exact Nat.le_refl _)
  have A3 : Run z (jLevel 3 (pa ++ (k :: pb)) []) (okT a (k :: pb) []) := run_up (by omega) (run_par ra hpa) (loop_stop hst (by omega))
  have B4 := run_par (rest := []) (out := [] ++ a.flat 0) rb hpb
  rw [List.append_nil] at B4
  have B3 : Run z (jLevel 3 pb ([] ++ a.flat 0)) (okT b [] ([] ++ a.flat 0)) := run_up (by omega) B4 (loop_stop (m := 0) trivial (by omega))
  have G := loop_go (z := z) (l := 2) (a := (((([] : List Nod).length + a.size : Nat) : Int) - 1)) (v := okT (.bin 3 a b) [] []) k1 (by rw [k2, i1]; decide) (by rw [k2, i1, i2, ho]) (by omega) B3 (by
    rw [k2, i1]
    have hE := ok_bin (op := 3) (a := a) (b := b) (rest := []) (out := [])
    rw [← hE]
    exact loop_stop (m := 0) trivial (by omega))
  have L2 : Run z (jLevel 2 (pa ++ (k :: pb)) []) (okT (.bin 3 a b) [] []) := run_up (by omega) A3 G
  have L1 : Run z (jLevel 1 (pa ++ (k :: pb)) []) (okT (.bin 3 a b) [] []) := run_up (by omega) L2 (loop_stop (m := 0) trivial (by omega))
  obtain ⟨f, h⟩ := L1
  exact ⟨f, _, h, rfl⟩
end Go.Proofs.YtkomgidcgepknaaGreatDoor
