/-
  Gaps around all tokens. No program.
-/
import Derived.Test.YtmelebfpkjnfdaaGreatDoorLexS
import Derived.Test.YtmelebfpkjnfdaaGreatDoorParX
import Derived.Test.YtmelebfpkjnfdaaGreatDoorTxtP
set_option linter.unusedVariables false
set_option linter.unusedSimpArgs false
namespace Go.Proofs.YtmelebfpkjnfdaaGreatDoor

/-- What is read are names, numbers and symbols. -/
theorem G_kinds {m : Md} {toks : List Tok} {out : List Nod} {a : Int} {t : List Tok} {o : List Nod} (g : G m toks out a t o) : ∃ pre, toks = pre ++ t ∧ ∀ k ∈ pre, k.kind = 1 ∨ k.kind = 2 ∨ k.kind = 4 := by
  have one : ∀ {k : Tok} {pre : List Tok}, (k.kind = 1 ∨ k.kind = 2 ∨ k.kind = 4) → (∀ x ∈ pre, x.kind = 1 ∨ x.kind = 2 ∨ x.kind = 4) → ∀ x ∈ k :: pre, x.kind = 1 ∨ x.kind = 2 ∨ x.kind = 4 := by
    intro k pre hk hp x hx
    rcases List.mem_cons.1 hx with h | h
    · rw [h]; exact hk
    · exact hp x h
  have two : ∀ {p q : List Tok}, (∀ x ∈ p, x.kind = 1 ∨ x.kind = 2 ∨ x.kind = 4) → (∀ x ∈ q, x.kind = 1 ∨ x.kind = 2 ∨ x.kind = 4) → ∀ x ∈ p ++ q, x.kind = 1 ∨ x.kind = 2 ∨ x.kind = 4 := by
    intro p q hp hq x hx
    rcases List.mem_append.1 hx with h | h
    · exact hp x h
    · exact hq x h
  have sym : ∀ {k : Tok} {r : List Tok} {s : ByteArray}, seesL (k :: r) 0 s = true → k.kind = 1 ∨ k.kind = 2 ∨ k.kind = 4 := by
    intro k r s h
    have h : (k.kind == 4 && decide (k.text = s)) = true := h
    rw [Bool.and_eq_true, beq_iff_eq] at h
    exact .inr (.inr h.1)
  induction g with
  | neg h g ih =>
    obtain ⟨k, r, rfl⟩ := sees_consG (i := 0) h
    obtain ⟨pre, h1, h2⟩ := ih
    exact ⟨k :: pre, by rw [List.cons_append, ← h1]; rfl, one (sym h) h2⟩
  | prim h g ih => exact ih
  | up h g k ihg ihk =>
    obtain ⟨p, hp, hp2⟩ := ihg
    obtain ⟨q, hq, hq2⟩ := ihk
    exact ⟨p ++ q, by rw [hp, hq, List.append_assoc], two hp2 hq2⟩
  | stopN => exact ⟨[], rfl, fun x hx => by cases hx⟩
  | stop h => exact ⟨[], rfl, fun x hx => by cases hx⟩
  | @weak a k r out b t o h h0 hs g ih =>
    obtain ⟨p, hp, hp2⟩ := ih
    exact ⟨k :: p, by rw [hp]; rfl, one (.inr (.inr h)) hp2⟩
  | @more l a k r out b u p c t o h h0 hs hl g m ihg ihm =>
    obtain ⟨p, hp, hp2⟩ := ihg
    obtain ⟨q, hq, hq2⟩ := ihm
    exact ⟨k :: (p ++ q), by rw [hp, hq, List.cons_append, List.append_assoc], one (.inr (.inr h)) (two hp2 hq2)⟩
  | @par k r out a t o q h g hq ih =>
    obtain ⟨p, hp, hp2⟩ := ih
    exact ⟨k :: (p ++ [q]), by rw [hp]; simp, one (sym h) (two hp2 (one (sym hq) fun x hx => by cases hx))⟩
  | @num k r out h hn => exact ⟨[k], rfl, one (.inr (.inl h)) fun x hx => by cases hx⟩
  | @name k r out h h0 hs => exact ⟨[k], rfl, one (.inl h) fun x hx => by cases hx⟩
  | @call k r out a t o h h0 g ih =>
    obtain ⟨p, hp, hp2⟩ := ih
    exact ⟨k :: p, by rw [hp]; rfl, one (.inl h) hp2⟩
  | @arg op i kids k r out b u p a t o h hs g m ihg ihm =>
    obtain ⟨p, hp, hp2⟩ := ihg
    obtain ⟨q, hq, hq2⟩ := ihm
    exact ⟨k :: (p ++ q), by rw [hp, hq, List.cons_append, List.append_assoc], one (sym hs) (two hp2 hq2)⟩
  | @done op i kids k r out h hs => exact ⟨[k], rfl, one (sym hs) fun x hx => by cases hx⟩

theorem valid_formed {e : List Nod} (h : validL e = true) : ∀ x ∈ e, formedL x = true := by
  intro x hx
  obtain ⟨i, hi, rfl⟩ := List.getElem_of_mem hx
  have := ((valid_nodes h).2.2 i hi).1
  rw [nodAt_get' hi]
  exact this

/-! ### Sizes -/
def sumB (l : List Tok) : Nat := (l.map fun t => t.text.size).sum
theorem next_size {s : ByteArray} {i : Nat} (hi : i < s.size) (h : (nextT s i).1 = 0) : i < (nextT s i).2.2 ∧ (nextT s i).2.2 ≤ s.size ∧ i + (nextT s i).2.1.text.size ≤ (nextT s i).2.2 := by
  have he := nextT_end hi h
  refine ⟨he.1, he.2, ?_⟩
  have ex : ∀ e, e ≤ s.size → i ≤ e → i + (s.extract i e).size ≤ e := fun e h1 h2 => by rw [extract_size s i e h1]; omega
  unfold nextT at h he ⊢
  by_cases h3 : atC s i = 3
  · rw [if_pos h3] at h he ⊢
    by_cases h24 : 24 < whileE s isWordC i - i
    · rw [if_pos h24] at h; exact absurd h (by decide)
    · rw [if_neg h24] at he ⊢
      exact ex _ he.2 (Nat.le_of_lt he.1)
  rw [if_neg h3] at h he ⊢
  by_cases h4 : atC s i = 4
  · rw [if_pos h4] at h he ⊢
    by_cases h13 : 13 < whileE s isDigC i - i ∨ atC s (whileE s isDigC i) = 3 ∨ atC s (whileE s isDigC i) = 5
    · rw [if_pos h13] at h; exact absurd h (by decide)
    · rw [if_neg h13] at he ⊢
      exact ex _ he.2 (Nat.le_of_lt he.1)
  rw [if_neg h4] at h he ⊢
  by_cases h6 : atC s i = 6
  · rw [if_pos h6] at h he ⊢
    cases hf : find s isQuo (i + 1) with
    | none => rw [hf] at h; have h : (6 : Int) = 0 := h; omega
    | some k =>
      rw [hf] at h he
      dsimp only at h he ⊢
      by_cases c1 : bAt s k = 10
      · rw [if_pos c1] at h; exact absurd h (by decide)
      rw [if_neg c1] at h he ⊢
      by_cases c2 : 400 < k - (i + 1)
      · rw [if_pos c2] at h; exact absurd h (by decide)
      rw [if_neg c2] at he ⊢
      have hk := find_some hf
      show i + (s.extract (i + 1) k).size ≤ k + 1
      rw [extract_size s (i + 1) k (by omega)]
      omega
  rw [if_neg h6] at h he ⊢
  by_cases h78 : atC s i = 7 ∨ atC s i = 8
  · rw [if_pos h78] at h he ⊢
    by_cases h61 : bAt s (i + 1) = 61
    · rw [if_pos h61] at he ⊢
      exact ex _ he.2 (Nat.le_of_lt he.1)
    · rw [if_neg h61] at h he ⊢
      by_cases h7 : atC s i = 7
      · rw [if_pos h7] at h; exact absurd h (by decide)
      · rw [if_neg h7] at he ⊢
        exact ex _ he.2 (Nat.le_of_lt he.1)
  rw [if_neg h78] at h he ⊢
  by_cases h9 : atC s i = 9
  · rw [if_pos h9] at he ⊢
    exact ex _ he.2 (Nat.le_of_lt he.1)
  · rw [if_neg h9] at h; exact absurd h (by decide)
theorem sumB_app (a b : List Tok) : sumB (a ++ b) = sumB a + sumB b := by unfold sumB; rw [List.map_append, List.sum_append]
theorem lexF_sum (s : ByteArray) : ∀ (f i : Nat) (acc : List Tok), i ≤ s.size → acc.length ≤ i → sumB acc ≤ i → (lexF s f i acc).toks.length ≤ s.size ∧ sumB (lexF s f i acc).toks ≤ s.size
  | 0, i, acc, hi, h1, h2 => ⟨by show acc.length ≤ _; omega, by show sumB acc ≤ _; omega⟩
  | f + 1, i, acc, hi, h1, h2 => by
    unfold lexF
    split
    · rename_i hlt
      split
      · exact ⟨Nat.zero_le _, Nat.zero_le _⟩
      · rename_i he
        have hn := next_size hlt (by simpa using he)
        split
        · exact ⟨Nat.zero_le _, Nat.zero_le _⟩
        · have hg := gapE_ge s (nextT s i).2.2 hn.2.1
          refine lexF_sum s f _ _ hg.2 (by rw [List.length_append]; simp only [List.length_cons, List.length_nil]; omega) ?_
          rw [sumB_app]
          have : sumB [(nextT s i).2.1] = (nextT s i).2.1.text.size := by simp [sumB]
          omega
    · exact ⟨by show acc.length ≤ _; omega, by show sumB acc ≤ _; omega⟩
theorem lexL_sum (s : ByteArray) : (lexL s).toks.length ≤ s.size ∧ sumB (lexL s).toks ≤ s.size := by
  unfold lexL
  split
  · exact ⟨Nat.zero_le _, Nat.zero_le _⟩
  · have := gapE_ge s 0 (Nat.zero_le _)
    exact lexF_sum s _ _ [] this.2 (Nat.zero_le _) (Nat.zero_le _)

/-! ### The text with gaps -/
def gap5 : List UInt8 := [32, 35, 32, 41, 10]
def tabOf (l : List Tok) : List UInt8 := if l.isEmpty then [] else [9]
def wideP : List Tok → List Pc
  | [] => [symP rpar []]
  | t :: ts => ⟨er t, t.text.data.toList, gap5 ++ tabOf ts⟩ :: wideP ts
def wideL (toks : List Tok) : List UInt8 := [35, 10, 40] ++ (toks.flatMap (fun t => 9 :: (t.text.data.toList ++ gap5)) ++ [41])
theorem wide_text : ∀ toks, tabOf toks ++ pText (wideP toks) = toks.flatMap (fun t => 9 :: (t.text.data.toList ++ gap5)) ++ [41]
  | [] => rfl
  | t :: ts => by
    have ih := wide_text ts
    show [9] ++ pText (⟨er t, t.text.data.toList, gap5 ++ tabOf ts⟩ :: wideP ts) = (9 :: (t.text.data.toList ++ gap5)) ++ ts.flatMap _ ++ [41]
    rw [pText_cons]
    show [9] ++ (t.text.data.toList ++ ((gap5 ++ tabOf ts) ++ pText (wideP ts))) = _
    rw [List.append_assoc gap5, ih]
    simp only [List.cons_append, List.nil_append, List.append_assoc]
theorem gap5_ok (ts : List Tok) : GapOk (gap5 ++ tabOf ts) := by
  unfold tabOf
  split
  · exact .blank (by decide) (.note (m := [32, 41]) (g := []) (by decide) .nil)
  · exact .blank (by decide) (.note (m := [32, 41]) (g := [9]) (by decide) (.blank (by decide) .nil))
theorem tab_ok (ts : List Tok) : GapOk (tabOf ts) := by
  unfold tabOf
  split
  · exact .nil
  · exact .blank (by decide) .nil
theorem tok_pc {t : Tok} (h : tokOk t) (hk : t.kind = 1 ∨ t.kind = 2 ∨ t.kind = 4) (r : List UInt8) (g : List UInt8) : okPc ⟨er t, t.text.data.toList, g⟩ (32 :: r) := by
  rcases hk with hk | hk | hk
  · obtain ⟨h1, h2⟩ := h.1 hk
    refine .inl ⟨?_, ?_, bdry_cons (by decide)⟩
    · show (t.kind, (if t.kind = 2 then ByteArray.empty else t.text), t.n) = (1, (⟨t.text.data.toList.toArray⟩ : ByteArray), 0)
      rw [ba_list, hk, h2, if_neg (by decide)]
    · show nameB ⟨t.text.data.toList.toArray⟩ = true
      rw [ba_list]; exact h1
  · obtain ⟨h1, h2, h3, h4⟩ := h.2.1 hk
    refine .inr (.inl ⟨?_, h1, ?_, ?_, bdry_cons (by decide)⟩)
    · show (t.kind, (if t.kind = 2 then ByteArray.empty else t.text), t.n) = (2, ByteArray.empty, numV t.text.data.toList)
      rw [hk, ← h4, if_pos rfl]
    · show 1 ≤ t.text.data.toList.length
      rw [list_len]; exact h2
    · show t.text.data.toList.length ≤ 13
      rw [list_len]; exact h3
  · obtain ⟨h1, c, h2⟩ := h.2.2 hk
    refine .inr (.inr ⟨?_, ?_⟩)
    · show (t.kind, (if t.kind = 2 then ByteArray.empty else t.text), t.n) = (4, (⟨t.text.data.toList.toArray⟩ : ByteArray), 0)
      rw [ba_list, hk, h1, if_neg (by decide)]
    · rcases h2 with ⟨h2, h3 | h3⟩ | ⟨h2, h3⟩
      · exact .inl ⟨c, h2, h3⟩
      · exact .inr (.inl ⟨c, h2, h3, by simp⟩)
      · exact .inr (.inr ⟨c, h2, h3⟩)
theorem wide_ok : ∀ toks, (∀ t ∈ toks, tokOk t ∧ (t.kind = 1 ∨ t.kind = 2 ∨ t.kind = 4)) → okPcsR (wideP toks) []
  | [], _ => okPcsR_cons (ok_rpar _ _) .nil trivial
  | t :: ts, h => by
    have ht := h t List.mem_cons_self
    exact okPcsR_cons (tok_pc ht.1 ht.2 _ _) (gap5_ok ts) (wide_ok ts fun x hx => h x (List.mem_cons_of_mem _ hx))
theorem wide_e : ∀ toks, (wideP toks).map Pc.e = toks.map er ++ [symE rpar]
  | [] => rfl
  | t :: ts => by
    show er t :: (wideP ts).map Pc.e = _
    rw [wide_e ts]; rfl
theorem wide_b : ∀ toks, (wideP toks).map (fun p => (⟨p.b.toArray⟩ : ByteArray)) = toks.map Tok.text ++ [rpar]
  | [] => rfl
  | t :: ts => by
    show (⟨t.text.data.toList.toArray⟩ : ByteArray) :: (wideP ts).map _ = _
    rw [wide_b ts, ba_list]; rfl
theorem wide_len (toks : List Tok) : (wideL toks).length = 4 + sumB toks + 6 * toks.length := by
  unfold wideL
  have : (toks.flatMap (fun t => 9 :: (t.text.data.toList ++ gap5))).length = sumB toks + 6 * toks.length := by
    induction toks with
    | nil => rfl
    | cons t ts ih =>
      rw [List.flatMap_cons, List.length_append, ih]
      have h1 : sumB (t :: ts) = t.text.size + sumB ts := by simp [sumB]
      rw [h1, List.length_cons, List.length_append, list_len]
      have : gap5.length = 5 := rfl
      rw [List.length_cons]
      omega
  rw [List.length_append, List.length_append, this]
  simp
  omega
/-- Tokens with the same kinds, texts and numbers. -/
theorem eT_of {a b : List Tok} (h1 : a.map er = b.map er) (h2 : a.map Tok.text = b.map Tok.text) : a.map eT = b.map eT := by
  induction a generalizing b with
  | nil => cases b with
    | nil => rfl
    | cons y b => cases h1
  | cons x a ih => cases b with
    | nil => cases h1
    | cons y b =>
      injection h1 with h1 h3
      injection h2 with h2 h4
      rw [List.map_cons, List.map_cons, ih h3 h4]
      congr 1
      injection h1 with k1 k2
      injection k2 with k2 k3
      show (x.kind, x.text, x.n) = (y.kind, y.text, y.n)
      rw [k1, h2, k3]
/-- A text that is parsed: with gaps around all its tokens, and in parentheses, it is parsed alike; and it has as many tokens as its expression's text, or more. -/
theorem gaps_plain {s : ByteArray} {e : List Nod} (hs : s.size ≤ 1200) (h : ParseIs s ⟨e, 0, 0⟩) :
    ParseIs ⟨(wideL (lexL s).toks).toArray⟩ ⟨e, 0, 0⟩ ∧ (lexL s).err = 0 ∧ ∃ T : Tr, T.good ∧ e = T.flat 0 ∧ T.size ≤ 300 ∧ (T.toks 1).length ≤ (lexL s).toks.length := by
  have hpv := (parse_valid h).1 rfl
  unfold ParseIs at h
  by_cases he : (lexL s).err ≠ 0
  · rw [if_pos he] at h
    injection h with _ h
    exact absurd h.symm he
  rw [if_neg he] at h
  have he0 : (lexL s).err = 0 := by simpa using he
  obtain ⟨f, res, hr, hp⟩ := h
  obtain ⟨a, hres⟩ : ∃ a, res = PR.ok a [] e := by
    cases res with
    | error x =>
      have hz := noZ_par _ _ _ x hr
      injection hp with _ hp
      exact absurd hp.symm hz
    | ok x =>
      obtain ⟨a, toks, out⟩ := x
      cases toks with
      | cons k l =>
        injection hp with _ hp
        omega
      | nil =>
        unfold endP at hp
        dsimp only at hp
        by_cases hv : validL out = true
        · rw [if_pos hv] at hp
          injection hp with hp
          exact ⟨a, by rw [hp]; rfl⟩
        · rw [if_neg hv] at hp
          injection hp with _ hp
          omega
  subst hres
  have g := G_of s.size f (.lev 1) (lexL s).toks [] a [] e (fun l h => by injection h; omega) (fun _ _ h => by cases h) hr
  obtain ⟨T, hw, hT, _, hn⟩ := G_snd g (by omega) (by omega)
  rw [List.nil_append] at hT
  have hT : e = T.flat 0 := hT
  have hgood : T.good := wf_good T 0 hw fun x hx => valid_formed hpv x (by rw [hT]; exact hx)
  obtain ⟨pre, hpre, hkinds⟩ := G_kinds g
  rw [List.append_nil] at hpre
  subst hpre
  have hsum := lexL_sum s
  refine ⟨?_, he0, T, hgood, hT, ?_, by simpa using hn⟩
  · have hall : ∀ t ∈ (lexL s).toks, tokOk t ∧ (t.kind = 1 ∨ t.kind = 2 ∨ t.kind = 4) := fun t ht => ⟨lexL_ok s t ht, hkinds t ht⟩
    have hok : okPcs (symP lpar (tabOf (lexL s).toks) :: wideP (lexL s).toks) := okPcsR_ok _ (okPcsR_cons (ok_lpar _ _) (tab_ok _) (wide_ok _ hall))
    have htext : ([35, 10] : List UInt8) ++ pText (symP lpar (tabOf (lexL s).toks) :: wideP (lexL s).toks) = wideL (lexL s).toks := by
      rw [pText_sym, wide_text]
      rfl
    have hplen : (wideP (lexL s).toks).length = (lexL s).toks.length + 1 := by
      have := congrArg List.length (wide_e (lexL s).toks)
      simpa using this
    obtain ⟨toks, h1, h2, h3⟩ := lex_text (g := [35, 10]) (.note (m := []) (g := []) (by decide) .nil) hok (by rw [List.length_cons, hplen]; omega) (by rw [htext, wide_len]; omega)
    rw [htext] at h1
    rw [List.map_cons, wide_e] at h2
    rw [List.map_cons, wide_b] at h3
    obtain ⟨k, tl, rfl, hk1, hk2⟩ := map_cons_inv h2
    obtain ⟨tk, rl, rfl, ht1, hr1⟩ := map_append_inv hk2
    obtain ⟨r, rl2, rfl, hr2, hr3⟩ := map_cons_inv hr1
    have hrl : rl2 = [] := by cases rl2 with | nil => rfl | cons x y => cases hr3
    subst hrl
    have htl : tk.map Tok.text = (lexL s).toks.map Tok.text := by
      injection h3 with _ h3
      rw [List.map_append] at h3
      have hlen : tk.length = (lexL s).toks.length := by
        have := congrArg List.length ht1
        simpa using this
      exact (List.append_inj h3 (by rw [List.length_map, List.length_map, hlen])).1
    have heT := eT_of ht1 htl
    obtain ⟨rk1, rk2⟩ := er_sym hr2
    obtain ⟨t', ht', hrun⟩ := G_sim g ⟨by omega, by omega⟩ ((⟨(wideL (lexL s).toks).toArray⟩ : ByteArray).size : Int) tk [r] heT (fun x hx => by
      injection hx with hx
      subst hx
      exact ⟨rk1, rk2⟩)
    rw [eT_nil ht'] at hrun
    have hstop : ∀ (z : Int) (l : Nat), 0 < l → Run z (jLoop l a [] e) (PR.ok a [] e) := fun z l hl => loop_stop (m := 0) trivial hl
    have hprim := rprim_par (rest := tk ++ [r]) (sees_sym hk1 _) (sees_sym hr2 _) hrun
    have h4 := run_prim (sees_not hk1 (by decide) _) hprim
    have hfin := run_up (l := 1) (by omega) (run_up (l := 2) (by omega) (run_up (l := 3) (by omega) h4 (hstop _ 3 (by omega))) (hstop _ 2 (by omega))) (hstop _ 1 (by omega))
    unfold ParseIs
    rw [h1, if_neg (by simp)]
    obtain ⟨f', hf'⟩ := hfin
    refine ⟨f', _, hf', ?_⟩
    show _ = (if validL e = true then (⟨e, 0, 0⟩ : ParR) else ⟨[], 2, 0⟩)
    rw [if_pos hpv]
  · have := tree_valid_iff hgood
    rw [hT, this] at hpv
    simp only [Bool.and_eq_true, decide_eq_true_eq] at hpv
    exact hpv.1
end Go.Proofs.YtmelebfpkjnfdaaGreatDoor
