/-
  The same tokens at other offsets, with a closing parenthesis behind them, are parsed alike. No program.
-/
import Derived.Test.YtmelebfpkjnfdaaGreatDoorParS
set_option linter.unusedVariables false
set_option linter.unusedSimpArgs false
namespace Go.Proofs.YtmelebfpkjnfdaaGreatDoor

/-- A token without its offset. -/
def eT (k : Tok) : Int × ByteArray × Int := (k.kind, k.text, k.n)
/-- Nothing, or a closing parenthesis. -/
def endR (rest : List Tok) : Prop := ∀ k, rest[0]? = some k → k.kind = 4 ∧ k.text = rpar
def lvl : Md → Prop
  | .lev l => 1 ≤ l ∧ l ≤ 4
  | .loop l _ => 1 ≤ l ∧ l ≤ 3
  | _ => True
theorem eT_cons {tk : List Tok} {k : Tok} {r : List Tok} (h : tk.map eT = (k :: r).map eT) : ∃ k' r', tk = k' :: r' ∧ k'.kind = k.kind ∧ k'.text = k.text ∧ k'.n = k.n ∧ r'.map eT = r.map eT := by
  cases tk with
  | nil => cases h
  | cons k' r' =>
    injection h with h1 h2
    injection h1 with h3 h4
    injection h4 with h4 h5
    exact ⟨k', r', rfl, h3, h4, h5, h2⟩
theorem eT_nil {tk : List Tok} (h : tk.map eT = ([] : List Tok).map eT) : tk = [] := by
  cases tk with
  | nil => rfl
  | cons k' r' => cases h
theorem sees_eT {k k' : Tok} (h1 : k'.kind = k.kind) (h2 : k'.text = k.text) (x y : List Tok) (s : ByteArray) : seesL (k' :: x) 0 s = seesL (k :: y) 0 s := by
  show (k'.kind == 4 && decide (k'.text = s)) = (k.kind == 4 && decide (k.text = s))
  rw [h1, h2]
theorem sees_app {tk toks rest : List Tok} {s : ByteArray} (h : tk.map eT = toks.map eT) (hr : endR rest) (hs : s ≠ rpar) : seesL (tk ++ rest) 0 s = seesL toks 0 s := by
  cases toks with
  | nil =>
    rw [eT_nil h]
    cases rest with
    | nil => rfl
    | cons k r =>
      have := (hr k rfl).2
      show (k.kind == 4 && decide (k.text = s)) = false
      rw [this, decide_eq_false (fun e => hs e.symm), Bool.and_false]
  | cons k r =>
    obtain ⟨k', r', rfl, h1, h2, _, _⟩ := eT_cons h
    exact sees_eT h1 h2 _ _ _
theorem loop_halt {z : Int} {l : Nat} {a : Int} {k : Tok} {r : List Tok} {out : List Nod} (h : k.kind ≠ 4 ∨ infixOp k.text = 0 ∨ strength (infixOp k.text) ≠ (l : Nat)) : Run z (jLoop l a (k :: r) out) (PR.ok a (k :: r) out) := by
  refine ⟨1, ?_⟩
  unfold parF
  show (if k.kind ≠ 4 then some (PR.ok a (k :: r) out) else if infixOp k.text = 0 ∨ strength (infixOp k.text) ≠ (l : Int) then some (PR.ok a (k :: r) out) else _) = _
  by_cases hk : k.kind ≠ 4
  · rw [if_pos hk]
  · rw [if_neg hk, if_pos (h.resolve_left hk)]
theorem stop_end {rest : List Tok} (h : endR rest) : stopL 0 rest := by
  cases rest with
  | nil => exact trivial
  | cons k r =>
    obtain ⟨h1, h2⟩ := h k rfl
    exact ⟨h1, by rw [h2]; decide, by rw [h2]; exact .inl (by decide)⟩
theorem G_sim {m : Md} {toks : List Tok} {out : List Nod} {a : Int} {t : List Tok} {o : List Nod} (g : G m toks out a t o) :
    lvl m → ∀ (z : Int) (tk rest : List Tok), tk.map eT = toks.map eT → endR rest → ∃ t', t'.map eT = t.map eT ∧ Run z (jOf m (tk ++ rest) out) (PR.ok a (t' ++ rest) o) := by
  induction g with
  | neg h g ih =>
    intro hl z tk rest he hr
    obtain ⟨k, r, rfl⟩ := sees_consG (i := 0) h
    obtain ⟨k', r', rfl, h1, h2, h3, h4⟩ := eT_cons he
    obtain ⟨t', ht, hrun⟩ := ih ⟨by omega, by omega⟩ z r' rest h4 hr
    exact ⟨t', ht, run_neg (by rw [sees_eT h1 h2 _ r]; exact h) hrun⟩
  | prim h g ih =>
    intro hl z tk rest he hr
    obtain ⟨t', ht, hrun⟩ := ih trivial z tk rest he hr
    exact ⟨t', ht, run_prim (by rw [sees_app he hr (by decide)]; exact h) hrun⟩
  | up h g k ihg ihk =>
    intro hl z tk rest he hr
    have hl1 := hl.1
    have hl2 := hl.2
    obtain ⟨u', hu, hrun⟩ := ihg ⟨by omega, by omega⟩ z tk rest he hr
    obtain ⟨t', ht, hrun2⟩ := ihk ⟨by omega, by omega⟩ z u' rest hu hr
    exact ⟨t', ht, run_up (by omega) hrun hrun2⟩
  | stopN =>
    intro hl z tk rest he hr
    rw [eT_nil he]
    exact ⟨[], rfl, loop_stop (stop_end hr) hl.1⟩
  | stop h =>
    intro hl z tk rest he hr
    obtain ⟨k', r', rfl, h1, h2, h3, h4⟩ := eT_cons he
    exact ⟨k' :: r', he, loop_halt (by rw [h1, h2]; exact h)⟩
  | @weak a k r out b t o h h0 hs g ih =>
    intro hl z tk rest he hr
    obtain ⟨k', r', rfl, h1, h2, h3, h4⟩ := eT_cons he
    obtain ⟨t', ht, hrun⟩ := ih ⟨by omega, by omega⟩ z r' rest h4 hr
    refine ⟨t', ht, ?_⟩
    have := loop_weak (z := z) (a := a) (k := k') (rest := r' ++ rest) (by rw [h1]; exact h) (by rw [h2]; exact h0) (by rw [h2]; exact hs) hrun
    rw [h2] at this
    exact this
  | more h h0 hs hl1 g m ihg ihm =>
    intro hl z tk rest he hr
    have hl2 := hl.2
    obtain ⟨k', r', rfl, h1, h2, h3, h4⟩ := eT_cons he
    obtain ⟨u', hu, hrun⟩ := ihg ⟨by omega, by omega⟩ z r' rest h4 hr
    obtain ⟨t', ht, hrun2⟩ := ihm hl z u' rest hu hr
    refine ⟨t', ht, ?_⟩
    exact loop_go (z := z) (k := k') (rest := r' ++ rest) (by rw [h1]; exact h) (by rw [h2]; exact h0) (by rw [h2]; exact hs) hl1 hrun (by rw [h2]; exact hrun2)
  | par h g hq ih =>
    intro hl z tk rest he hr
    obtain ⟨k', r', rfl, h1, h2, h3, h4⟩ := eT_cons he
    obtain ⟨u', hu, hrun⟩ := ih ⟨by omega, by omega⟩ z r' rest h4 hr
    obtain ⟨q', t', rfl, q1, q2, q3, q4⟩ := eT_cons hu
    exact ⟨t', q4, rprim_par (r := q') (by rw [sees_eT h1 h2 _ []]; exact h) (by rw [sees_eT q1 q2 _ []]; exact hq) hrun⟩
  | @num k r out h hn =>
    intro hl z tk rest he hr
    obtain ⟨k', r', rfl, h1, h2, h3, h4⟩ := eT_cons he
    refine ⟨r', h4, ?_⟩
    have := rprim_num (z := z) (out := out) (k := k') (rest := r' ++ rest) (by rw [h1]; exact h) (by rw [h3]; exact hn)
    rw [h3] at this
    exact this
  | @name k r out h h0 hs =>
    intro hl z tk rest he hr
    obtain ⟨k', r', rfl, h1, h2, h3, h4⟩ := eT_cons he
    refine ⟨r', h4, ?_⟩
    have := rprim_name (z := z) (out := out) (k := k') (rest := r' ++ rest) (by rw [h1]; exact h) (by rw [h2]; exact h0) (by rw [sees_app h4 hr (by decide)]; exact hs)
    rw [h2] at this
    exact this
  | call h h0 g ih =>
    intro hl z tk rest he hr
    obtain ⟨k', r', rfl, h1, h2, h3, h4⟩ := eT_cons he
    obtain ⟨t', ht, hrun⟩ := ih trivial z r' rest h4 hr
    refine ⟨t', ht, ?_⟩
    exact prim_func (z := z) (k := k') (rest := r' ++ rest) (by rw [h1]; exact h) (by rw [h2]; exact h0) (by rw [h2]; exact hrun)
  | arg h hs g m ihg ihm =>
    intro hl z tk rest he hr
    obtain ⟨k', r', rfl, h1, h2, h3, h4⟩ := eT_cons he
    obtain ⟨u', hu, hrun⟩ := ihg ⟨by omega, by omega⟩ z r' rest h4 hr
    obtain ⟨t', ht, hrun2⟩ := ihm trivial z u' rest hu hr
    exact ⟨t', ht, args_go h (by rw [sees_eT h1 h2 _ []]; exact hs) hrun hrun2⟩
  | done h hs =>
    intro hl z tk rest he hr
    obtain ⟨k', r', rfl, h1, h2, h3, h4⟩ := eT_cons he
    exact ⟨r', h4, args_end h (by rw [sees_eT h1 h2 _ []]; exact hs)⟩
end Go.Proofs.YtmelebfpkjnfdaaGreatDoor
