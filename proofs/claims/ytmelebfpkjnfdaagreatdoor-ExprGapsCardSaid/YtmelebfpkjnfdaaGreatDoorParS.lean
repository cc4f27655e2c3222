/-
  What the parser reads without an error: as a relation; the same tokens at other offsets, with a parenthesis behind them. No program.
-/
import Derived.Test.YtmelebfpkjnfdaaGreatDoorText
set_option linter.unusedVariables false
set_option linter.unusedSimpArgs false
namespace Go.Proofs.YtmelebfpkjnfdaaGreatDoor

inductive Md where
  | lev (l : Nat)
  | loop (l : Nat) (a : Int)
  | prim
  | args (op : Int) (i : Nat) (kids : List Int)
def jOf : Md → List Tok → List Nod → Job
  | .lev l, toks, out => jLevel l toks out
  | .loop l a, toks, out => jLoop l a toks out
  | .prim, toks, out => jPrimary toks out
  | .args op i kids, toks, out => jArgs op i kids toks out
inductive G : Md → List Tok → List Nod → Int → List Tok → List Nod → Prop
  | neg {toks out a t o} (h : seesL toks 0 minus = true) (g : G (.lev 4) toks.tail out a t o) : G (.lev 4) toks out o.length t (o ++ [⟨12, 0, ByteArray.empty, [a]⟩])
  | prim {toks out a t o} (h : seesL toks 0 minus = false) (g : G .prim toks out a t o) : G (.lev 4) toks out a t o
  | up {l toks out b u p a t o} (h : l ≠ 4) (g : G (.lev (l + 1)) toks out b u p) (k : G (.loop l b) u p a t o) : G (.lev l) toks out a t o
  | stopN {l a out} : G (.loop l a) [] out a [] out
  | stop {l a k r out} (h : k.kind ≠ 4 ∨ infixOp k.text = 0 ∨ strength (infixOp k.text) ≠ (l : Nat)) : G (.loop l a) (k :: r) out a (k :: r) out
  | weak {a k r out b t o} (h : k.kind = 4) (h0 : infixOp k.text ≠ 0) (hs : strength (infixOp k.text) = 1) (g : G (.lev 2) r out b t o) : G (.loop 1 a) (k :: r) out o.length t (o ++ [⟨infixOp k.text, 0, ByteArray.empty, [a, b]⟩])
  | more {l a k r out b u p c t o} (h : k.kind = 4) (h0 : infixOp k.text ≠ 0) (hs : strength (infixOp k.text) = (l : Nat)) (hl : l ≠ 1) (g : G (.lev (l + 1)) r out b u p)
      (m : G (.loop l p.length) u (p ++ [⟨infixOp k.text, 0, ByteArray.empty, [a, b]⟩]) c t o) : G (.loop l a) (k :: r) out c t o
  | par {k r out a t o} {q : Tok} (h : seesL (k :: r) 0 lpar = true) (g : G (.lev 1) r out a (q :: t) o) (hq : seesL (q :: t) 0 rpar = true) : G .prim (k :: r) out a t o
  | num {k r out} (h : k.kind = 2) (hn : k.n ≤ 1000000) : G .prim (k :: r) out out.length r (out ++ [⟨1, k.n, ByteArray.empty, []⟩])
  | name {k r out} (h : k.kind = 1) (h0 : funcOp k.text = 0) (hs : seesL r 0 lpar = false) : G .prim (k :: r) out out.length r (out ++ [⟨2, 0, k.text, []⟩])
  | call {k r out a t o} (h : k.kind = 1) (h0 : funcOp k.text ≠ 0) (g : G (.args (funcOp k.text) 0 []) r out a t o) : G .prim (k :: r) out a t o
  | arg {op i kids k r out b u p a t o} (h : ((i : Nat) : Int) < operands op) (hs : seesL (k :: r) 0 (if i = 0 then lpar else comma) = true) (g : G (.lev 1) r out b u p) (m : G (.args op (i + 1) (kids ++ [b])) u p a t o) : G (.args op i kids) (k :: r) out a t o
  | done {op i kids k r out} (h : ¬ ((i : Nat) : Int) < operands op) (hs : seesL (k :: r) 0 rpar = true) : G (.args op i kids) (k :: r) out out.length r (out ++ [⟨op, 0, ByteArray.empty, kids⟩])
theorem sees_consG {toks : List Tok} {i : Nat} {s : ByteArray} (h : seesL toks 0 s = true) : ∃ k r, toks = k :: r := by
  cases toks with
  | nil => cases h
  | cons k r => exact ⟨k, r, rfl⟩
theorem ok_inj {a b : Int} {t u : List Tok} {o p : List Nod} (h : PR.ok a t o = PR.ok b u p) : a = b ∧ t = u ∧ o = p := by
  injection h with h
  injection h with h1 h2
  injection h2 with h2 h3
  exact ⟨h1, h2, h3⟩
theorem some_ok {a b : Int} {t u : List Tok} {o p : List Nod} (h : some (PR.ok a t o) = some (PR.ok b u p)) : a = b ∧ t = u ∧ o = p := ok_inj (Option.some.inj h)
theorem fail_ne {z : Int} {toks : List Tok} {err a : Int} {t : List Tok} {o : List Nod} (h : some (failL z toks err) = some (PR.ok a t o)) : False := by
  cases toks with
  | nil => injection h with h; cases h
  | cons k r => injection h with h; cases h
theorem and_ok {r : Option PR} {k : Int → List Tok → List Nod → Option PR} {a : Int} {t : List Tok} {o : List Nod} (h : andL r k = some (PR.ok a t o)) : ∃ b u p, r = some (PR.ok b u p) ∧ k b u p = some (PR.ok a t o) := by
  rcases andL_someT h with ⟨x, h1, h2⟩ | ⟨x, h1, h2⟩
  · cases h2
  · exact ⟨x.1, x.2.1, x.2.2, h1, h2⟩
theorem G_of (z : Int) : ∀ (f : Nat) (m : Md) (toks : List Tok) (out : List Nod) (a : Int) (t : List Tok) (o : List Nod), (∀ l, m = .lev l → l ≤ 4) → (∀ l b, m = .loop l b → l ≤ 3) → parF z f (jOf m toks out) = some (PR.ok a t o) → G m toks out a t o
  | 0, m, toks, out, a, t, o, _, _, h => by cases h
  | f + 1, .lev l, toks, out, a, t, o, hl, _, h => by
    have hl := hl l rfl
    have h : (if l = 4 then (if seesL toks 0 minus = false then parF z f (jPrimary toks out) else andL (parF z f (jLevel 4 toks.tail out)) fun a t o => some (putL t o ⟨12, 0, ByteArray.empty, [a]⟩))
      else andL (parF z f (jLevel (l + 1) toks out)) fun a t o => parF z f (jLoop l a t o)) = some (PR.ok a t o) := by
      unfold parF at h
      exact h
    by_cases h4 : l = 4
    · subst h4
      rw [if_pos rfl] at h
      by_cases hm : seesL toks 0 minus = false
      · rw [if_pos hm] at h
        exact .prim hm (G_of z f .prim toks out a t o (fun _ h => by cases h) (fun _ _ h => by cases h) h)
      · rw [if_neg hm] at h
        obtain ⟨b, u, p, h1, h2⟩ := and_ok h
        obtain ⟨rfl, rfl, rfl⟩ := some_ok h2
        have hm : seesL toks 0 minus = true := by simpa using hm
        exact .neg hm (G_of z f (.lev 4) toks.tail out b u p (fun l h => by injection h; omega) (fun _ _ h => by cases h) h1)
    · rw [if_neg h4] at h
      obtain ⟨b, u, p, h1, h2⟩ := and_ok h
      exact .up h4 (G_of z f (.lev (l + 1)) toks out b u p (fun l h => by injection h; omega) (fun _ _ h => by cases h) h1) (G_of z f (.loop l b) u p a t o (fun _ h => by cases h) (fun _ _ h => by injection h; omega) h2)
  | f + 1, .loop l b, toks, out, a, t, o, _, hl, h => by
    have hl := hl l b rfl
    cases toks with
    | nil =>
      have h : some (PR.ok b [] out) = some (PR.ok a t o) := by
        unfold parF at h
        exact h
      obtain ⟨rfl, rfl, rfl⟩ := some_ok h
      exact .stopN
    | cons k r =>
      have h : (if k.kind ≠ 4 then some (PR.ok b (k :: r) out)
        else if infixOp k.text = 0 ∨ strength (infixOp k.text) ≠ l then some (PR.ok b (k :: r) out)
        else andL (parF z f (jLevel (l + 1) r out)) fun c t o =>
          if l = 1 then some (putL t o ⟨infixOp k.text, 0, ByteArray.empty, [b, c]⟩) else parF z f (jLoop l o.length t (o ++ [⟨infixOp k.text, 0, ByteArray.empty, [b, c]⟩]))) = some (PR.ok a t o) := by
        unfold parF at h
        exact h
      by_cases hk : k.kind ≠ 4
      · rw [if_pos hk] at h
        obtain ⟨rfl, rfl, rfl⟩ := some_ok h
        exact .stop (.inl hk)
      · rw [if_neg hk] at h
        have hk : k.kind = 4 := by omega
        by_cases hs : infixOp k.text = 0 ∨ strength (infixOp k.text) ≠ l
        · rw [if_pos hs] at h
          obtain ⟨rfl, rfl, rfl⟩ := some_ok h
          exact .stop (.inr hs)
        · rw [if_neg hs] at h
          obtain ⟨c, u, p, h1, h2⟩ := and_ok h
          have hs1 : infixOp k.text ≠ 0 := fun e => hs (.inl e)
          have hs2 : strength (infixOp k.text) = l := by
            rcases Int.decEq (strength (infixOp k.text)) l with e | e
            · exact absurd (.inr e) hs
            · exact e
          have g1 := G_of z f (.lev (l + 1)) r out c u p (fun l h => by injection h; omega) (fun _ _ h => by cases h) h1
          by_cases h1' : l = 1
          · subst h1'
            rw [if_pos rfl] at h2
            obtain ⟨rfl, rfl, rfl⟩ := some_ok h2
            exact .weak hk hs1 hs2 g1
          · rw [if_neg h1'] at h2
            exact .more hk hs1 hs2 h1' g1 (G_of z f (.loop l p.length) u _ a t o (fun _ h => by cases h) (fun _ _ h => by injection h; omega) h2)
  | f + 1, .prim, toks, out, a, t, o, _, _, h => by
    by_cases hp : seesL toks 0 lpar = true
    · obtain ⟨k, r, rfl⟩ := sees_consG (i := 0) hp
      have h : (if seesL (k :: r) 0 lpar = true then
        andL (parF z f (jLevel 1 r out)) fun a t o => if seesL t 0 rpar = true then some (PR.ok a t.tail o) else some (failL z t 5)
        else none) = some (PR.ok a t o) := by
        unfold parF at h
        rw [if_pos hp]
        have h : (if seesL (k :: r) 0 lpar = true then
          andL (parF z f (jLevel 1 r out)) fun a t o => if seesL t 0 rpar = true then some (PR.ok a t.tail o) else some (failL z t 5) else _) = some (PR.ok a t o) := h
        rw [if_pos hp] at h
        exact h
      rw [if_pos hp] at h
      obtain ⟨b, u, p, h1, h2⟩ := and_ok h
      by_cases hq : seesL u 0 rpar = true
      · rw [if_pos hq] at h2
        obtain ⟨q, v, rfl⟩ := sees_consG (i := 0) hq
        obtain ⟨rfl, rfl, rfl⟩ := some_ok h2
        exact .par hp (G_of z f (.lev 1) r out b _ p (fun l h => by injection h; omega) (fun _ _ h => by cases h) h1) hq
      · rw [if_neg hq] at h2
        exact (fail_ne h2).elim
    · cases toks with
      | nil =>
        have h : some (failL z [] 5) = some (PR.ok a t o) := by
          unfold parF at h
          exact h
        exact (fail_ne h).elim
      | cons k r =>
        have h : (if seesL (k :: r) 0 lpar = true then
          andL (parF z f (jLevel 1 r out)) fun a t o => if seesL t 0 rpar = true then some (PR.ok a t.tail o) else some (failL z t 5)
          else if k.kind ≠ 2 ∧ k.kind ≠ 1 then some (failL z (k :: r) 5)
          else if k.kind = 2 ∧ 1000000 < k.n then some (failL z (k :: r) 9)
          else if k.kind = 2 then some (putL r out ⟨1, k.n, ByteArray.empty, []⟩)
          else if funcOp k.text = 0 ∧ seesL (k :: r) 1 lpar = true then some (failL z (k :: r) 7)
          else if funcOp k.text = 0 then some (putL r out ⟨2, 0, k.text, []⟩)
          else parF z f (jArgs (funcOp k.text) 0 [] r out)) = some (PR.ok a t o) := by
          unfold parF at h
          exact h
        rw [if_neg hp] at h
        by_cases c1 : k.kind ≠ 2 ∧ k.kind ≠ 1
        · rw [if_pos c1] at h; exact (fail_ne h).elim
        rw [if_neg c1] at h
        by_cases c2 : k.kind = 2 ∧ 1000000 < k.n
        · rw [if_pos c2] at h; exact (fail_ne h).elim
        rw [if_neg c2] at h
        by_cases c3 : k.kind = 2
        · rw [if_pos c3] at h
          obtain ⟨rfl, rfl, rfl⟩ := some_ok h
          exact .num c3 (by omega)
        rw [if_neg c3] at h
        have hk : k.kind = 1 := by omega
        by_cases c4 : funcOp k.text = 0 ∧ seesL (k :: r) 1 lpar = true
        · rw [if_pos c4] at h; exact (fail_ne h).elim
        rw [if_neg c4] at h
        by_cases c5 : funcOp k.text = 0
        · rw [if_pos c5] at h
          obtain ⟨rfl, rfl, rfl⟩ := some_ok h
          exact .name hk c5 (by
            have : seesL (k :: r) 1 lpar = seesL r 0 lpar := rfl
            rw [← this]
            cases hx : seesL (k :: r) 1 lpar
            · rfl
            · exact absurd ⟨c5, hx⟩ c4)
        · rw [if_neg c5] at h
          exact .call hk c5 (G_of z f (.args (funcOp k.text) 0 []) r out a t o (fun _ h => by cases h) (fun _ _ h => by cases h) h)
  | f + 1, .args op i kids, toks, out, a, t, o, _, _, h => by
    have h : (if (i : Int) < operands op then
        (if seesL toks 0 (if i = 0 then lpar else comma) = true then andL (parF z f (jLevel 1 toks.tail out)) fun a t o => parF z f (jArgs op (i + 1) (kids ++ [a]) t o)
         else some (failL z toks 5))
       else if seesL toks 0 rpar = true then some (putL toks.tail out ⟨op, 0, ByteArray.empty, kids⟩) else some (failL z toks 5)) = some (PR.ok a t o) := by
      unfold parF at h
      exact h
    by_cases hi : (i : Int) < operands op
    · rw [if_pos hi] at h
      by_cases hs : seesL toks 0 (if i = 0 then lpar else comma) = true
      · rw [if_pos hs] at h
        obtain ⟨k, r, rfl⟩ := sees_consG (i := 0) hs
        obtain ⟨b, u, p, h1, h2⟩ := and_ok h
        exact .arg hi hs (G_of z f (.lev 1) r out b u p (fun l h => by injection h; omega) (fun _ _ h => by cases h) h1) (G_of z f (.args op (i + 1) (kids ++ [b])) u p a t o (fun _ h => by cases h) (fun _ _ h => by cases h) h2)
      · rw [if_neg hs] at h; exact (fail_ne h).elim
    · rw [if_neg hi] at h
      by_cases hs : seesL toks 0 rpar = true
      · rw [if_pos hs] at h
        obtain ⟨k, r, rfl⟩ := sees_consG (i := 0) hs
        obtain ⟨rfl, rfl, rfl⟩ := some_ok h
        exact .done hi hs
      · rw [if_neg hs] at h; exact (fail_ne h).elim
end Go.Proofs.YtmelebfpkjnfdaaGreatDoor
