/-
  expr's parser: level and primary, at every expression.
-/
import Derived.Test.YtkomgidcgepknaaGreatDoorExpL
set_option linter.unusedVariables false
set_option linter.unusedSimpArgs false
namespace Go.Proofs.YtkomgidcgepknaaGreatDoor
open Go.RowKit Go.Deep Go.Maps

theorem parF_level (z : Int) (g l : Nat) (toks : List Tok) (out : List Nod) : parF z (g + 1) (jLevel l toks out) =
    if l = 4 then
        (if seesL toks 0 minus = false then parF z g (jPrimary toks out)
         else andL (parF z g (jLevel 4 toks.tail out)) fun a t o => some (putL t o ⟨12, 0, ByteArray.empty, [a]⟩))
       else andL (parF z g (jLevel (l + 1) toks out)) fun a t o => parF z g (jLoop l a t o) := rfl

theorem prim_step {z : Int} {q F : Nat} (hL : LevelC z q F) : PrimC z q (F + 1) := by
  intro f hf toks out res w N r hres h hN
  cases f with
  | zero => cases hres
  | succ f =>
    rw [parF_prim] at hres
    by_cases hs : seesL toks 0 lpar = true
    · rw [if_pos hs] at hres
      exact prim_par hL (by omega) hs hres h hN
    · rw [if_neg hs] at hres
      have hs' : seesL toks 0 lpar = false := by simpa using hs
      cases toks with
      | nil =>
        injection hres with hres
        subst hres
        exact prim_fail hs' (fun k hk => by cases hk) h hN
      | cons k rest =>
        dsimp only at hres
        by_cases hk : k.kind ≠ 2 ∧ k.kind ≠ 1
        · rw [if_pos hk] at hres
          injection hres with hres
          subst hres
          exact prim_fail hs' (fun k2 hk2 => by injection hk2 with hk2; rw [← hk2]; exact hk) h hN
        · rw [if_neg hk] at hres
          by_cases hk2 : k.kind = 2
          · refine prim_num hs' hk2 h hN ?_
            by_cases hn : 1000000 < k.n
            · rw [if_pos ⟨hk2, hn⟩] at hres
              injection hres with hres
              rw [if_pos hn, hres]
            · rw [if_neg (by omega), if_pos hk2] at hres
              injection hres with hres
              rw [if_neg hn, hres]
          · have hk1 : k.kind = 1 := by omega
            rw [if_neg (by omega), if_neg hk2] at hres
            by_cases hfo : funcOp k.text = 0
            · refine prim_name hs' hk1 hfo h hN ?_
              by_cases hs1 : seesL (k :: rest) 1 lpar = true
              · rw [if_pos ⟨hfo, hs1⟩] at hres
                injection hres with hres
                rw [if_pos hs1, hres]
              · rw [if_neg (fun hh => hs1 hh.2), if_pos hfo] at hres
                injection hres with hres
                rw [if_neg hs1, hres]
            · rw [if_neg (fun hh => hfo hh.1), if_neg hfo] at hres
              exact prim_fun hL (by omega) hs' hk1 hfo h hN hres
theorem level_step {z : Int} {q F : Nat} (hL : LevelC z q F) (hP : PrimC z q F) : LevelC z q (F + 1) := by
  intro f hf lv toks out res w N r h1 h4 hres h hN
  cases f with
  | zero => cases hres
  | succ f =>
    rw [parF_level] at hres
    by_cases hl : lv = 4
    · subst hl
      rw [if_pos (by decide)] at hres
      by_cases hs : seesL toks 0 minus = false
      · rw [if_pos hs] at hres
        exact level_prim hP (by omega) hs hres h hN
      · rw [if_neg hs] at hres
        exact level_neg hL (by omega) (by simpa using hs) hres h hN
    · rw [if_neg (by omega)] at hres
      exact level_bin hL (by omega) h1 (by omega) hres h hN
theorem level_all (z : Int) (q : Nat) : ∀ F, LevelC z q F ∧ PrimC z q F
  | 0 => ⟨fun f hf => absurd hf (by omega), fun f hf => absurd hf (by omega)⟩
  | F + 1 => ⟨level_step (level_all z q F).1 (level_all z q F).2, prim_step (level_all z q F).1⟩
theorem level_any {z : Int} {q f : Nat} {lv : Int} {toks : List Tok} {out : List Nod} {res : PR} {w : World} {N : Nat} {r : Fp} (h1 : 1 ≤ lv) (h4 : lv ≤ 4) (hres : parF z f (jLevel lv.toNat toks out) = some res) (h : ParAt w q z N toks out r) (hN : N ≤ 100000) :
    Calls Tryz.prog 66 #[.pointer (some ⟨q, 0, none⟩), .int .i64 lv] w (ParPost w q z N r res) :=
  (level_all z q (f + 1)).1 f (Nat.lt_succ_self f) lv toks out res w N r h1 h4 hres h hN
end Go.Proofs.YtkomgidcgepknaaGreatDoor
