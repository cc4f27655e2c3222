/-
  expr's parser: level where it reads a unary operator.
-/
import Derived.Test.YtkomgidcgepknaaGreatDoorExpH
set_option linter.unusedVariables false
set_option linter.unusedSimpArgs false
namespace Go.Proofs.YtkomgidcgepknaaGreatDoor
open Go.RowKit Go.Deep Go.Maps

theorem ParPost.after {w w1 w' : World} {q : Nat} {z : Int} {N M : Nat} {r r1 : Fp} {res : PR} {e : Ending} (hb : Below q w w1) (hgo : ParGo q r r1 w w1) (hM : M ≤ N) (h : ParPost w1 q z M r1 res e w') : ParPost w q z N r res e w' := by
  unfold ParPost at h ⊢
  cases res with
  | error x => exact ⟨h.1, hb.trans h.2⟩
  | ok x =>
    obtain ⟨h1, r', h2, h3⟩ := h
    exact ⟨h1, r', h2.le hM, hgo.trans h3⟩

/-- The contract of level, as far as the fuel F. -/
def LevelC (z : Int) (q F : Nat) : Prop := ∀ (f : Nat), f < F → ∀ (lv : Int) (toks : List Tok) (out : List Nod) (res : PR) (w : World) (N : Nat) (r : Fp), 1 ≤ lv → lv ≤ 4 → parF z f (jLevel lv.toNat toks out) = some res → ParAt w q z N toks out r → N ≤ 100000 →
  Calls Tryz.prog 66 #[.pointer (some ⟨q, 0, none⟩), .int .i64 lv] w (ParPost w q z N r res)
/-- The contract of primary, as far as the fuel F. -/
def PrimC (z : Int) (q F : Nat) : Prop := ∀ (f : Nat), f < F → ∀ (toks : List Tok) (out : List Nod) (res : PR) (w : World) (N : Nat) (r : Fp), parF z f (jPrimary toks out) = some res → ParAt w q z N toks out r → N ≤ 100000 →
  Calls Tryz.prog 118 #[.pointer (some ⟨q, 0, none⟩)] w (ParPost w q z N r res)

theorem andL_some {r : Option PR} {k : Int → List Tok → List Nod → Option PR} {res : PR} (h : andL r k = some res) :
    (∃ x, r = some (Except.error x) ∧ res = Except.error x) ∨ ∃ a t o, r = some (Except.ok (a, t, o)) ∧ k a t o = some res := by
  unfold andL at h
  cases r with
  | none => cases h
  | some p =>
    cases p with
    | error x => injection h with h; exact .inl ⟨x, rfl, h.symm⟩
    | ok x => exact .inr ⟨x.1, x.2.1, x.2.2, rfl, h⟩

set_option maxHeartbeats 1000000 in
theorem level_prim {z : Int} {q F : Nat} (hP : PrimC z q F) {f : Nat} (hf : f < F) {toks : List Tok} {out : List Nod} {res : PR} {w : World} {N : Nat} {r : Fp} (hs : seesL toks 0 minus = false)
    (hres : parF z f (jPrimary toks out) = some res) (h : ParAt w q z N toks out r) (hN : N ≤ 100000) :
    Calls Tryz.prog 66 #[.pointer (some ⟨q, 0, none⟩), .int .i64 4] w (ParPost w q z N r res) := by
  have HS := hide hs
  have HR := hide hres
  clear hs hres
  go_enter Tryz.func66, Tryz.ntmps66
  go_wp2_with fail
  refine (sees_any h hN 0 minus (by omega)).mono ?_
  rintro e w1 ⟨rfl, rfl⟩
  rw [HS.out]
  go_wp2_with fail
  refine (hP f hf toks out res w N r HR.out h hN).mono ?_
  intro e w1 hp
  clear HR
  cases res with
  | error x =>
    obtain ⟨rfl, hb⟩ := hp
    go_wp2
    exact ⟨rfl, rfl, hb⟩
  | ok x =>
    obtain ⟨a, t, o⟩ := x
    obtain ⟨rfl, r', h1, h2⟩ := hp
    dsimp only at h1
    have HP := hide h1
    have HG := hide h2
    clear h1 h2
    go_wp2
    go_ret
    exact ⟨rfl, r', HP.out, HG.out⟩

set_option maxHeartbeats 1000000 in
theorem level_neg {z : Int} {q F : Nat} (hL : LevelC z q F) {f : Nat} (hf : f < F) {toks : List Tok} {out : List Nod} {res : PR} {w : World} {N : Nat} {r : Fp} (hs : seesL toks 0 minus = true)
    (hres : andL (parF z f (jLevel 4 toks.tail out)) (fun a t o => some (putL t o ⟨12, 0, ByteArray.empty, [a]⟩)) = some res) (h : ParAt w q z N toks out r) (hN : N ≤ 100000) :
    Calls Tryz.prog 66 #[.pointer (some ⟨q, 0, none⟩), .int .i64 4] w (ParPost w q z N r res) := by
  obtain ⟨k, hk⟩ := seesL_cons hs
  obtain ⟨M, rfl⟩ : ∃ M, N = M + 1 := ⟨N - 1, by have := h.sum; rw [hk] at this; simp at this; omega⟩
  have HS := hide hs
  have HR := hide (andL_some hres)
  clear hs hres hk
  go_enter Tryz.func66, Tryz.ntmps66
  go_wp2_with fail
  refine (sees_any h hN 0 minus (by omega)).mono ?_
  rintro e w1 ⟨rfl, rfl⟩
  rw [HS.out]
  go_wp2_with fail
  refine (must_yes h (by omega) minus HS.out).mono ?_
  rintro e w1 ⟨rfl, h1, g1⟩
  have gb1 := g1.pbelow h
  clear h
  go_wp2_with fail
  rcases HR.out with ⟨x, hx, rfl⟩ | ⟨a, t, o, hx, hk⟩
  · refine (hL f hf 4 toks.tail out _ w1 M r (by omega) (by omega) hx h1 (by omega)).mono ?_
    intro e w2 hp
    obtain ⟨rfl, hb⟩ := hp
    clear HR hx
    go_wp2
    exact ⟨rfl, rfl, gb1.trans hb⟩
  · injection hk with hk
    subst hk
    refine (hL f hf 4 toks.tail out _ w1 M r (by omega) (by omega) hx h1 (by omega)).mono ?_
    intro e w2 hp
    obtain ⟨rfl, r2, h2, g2⟩ := hp
    dsimp only at h2
    have gb2 := g2.pbelow h1
    have hlt2 := h2.lt
    have hsum2 := h2.sum
    have hb3 : Below w2.heap.size w2 (w2.alloc (Obj.cells #[.int .i64 a] 3)) := (Below.refl _ _).alloc (Nat.le_refl _) _
    have h3 := (h2.below hb3).le (Nat.le_succ M)
    have g3 := (g1.trans g2).trans (ParGo.of_below hb3)
    have gb3 := (gb1.trans gb2).trans (hb3.mono (Nat.le_of_lt hlt2))
    have hx3 : Own (w2.alloc (Obj.cells #[.int .i64 a] 3)) (q + 1) 3 1 (some ⟨w2.heap.size, 0, none⟩) 1 1 (ints [a]) := Own.of_lit w2 #[.int .i64 a] 1 hlt2 (by unfold maxLen; omega) rfl
    have HSZ : Hid (w.heap.size ≤ w2.heap.size) := (g1.trans g2).size
    have H3 := hide h3
    have HX := hide hx3
    have G3 := hide g3
    have GB := hide gb3
    clear HR hx h1 g1 g2 h2 hb3 h3 g3 gb1 gb2 gb3 hx3
    go_wp2_with fail
    refine (put_any H3.out (by omega) (by omega) ⟨12, 0, ByteArray.empty, [a]⟩ (some ⟨w2.heap.size, 0, none⟩) 1 HX.out (Nat.zero_le _)).mono ?_
    intro e w4 hp
    have hp' := hp.after G3.out (Nat.le_refl _) (fun g hg => by injection hg with hg; rw [← hg]; exact HSZ.out)
    clear hp
    obtain ⟨rfl, r4, h4, g4⟩ := hp'
    have RES : Hid (ParPost w q z (M + 1) r (putL t o ⟨12, 0, ByteArray.empty, [a]⟩) (.returned (.int .i64 (o.length : Int))) w4) := hide ⟨rfl, r4, h4, g4⟩
    clear h4 g4
    go_wp2
    go_ret
    exact RES.out
end Go.Proofs.YtkomgidcgepknaaGreatDoor

/-
  expr's parser: level where it reads operators with two operands.
-/
namespace Go.Proofs.YtkomgidcgepknaaGreatDoor
open Go.RowKit Go.Deep Go.Maps

theorem parF_loop_nil (z : Int) (g l : Nat) (x : Int) (o : List Nod) : parF z (g + 1) (jLoop l x [] o) = some (PR.ok x [] o) := rfl
theorem parF_loop (z : Int) (g l : Nat) (x : Int) (k : Tok) (rest : List Tok) (o : List Nod) : parF z (g + 1) (jLoop l x (k :: rest) o) =
    if k.kind ≠ 4 then some (PR.ok x (k :: rest) o)
    else if infixOp k.text = 0 ∨ strength (infixOp k.text) ≠ l then some (PR.ok x (k :: rest) o)
    else andL (parF z g (jLevel (l + 1) rest o)) fun b t o =>
      if l = 1 then some (putL t o ⟨infixOp k.text, 0, ByteArray.empty, [x, b]⟩) else parF z g (jLoop l o.length t (o ++ [⟨infixOp k.text, 0, ByteArray.empty, [x, b]⟩])) := rfl

set_option maxRecDepth 20000 in
theorem infix_look {w : World} {b n : Nat} (h : PM w b n infixO) {t : ByteArray} (ht : t.size ≤ maxLen) : (Instr.lookup 94 (.map (some b)) (.string t) false).run Tryz.prog w = .ok (.int .i64 (infixOp t)) w := by
  have := (PM.is h).lookup keyedS Tryz.underlying94 (e := 3) (by rfl) t (kl := .string t.data.toList) (WideMaps.keyOf_string_mk Tryz.underlying9 ht)
  have hfo : (infixO t).getD 0 = infixOp t := by
    unfold infixO
    by_cases h0 : infixOp t = 0
    · rw [if_pos h0, h0]; rfl
    · rw [if_neg h0]; rfl
  rw [hfo] at this
  exact this
set_option maxRecDepth 20000 in
theorem functions_look {w : World} {b n : Nat} (h : PM w b n funcO) {t : ByteArray} (ht : t.size ≤ maxLen) : (Instr.lookup 94 (.map (some b)) (.string t) false).run Tryz.prog w = .ok (.int .i64 (funcOp t)) w := by
  have := (PM.is h).lookup keyedS Tryz.underlying94 (e := 3) (by rfl) t (kl := .string t.data.toList) (WideMaps.keyOf_string_mk Tryz.underlying9 ht)
  have hfo : (funcO t).getD 0 = funcOp t := by
    unfold funcO
    by_cases h0 : funcOp t = 0
    · rw [if_pos h0, h0]; rfl
    · rw [if_neg h0]; rfl
  rw [hfo] at this
  exact this

set_option maxHeartbeats 4000000 in
set_option maxRecDepth 20000 in
theorem level_bin {z : Int} {q F : Nat} (hL : LevelC z q F) {f : Nat} (hf : f < F) {lv : Int} (hl1 : 1 ≤ lv) (hl3 : lv ≤ 3) {toks : List Tok} {out : List Nod} {res : PR} {w : World} {N : Nat} {r : Fp}
    (hres : andL (parF z f (jLevel (lv.toNat + 1) toks out)) (fun a t o => parF z f (jLoop lv.toNat a t o)) = some res) (h : ParAt w q z N toks out r) (hN : N ≤ 100000) :
    Calls Tryz.prog 66 #[.pointer (some ⟨q, 0, none⟩), .int .i64 lv] w (ParPost w q z N r res) := by
  have hl4 : (lv == 4) = false := beq_eq_false_iff_ne.2 (by omega)
  have HT : Hid ((lv + 1).toNat = lv.toNat + 1) := by show _ = _; omega
  have HR := hide (andL_some hres)
  have hql := h.lt
  clear hres
  go_enter Tryz.func66, Tryz.ntmps66
  go_wp2_with fail
  rcases HR.out with ⟨x, hx, rfl⟩ | ⟨a, t, o, hx, hk⟩
  · refine (hL f hf (lv + 1) toks out _ w N r (by omega) (by omega) (by rw [HT.out]; exact hx) h hN).mono ?_
    intro e w2 hp
    obtain ⟨rfl, hb⟩ := hp
    clear HR hx
    go_wp2
    exact ⟨rfl, rfl, hb⟩
  · refine (hL f hf (lv + 1) toks out _ w N r (by omega) (by omega) (by rw [HT.out]; exact hx) h hN).mono ?_
    intro e w1 hp
    obtain ⟨rfl, r1, h1, g1⟩ := hp
    dsimp only at h1
    have gb1 := g1.pbelow h
    have HK := hide hk
    clear hk hx HR h hql
    go_wp2
    go_loopg [5, 6] f (fun g u _ wr => ∃ (x : Int) (t : List Tok) (o : List Nod) (r1 : Fp), u = .int .i64 x ∧ g ≤ f ∧ parF z g (jLoop lv.toNat x t o) = some res ∧ ParAt wr q z N t o r1 ∧ ParGo q r r1 w wr ∧ Below q w wr)
    case atStart => exact ⟨a, t, o, r1, rfl, Nat.le_refl _, HK.out, h1, g1, gb1⟩
    case round =>
      clear h1 g1 gb1 HK
      obtain ⟨x, t, o, r1, rfl, hgf, hpar, h1, g1, gb1⟩ := hrel
      have hsum := h1.sum
      cases gk with
      | zero => cases hpar
      | succ g =>
        cases t with
        | nil =>
          rw [parF_loop_nil] at hpar
          injection hpar with hpar
          subst hpar
          obtain ⟨A, c, A2, c2, h0, _, _, _, _⟩ := h1.ex
          have c0 := h0.cell 0
          change wr.cell? ⟨q, 0, none⟩ = some (.slice A 0 c) at c0
          go_wp2
          go_ret
          exact ⟨rfl, r1, h1, g1⟩
        | cons k rest =>
          have hwlt := h1.lt
          have H1 := hide h1
          obtain ⟨A, c, A2, c2, h0, hrd, hcap, _, _⟩ := h1.ex
          have c0 := h0.cell 0
          change wr.cell? ⟨q, 0, none⟩ = some (.slice A (k :: rest).length c) at c0
          obtain ⟨b, off, rfl, hb, k0, k1, _, _⟩ := hrd.tok (i := 0) (t := k) rfl
          rw [Nat.zero_mul, Nat.add_zero] at k0 k1
          have htx := h1.txt k (List.mem_cons_self)
          have hll : (((k :: rest).length : Nat) : Int) = (rest.length : Int) + 1 := by simp
          have hl01 : (0 : Int) < (rest.length : Int) + 1 := by omega
          rw [parF_loop] at hpar
          clear h1 hrd h0 hcap
          by_cases hk4 : k.kind = 4
          · rw [if_neg (by rw [hk4]; decide)] at hpar
            rw [hk4] at k0
            have HPAR := hide hpar
            clear hpar hk4
            have SD : Hid (wr.drew.cell? ⟨q, 0, none⟩ = some (.slice (some ⟨b, off, none⟩) (k :: rest).length c) ∧ wr.drew.cell? ⟨b, off + 1, none⟩ = some (.string k.text)) := ⟨c0, k1⟩
            go_upto_region 8 with (fail)
            go_region_held3 (fun w' => w'.cell? ⟨q, 0, none⟩ = some (.slice (some ⟨b, off, none⟩) (k :: rest).length c) ∧ w'.cell? ⟨b, off + 1, none⟩ = some (.string k.text))
              (first | exact SD.out | exact SK.out)
              (first | (go_at_call 75; refine (infix_map wr.drew).mono ?_; rintro e w2 ⟨rfl, p2, b2⟩; have P2 := hide p2; have B2 := hide b2; have SK : Hid (w2.cell? ⟨q, 0, none⟩ = some (.slice (some ⟨b, off, none⟩) (k :: rest).length c) ∧ w2.cell? ⟨b, off + 1, none⟩ = some (.string k.text)) := ⟨(b2.cell (p := ⟨q, 0, none⟩) hwlt).trans SD.out.1, (b2.cell (p := ⟨b, off + 1, none⟩) (Nat.lt_trans hb hwlt)).trans SD.out.2⟩; have hlk : (Instr.lookup 94 (.map (some wr.heap.size)) (.string k.text) false).run Tryz.prog w2 = .ok (.int .i64 (infixOp k.text)) w2 := infix_look p2 htx; clear p2 b2))
            have h2 : ParAt w2 q z N (k :: rest) o r1 := H1.out.drew.below B2.out
            have gB : Below wr.heap.size wr w2 := (Below.drew (Below.refl _ _)).trans B2.out
            have g2 := g1.trans (ParGo.of_below gB)
            have gb2 := gb1.trans (gB.mono (Nat.le_of_lt hwlt))
            clear hlk SK SD P2 B2 gB g1 gb1 H1 c0 k0 k1 htx
            generalize infixOp k.text = op at HPAR ⊢
            by_cases hop : op = 0
            · have hr := HPAR.out
              rw [if_pos (.inl hop)] at hr
              injection hr with hr
              subst hr
              clear HPAR
              go_wp2
              go_ret
              exact ⟨rfl, r1, h2, g2⟩
            · have hop' : (op == 0) = false := beq_eq_false_iff_ne.2 hop
              go_wp2_with fail
              refine (strength_any op w2).mono ?_
              rintro e w3 ⟨rfl, rfl⟩
              by_cases hst : strength op = lv
              · have hst' : (strength op != lv) = false := by rw [hst]; exact bne_self_eq_false _
                have hr := HPAR.out
                rw [if_neg (by rintro (hh | hh)
                               · exact hop hh
                               · exact hh (by rw [Int.toNat_of_nonneg (by omega)]; exact hst))] at hr
                have HR := hide (andL_some hr)
                clear HPAR hr hst
                obtain ⟨M, rfl⟩ : ∃ M, N = M + 1 := ⟨N - 1, by simp at hsum; omega⟩
                go_wp2_with fail
                refine (take_any h2 (by omega)).mono ?_
                rintro e w3 ⟨rfl, h3, g3⟩
                have gb3 := gb2.trans (g3.pbelow h2)
                have g4 := g2.trans g3
                clear h2 g2 gb2 g3
                go_wp2_with fail
                rcases HR.out with ⟨y, hy, rfl⟩ | ⟨a2, t2, o2, hy, hk2⟩
                · refine (hL g (by omega) (lv + 1) rest o _ w3 M r1 (by omega) (by omega) (by rw [HT.out]; exact hy) h3 (by omega)).mono ?_
                  intro e w4 hp
                  obtain ⟨rfl, hb4⟩ := hp
                  have HB4 := hide (gb3.trans hb4)
                  clear HR hy h3 g4 gb3 hb4
                  go_wp2
                  exact ⟨rfl, rfl, HB4.out⟩
                · refine (hL g (by omega) (lv + 1) rest o _ w3 M r1 (by omega) (by omega) (by rw [HT.out]; exact hy) h3 (by omega)).mono ?_
                  intro e w4 hp
                  obtain ⟨rfl, r5, h5, g5⟩ := hp
                  dsimp only at h5
                  have hlt5 := h5.lt
                  have hsum5 := h5.sum
                  have hb6 : Below w4.heap.size w4 (w4.alloc (Obj.cells #[.int .i64 x, .int .i64 a2] 3)) := (Below.refl _ _).alloc (Nat.le_refl _) _
                  have H6 := hide ((h5.below hb6).le (Nat.le_succ M))
                  have G6 := hide ((g4.trans g5).trans (ParGo.of_below hb6))
                  have GB6 := hide ((gb3.trans (g5.pbelow h3)).trans (hb6.mono (Nat.le_of_lt hlt5)))
                  have HX6 : Hid (Own (w4.alloc (Obj.cells #[.int .i64 x, .int .i64 a2] 3)) (q + 1) 3 1 (some ⟨w4.heap.size, 0, none⟩) 2 2 (ints [x, a2])) := hide (Own.of_lit w4 #[.int .i64 x, .int .i64 a2] 2 hlt5 (by unfold maxLen; omega) rfl)
                  have HSZ : Hid (w.heap.size ≤ w4.heap.size) := (g4.trans g5).size
                  have HK2 := hide hk2
                  clear HR hy h3 g4 gb3 h5 g5 hb6 hk2
                  go_wp2_with fail
                  refine (put_any H6.out (by omega) (by omega) ⟨op, 0, ByteArray.empty, [x, a2]⟩ (some ⟨w4.heap.size, 0, none⟩) 2 HX6.out (Nat.zero_le _)).mono ?_
                  intro e w7 hp
                  have hp' := hp.after G6.out (Nat.le_refl _) (fun g hg => by injection hg with hg; rw [← hg]; exact HSZ.out)
                  have hgo' := hp
                  clear hp
                  obtain ⟨rfl, r8, h8, g8⟩ := hp'
                  obtain ⟨_, _, h9, g9⟩ := hgo'
                  have GB8 := hide (GB6.out.trans (g9.pbelow H6.out))
                  clear h9 g9 GB6 G6 H6 HX6
                  by_cases hl : lv = 1
                  · have hk := HK2.out
                    rw [if_pos (by omega)] at hk
                    injection hk with hk
                    subst hk
                    have hl' : (lv == 1) = true := beq_iff_eq.2 hl
                    have RES := hide (show ParPost w q z (M + 1) r (putL t2 o2 ⟨op, 0, ByteArray.empty, [x, a2]⟩) (.returned (.int .i64 (o2.length : Int))) w7 from ⟨rfl, r8, h8, g8⟩)
                    clear HK2 h8 g8 hl
                    go_wp2
                    go_ret
                    exact RES.out
                  · have hk := HK2.out
                    rw [if_neg (by omega)] at hk
                    have hl' : (lv == 1) = false := beq_eq_false_iff_ne.2 hl
                    have HK := hide hk
                    have H8 := hide h8
                    have G8 := hide g8
                    clear HK2 hk h8 g8 hl
                    go_wp2
                    go_roundg g
                    case measure => omega
                    case rel => exact ⟨_, t2, _, r8, rfl, by omega, HK.out, H8.out, G8.out, GB8.out⟩
              · have hst' : (strength op != lv) = true := bne_iff_ne.2 hst
                have hr := HPAR.out
                rw [if_pos (.inr (by rw [Int.toNat_of_nonneg (by omega)]; exact hst))] at hr
                injection hr with hr
                subst hr
                clear HPAR
                go_wp2
                go_ret
                exact ⟨rfl, r1, h2, g2⟩
          · rw [if_pos hk4] at hpar
            injection hpar with hpar
            subst hpar
            have hk4' : (k.kind == 4) = false := beq_eq_false_iff_ne.2 hk4
            clear hk4
            go_wp2
            go_ret
            exact ⟨rfl, r1, H1.out, g1⟩
end Go.Proofs.YtkomgidcgepknaaGreatDoor

/-
  expr's parser: primary, all but functions.
-/
namespace Go.Proofs.YtkomgidcgepknaaGreatDoor
open Go.RowKit Go.Deep Go.Maps

theorem parF_prim (z : Int) (g : Nat) (toks : List Tok) (out : List Nod) : parF z (g + 1) (jPrimary toks out) =
    if seesL toks 0 lpar = true then
        andL (parF z g (jLevel 1 toks.tail out)) fun a t o => if seesL t 0 rpar = true then some (PR.ok a t.tail o) else some (failL z t 5)
       else match toks with
        | [] => some (failL z [] 5)
        | k :: rest =>
          if k.kind ≠ 2 ∧ k.kind ≠ 1 then some (failL z (k :: rest) 5)
          else if k.kind = 2 ∧ 1000000 < k.n then some (failL z (k :: rest) 9)
          else if k.kind = 2 then some (putL rest out ⟨1, k.n, ByteArray.empty, []⟩)
          else if funcOp k.text = 0 ∧ seesL (k :: rest) 1 lpar = true then some (failL z (k :: rest) 7)
          else if funcOp k.text = 0 then some (putL rest out ⟨2, 0, k.text, []⟩)
          else parF z g (jArgs (funcOp k.text) 0 [] rest out) := by
  cases toks <;> rfl

set_option maxHeartbeats 1000000 in
theorem prim_par {z : Int} {q F : Nat} (hL : LevelC z q F) {f : Nat} (hf : f < F) {toks : List Tok} {out : List Nod} {res : PR} {w : World} {N : Nat} {r : Fp} (hs : seesL toks 0 lpar = true)
    (hres : andL (parF z f (jLevel 1 toks.tail out)) (fun a t o => if seesL t 0 rpar = true then some (PR.ok a t.tail o) else some (failL z t 5)) = some res) (h : ParAt w q z N toks out r) (hN : N ≤ 100000) :
    Calls Tryz.prog 118 #[.pointer (some ⟨q, 0, none⟩)] w (ParPost w q z N r res) := by
  obtain ⟨k, hk⟩ := seesL_cons hs
  obtain ⟨M, rfl⟩ : ∃ M, N = M + 1 := ⟨N - 1, by have := h.sum; rw [hk] at this; simp at this; omega⟩
  have HS := hide hs
  have HR := hide (andL_some hres)
  clear hs hres hk
  go_enter Tryz.func118, Tryz.ntmps118
  go_wp2_with fail
  refine (sees_any h hN 0 lpar (by omega)).mono ?_
  rintro e w1 ⟨rfl, rfl⟩
  rw [HS.out]
  go_wp2_with fail
  refine (must_yes h (by omega) lpar HS.out).mono ?_
  rintro e w1 ⟨rfl, h1, g1⟩
  have gb1 := g1.pbelow h
  clear h
  go_wp2_with fail
  rcases HR.out with ⟨x, hx, rfl⟩ | ⟨a, t, o, hx, hk⟩
  · refine (hL f hf 1 toks.tail out _ w1 M r (by omega) (by omega) hx h1 (by omega)).mono ?_
    intro e w2 hp
    obtain ⟨rfl, hb⟩ := hp
    clear HR hx
    go_wp2
    exact ⟨rfl, rfl, gb1.trans hb⟩
  · refine (hL f hf 1 toks.tail out _ w1 M r (by omega) (by omega) hx h1 (by omega)).mono ?_
    intro e w2 hp
    obtain ⟨rfl, r2, h2, g2⟩ := hp
    dsimp only at h2
    have GB := hide (gb1.trans (g2.pbelow h1))
    have G := hide (g1.trans g2)
    have HK := hide hk
    clear HR hx h1 g1 g2 gb1 hk
    go_wp2_with fail
    cases hs2 : seesL t 0 rpar
    · have hk := HK.out
      rw [hs2, if_neg (by decide)] at hk
      injection hk with hk
      subst hk
      refine (must_no h2 (by omega) rpar hs2).mono ?_
      intro e w3 hp
      obtain ⟨x, hx, rfl, hb⟩ := hp.fail
      have HB := hide (GB.out.trans hb)
      rw [hx]
      clear hb hp hx HK hs2
      go_wp2
      exact ⟨rfl, rfl, HB.out⟩
    · have hk := HK.out
      rw [hs2, if_pos rfl] at hk
      injection hk with hk
      subst hk
      obtain ⟨k2, hk2⟩ := seesL_cons hs2
      refine (must_yes (h2.le (Nat.le_succ M)) (by omega) rpar hs2).mono ?_
      rintro e w3 ⟨rfl, h3, g3⟩
      have H3 := hide (h3.le (Nat.le_succ M))
      have G3 := hide (G.out.trans g3)
      clear h3 g3 HK hk2 hs2 h2
      go_wp2
      go_ret
      exact ⟨rfl, r2, H3.out, G3.out⟩

set_option maxHeartbeats 1000000 in
theorem prim_fail {z : Int} {q : Nat} {toks : List Tok} {out : List Nod} {w : World} {N : Nat} {r : Fp} (hs : seesL toks 0 lpar = false)
    (hk : ∀ k, toks[0]? = some k → k.kind ≠ 2 ∧ k.kind ≠ 1) (h : ParAt w q z N toks out r) (hN : N ≤ 100000) :
    Calls Tryz.prog 118 #[.pointer (some ⟨q, 0, none⟩)] w (ParPost w q z N r (failL z toks 5)) := by
  have HS := hide hs
  have HK := hide hk
  have H := hide h
  have hsum := h.sum
  obtain ⟨A, c, A2, c2, h0, hrd, hcap, _, _⟩ := h.ex
  have c0 := h0.cell 0
  change w.cell? ⟨q, 0, none⟩ = some (.slice A toks.length c) at c0
  have hf5 := fail_any h hN 5
  have HF := hide hf5
  clear hs hk hf5 h0 hcap
  cases toks with
  | nil =>
    clear hrd
    go_enter Tryz.func118, Tryz.ntmps118
    go_wp2_with fail
    refine (sees_any H.out hN 0 lpar (by omega)).mono ?_
    rintro e w1 ⟨rfl, rfl⟩
    rw [HS.out]
    go_wp2_with fail
    refine HF.out.mono ?_
    intro e w3 hp
    obtain ⟨x, hx, rfl, hb⟩ := hp.fail
    have HB := hide hb
    rw [hx]
    clear hb hp hx
    go_wp2
    exact ⟨rfl, rfl, HB.out⟩
  | cons k rest =>
    obtain ⟨hk2, hk1⟩ := HK.out k rfl
    obtain ⟨b, off, rfl, hb, k0, _, _, _⟩ := hrd.tok (i := 0) (t := k) rfl
    rw [Nat.zero_mul, Nat.add_zero] at k0
    have hll : (((k :: rest).length : Nat) : Int) = (rest.length : Int) + 1 := by simp
    have hl0 : ((rest.length : Int) + 1 == 0) = false := beq_eq_false_iff_ne.2 (by omega)
    have hl01 : (0 : Int) < (rest.length : Int) + 1 := by omega
    have hk2' : (k.kind != 2) = true := bne_iff_ne.2 hk2
    have hk1' : (k.kind != 1) = true := bne_iff_ne.2 hk1
    clear hrd hk2 hk1 h
    go_enter Tryz.func118, Tryz.ntmps118
    go_wp2_with fail
    refine (sees_any H.out hN 0 lpar (by omega)).mono ?_
    rintro e w1 ⟨rfl, rfl⟩
    rw [HS.out]
    go_wp2_with fail
    refine HF.out.mono ?_
    intro e w3 hp
    obtain ⟨x, hx, rfl, hb⟩ := hp.fail
    have HB := hide hb
    rw [hx]
    clear hb hp hx
    go_wp2
    exact ⟨rfl, rfl, HB.out⟩
end Go.Proofs.YtkomgidcgepknaaGreatDoor
