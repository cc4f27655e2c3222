/-
  expr.operands.
-/
import Derived.Test.YtkomgidcgepknaaGreatDoorExpA
import Derived.Test.YtkomgidcgepknaaGreatDoorValP
set_option linter.unusedVariables false
set_option linter.unusedSimpArgs false
namespace Go.Proofs.YtkomgidcgepknaaGreatDoor
open Go.RowKit Go.Deep Go.Maps

theorem infixO_some {t : ByteArray} {op : Int} (h : infixO t = some op) : (t.size = 1 ∨ t.size = 2) ∧ (op = 10 ∨ op = 11 ∨ op = 3 ∨ op = 4 ∨ op = 5 ∨ op = 6) := by
  unfold infixO infixOp at h
  repeat' split at h
  all_goals first | (exfalso; simp_all; done) | (subst_vars; simp at h; refine ⟨by decide, ?_⟩; omega)
theorem funcO_some {t : ByteArray} {op : Int} (h : funcO t = some op) : (t.size = 2 ∨ t.size = 3) ∧ (op = 7 ∨ op = 8 ∨ op = 9) := by
  unfold funcO funcOp at h
  repeat' split at h
  all_goals first | (exfalso; simp_all; done) | (subst_vars; simp at h; refine ⟨by decide, ?_⟩; omega)
theorem infixO_has {op : Int} (h : ∀ u : ByteArray, u.size ≤ maxLen → infixO u ≠ some op) : ¬ (op = 10 ∨ op = 11 ∨ op = 3 ∨ op = 4 ∨ op = 5 ∨ op = 6) := by
  rintro (rfl | rfl | rfl | rfl | rfl | rfl)
  · exact h ⟨#[60]⟩ (by decide) (by decide)
  · exact h ⟨#[61, 61]⟩ (by decide) (by decide)
  · exact h ⟨#[43]⟩ (by decide) (by decide)
  · exact h ⟨#[45]⟩ (by decide) (by decide)
  · exact h ⟨#[42]⟩ (by decide) (by decide)
  · exact h ⟨#[47]⟩ (by decide) (by decide)
theorem funcO_has {op : Int} (h : ∀ u : ByteArray, u.size ≤ maxLen → funcO u ≠ some op) : ¬ (op = 7 ∨ op = 8 ∨ op = 9) := by
  rintro (rfl | rfl | rfl)
  · exact h ⟨#[109, 105, 110]⟩ (by decide) (by decide)
  · exact h ⟨#[109, 97, 120]⟩ (by decide) (by decide)
  · exact h ⟨#[105, 102]⟩ (by decide) (by decide)

set_option maxHeartbeats 1000000 in
set_option maxRecDepth 20000 in
theorem operands_any (op : Int) (w : World) : Calls Tryz.prog 134 #[.int .i64 op] w fun e w' => e = .returned (.int .i64 (operands op)) ∧ Below w.heap.size w w' := by
  by_cases h0 : op = 1 ∨ op = 2 ∨ op = 12 ∨ op = 9
  · rcases h0 with rfl | rfl | rfl | rfl
    all_goals
      go_enter Tryz.func134, Tryz.ntmps134
      go_wp2
      go_ret
      exact ⟨rfl, Below.refl _ _⟩
  · have e1 : (op == 1) = false := beq_eq_false_iff_ne.2 (by omega)
    have e2 : (op == 2) = false := beq_eq_false_iff_ne.2 (by omega)
    have e3 : (op == 12) = false := beq_eq_false_iff_ne.2 (by omega)
    have e4 : (op == 9) = false := beq_eq_false_iff_ne.2 (by omega)
    go_enter Tryz.func134, Tryz.ntmps134
    go_wp2_with fail
    refine (infix_map w).mono ?_
    rintro e w1 ⟨rfl, p1, b1⟩
    go_wp2_with fail
    refine (symbol_any w.heap.size 6 infixO op w1 p1).mono ?_
    rintro e w2 ⟨b2, r1, rfl, s1⟩
    have S1 := hide s1
    go_wp2_with fail
    refine (functions_map w2).mono ?_
    rintro e w3 ⟨rfl, p3, b3⟩
    go_wp2_with fail
    refine (symbol_any w2.heap.size 3 funcO op w3 p3).mono ?_
    rintro e w4 ⟨b4, r2, rfl, s2⟩
    have S2 := hide s2
    have b5 := ((b1.trans (b2.mono b1.size)).trans (b3.mono (b1.trans (b2.mono b1.size)).size)).trans (b4.mono ((b1.trans (b2.mono b1.size)).trans (b3.mono (b1.trans (b2.mono b1.size)).size)).size)
    have z1 : r1.size ≤ 2 := by
      rcases s1 with h | ⟨rfl, _⟩
      · have := (infixO_some h).1; omega
      · decide
    have z2 : r2.size ≤ 3 := by
      rcases s2 with h | ⟨rfl, _⟩
      · have := (funcO_some h).1; omega
      · decide
    have hem : (r1 ++ r2).toList.isEmpty = decide (r1.size + r2.size = 0) := by
      rw [Go.Lib.toList_data]
      have hl : (r1 ++ r2).data.toList.length = r1.size + r2.size := by
        show (r1 ++ r2).size = _
        exact ByteArray.size_append
      cases hL : (r1 ++ r2).data.toList with
      | nil =>
        have hl' : 0 = r1.size + r2.size := by rw [hL] at hl; exact hl
        show true = decide _
        rw [decide_eq_true (by omega)]
      | cons x l =>
        have hl' : l.length + 1 = r1.size + r2.size := by rw [hL] at hl; exact hl
        show false = decide _
        rw [decide_eq_false (by omega)]
    clear s1 s2 p1 p3 b1 b2 b3 b4
    by_cases hz : r1.size + r2.size = 0
    · rw [decide_eq_true hz] at hem
      have HO : Hid (operands op = -1) := by
        show operands op = -1
        rcases S1.out with h | ⟨_, h⟩
        · have := (infixO_some h).1; omega
        · rcases S2.out with h2 | ⟨_, h2⟩
          · have := (funcO_some h2).1; omega
          · have q1 := infixO_has h
            have q2 := funcO_has h2
            unfold operands
            rw [if_neg (by omega), if_neg (by omega), if_neg (by omega), if_neg (by omega)]
      go_wp2
      go_ret
      exact ⟨by rw [HO.out]; rfl, b5⟩
    · rw [decide_eq_false hz] at hem
      have HO : Hid (operands op = 2) := by
        show operands op = 2
        have hop : 3 ≤ op ∧ op ≤ 11 := by
          rcases S1.out with h | ⟨e1, _⟩
          · have := (infixO_some h).2; omega
          · rcases S2.out with h2 | ⟨e2, _⟩
            · have := (funcO_some h2).2; omega
            · exfalso; rw [e1, e2] at hz; exact hz rfl
        unfold operands
        rw [if_neg (by omega), if_neg (by omega), if_neg (by omega), if_pos (by omega)]
      go_wp2
      go_ret
      exact ⟨by rw [HO.out]; rfl, b5⟩
end Go.Proofs.YtkomgidcgepknaaGreatDoor

/-
  expr.identifier.
-/
namespace Go.Proofs.YtkomgidcgepknaaGreatDoor
open Go.RowKit Go.Deep Go.Maps

/-- Is the text one token that is a name, and no function's name? -/
def idL (s : ByteArray) : Bool := (lexL s).err == 0 && (match (lexL s).toks with | [t] => t.kind == 1 && decide (t.text = s) && funcOp s == 0 | _ => false)

set_option maxHeartbeats 1000000 in
set_option maxRecDepth 20000 in
theorem identifier_any (s : ByteArray) (w : World) (hs : s.size ≤ maxLen) : Calls Tryz.prog 135 #[.string s] w fun e w' => e = .returned (.bool (idL s)) ∧ Below w.heap.size w w' := by
  go_enter Tryz.func135, Tryz.ntmps135
  go_wp2_with fail
  refine (lex_any s w hs).mono ?_
  rintro e w1 ⟨⟨v, rfl, A, c, rfl, hown⟩, hb⟩
  have HI0 : Hid (idL s = ((lexL s).err == 0 && (match (lexL s).toks with | [t] => t.kind == 1 && decide (t.text = s) && funcOp s == 0 | _ => false))) := rfl
  generalize lexL s = r at hown HI0 ⊢
  obtain ⟨ts, er, off⟩ := r
  dsimp only at hown HI0 ⊢
  by_cases he : er = 0
  · subst he
    by_cases hl : ts.length = 1
    · obtain ⟨t, rfl⟩ : ∃ t, ts = [t] := List.length_eq_one_iff.1 hl
      obtain ⟨g, cap, hv, hgb, hlt⟩ := World.ownsRow.form hown (by simp)
      injection hv with hA _ hc
      subst hA
      have hcell := (World.ownsRow.cells hown (g := g) rfl)
      have k0 : w1.cell? ⟨g, 0, none⟩ = some (.int .i64 t.kind) := hcell 0 _ rfl
      have k1 : w1.cell? ⟨g, 1, none⟩ = some (.string t.text) := hcell 1 _ rfl
      clear hcell hown hl
      have HI : Hid (idL s = (t.kind == 1 && decide (t.text = s) && funcOp s == 0)) := by
        show _ = _
        rw [HI0.out]
        rfl
      clear HI0
      by_cases hk : t.kind = 1
      · by_cases ht : t.text = s
        · rw [hk] at k0
          rw [ht] at k1
          go_wp2_with fail
          refine (functions_map w1).mono ?_
          rintro e w2 ⟨rfl, p2, b2⟩
          have hlk := (PM.is p2).lookup keyedS Tryz.underlying94 (e := 3) (by rfl) s (kl := .string s.data.toList) (WideMaps.keyOf_string_mk Tryz.underlying9 hs)
          have hfo : (funcO s).getD 0 = funcOp s := by
            unfold funcO
            by_cases h0 : funcOp s = 0
            · rw [if_pos h0, h0]; rfl
            · rw [if_neg h0]; rfl
          rw [hfo] at hlk
          have HR : Hid (idL s = (funcOp s == 0)) := by
            show _ = _
            rw [HI.out, hk, decide_eq_true ht]
            rfl
          clear HI hk ht hfo
          go_wp2
          go_ret
          exact ⟨by rw [HR.out]; rfl, hb.trans (b2.mono hb.size)⟩
        · have HR : Hid (idL s = false) := by
            show _ = _
            rw [HI.out, decide_eq_false ht, Bool.and_false, Bool.false_and]
          rw [hk] at k0
          have ht1 : ¬ t.text.toList = s.toList := by
            intro h
            rw [Go.Lib.toList_data, Go.Lib.toList_data] at h
            exact ht (ByteArray.ext (Array.toList_inj.1 h))
          have ht' : (t.text.toList == s.toList) = false := beq_eq_false_iff_ne.2 ht1
          clear HI hk
          go_wp2
          all_goals go_ret
          all_goals exact ⟨by rw [HR.out]; rfl, hb⟩
      · have HR : Hid (idL s = false) := by
          show _ = _
          rw [HI.out, beq_eq_false_iff_ne.2 hk, Bool.false_and, Bool.false_and]
        have hk' : (t.kind == 1) = false := beq_eq_false_iff_ne.2 hk
        clear HI hk
        go_wp2
        all_goals go_ret
        all_goals exact ⟨by rw [HR.out]; rfl, hb⟩
    · have HI : Hid (idL s = false) := by
        show idL s = false
        rw [HI0.out]
        rcases ts with _ | ⟨t, _ | ⟨t2, ts⟩⟩
        · rfl
        · exact absurd rfl hl
        · rfl
      have hl' : (((ts.length : Nat) : Int) == 1) = false := beq_eq_false_iff_ne.2 (by omega)
      clear HI0
      go_wp2
      go_ret
      exact ⟨by rw [HI.out]; rfl, hb⟩
  · have he' : (er == 0) = false := beq_eq_false_iff_ne.2 he
    have HI : Hid (idL s = false) := by
      show idL s = false
      rw [HI0.out, he']
      rfl
    clear HI0
    go_wp2
    go_ret
    exact ⟨by rw [HI.out]; rfl, hb⟩

theorem idL_eq (s : ByteArray) : idL s = (nameB s && decide (funcOp s = 0)) := by
  rw [← lexName_eq]
  unfold idL lexName
  cases (lexL s).err == 0
  · rfl
  · rcases (lexL s).toks with _ | ⟨t, _ | ⟨t2, ts⟩⟩
    · rfl
    · simp only [Bool.true_and, Bool.and_assoc]
      congr 2
    · rfl
end Go.Proofs.YtkomgidcgepknaaGreatDoor

/-
  expr.formed.
-/
namespace Go.Proofs.YtkomgidcgepknaaGreatDoor
open Go.RowKit Go.Deep Go.Maps

/-- A node as a value. -/
def Nod.val (x : Nod) (A : Option Addr) (c : Nat) : Value := .agg #[.int .i64 x.op, .int .i64 x.n, .string x.name, .slice A x.kids.length c]

theorem empty_iff (s : ByteArray) : s.toList.isEmpty = decide (s = ByteArray.empty) := by
  rw [Go.Lib.toList_data]
  cases hL : s.data.toList with
  | nil =>
    have : s = ByteArray.empty := ByteArray.ext (Array.toList_inj.1 (by rw [hL]; rfl))
    rw [decide_eq_true this]; rfl
  | cons x l =>
    have : s ≠ ByteArray.empty := by
      rintro rfl
      have h2 : ([] : List UInt8) = x :: l := hL
      cases h2
    rw [decide_eq_false this]; rfl
theorem formed_one {x : Nod} (hk : operands x.op = x.kids.length) (h : x.op = 1) : formedL x = (x.name.toList.isEmpty && (decide (0 ≤ x.n) && decide (x.n ≤ 1000000))) := by
  unfold formedL
  rw [decide_eq_true hk, if_pos h, empty_iff, Bool.true_and, Bool.and_assoc]
theorem formed_else {x : Nod} (hk : operands x.op = x.kids.length) (h : x.op ≠ 1) (h2 : x.op ≠ 2) : formedL x = (decide (x.n = 0) && x.name.toList.isEmpty) := by
  unfold formedL
  rw [decide_eq_true hk, if_neg h, if_neg h2, empty_iff, Bool.true_and]

set_option maxHeartbeats 1000000 in
set_option maxRecDepth 20000 in
theorem formed_any (x : Nod) (A : Option Addr) (c : Nat) (w : World) (hs : x.name.size ≤ maxLen) : Calls Tryz.prog 83 #[x.val A c] w fun e w' => e = .returned (.bool (formedL x)) ∧ Below w.heap.size w w' := by
  unfold Nod.val
  have hb0 : Below w.heap.size w (w.alloc (Obj.cells #[.int .i64 x.op, .int .i64 x.n, .string x.name, .slice A x.kids.length c] 56)) := (Below.refl _ _).alloc (Nat.le_refl _) _
  have hB0 : Blk (w.alloc (Obj.cells #[.int .i64 x.op, .int .i64 x.n, .string x.name, .slice A x.kids.length c] 56)) w.heap.size 56 #[.int .i64 x.op, .int .i64 x.n, .string x.name, .slice A x.kids.length c] := Blk.new _ _ _
  go_enter Tryz.func83, Tryz.ntmps83
  go_wp2_with fail
  generalize w.alloc (Obj.cells #[.int .i64 x.op, .int .i64 x.n, .string x.name, .slice A x.kids.length c] 56) = w0 at hb0 hB0 ⊢
  have SD : Hid (w0.drew.cell? ⟨w.heap.size, 0, none⟩ = some (.int .i64 x.op) ∧ w0.drew.cell? ⟨w.heap.size, 3, none⟩ = some (.slice A x.kids.length c)) := ⟨hB0.cell 0, hB0.cell 3⟩
  have hlt0 := Blk.lt hB0
  go_region_held3 (fun w' => w'.cell? ⟨w.heap.size, 0, none⟩ = some (.int .i64 x.op) ∧ w'.cell? ⟨w.heap.size, 3, none⟩ = some (.slice A x.kids.length c))
    (first | exact SD.out | exact SK.out)
    (first | (go_at_call 134; refine (operands_any x.op w0.drew).mono ?_; rintro e w2 ⟨rfl, hb2⟩; have HB2 := hide hb2; have SK : Hid (w2.cell? ⟨w.heap.size, 0, none⟩ = some (.int .i64 x.op) ∧ w2.cell? ⟨w.heap.size, 3, none⟩ = some (.slice A x.kids.length c)) := ⟨(hb2.cell hlt0).trans SD.out.1, (hb2.cell hlt0).trans SD.out.2⟩; clear hb2))
  have hB2 := Blk.below (Blk.drew hB0) HB2.out hlt0
  have hb2 : Below w.heap.size w w2 := (hb0.trans (Below.drew (Below.refl _ _))).trans (HB2.out.mono hb0.size)
  obtain ⟨c0, c1, c2, c3, _, _, _, _⟩ := blk4 hB2
  clear SD SK HB2 hB0 hb0 hB2
  by_cases hk : operands x.op = x.kids.length
  · have hk' : (operands x.op == ((x.kids.length : Nat) : Int)) = true := beq_iff_eq.2 hk
    by_cases h2 : x.op = 2
    · by_cases hn : x.n = 0
      · have HF : Hid (formedL x = idL x.name) := by
          show _ = _
          unfold formedL
          rw [decide_eq_true hk, if_neg (by omega), if_pos h2, decide_eq_true hn, idL_eq]
          simp
        rw [h2] at hk' ⊢
        rw [hn] at c1
        go_wp2_with fail
        refine (identifier_any x.name _ hs).mono ?_
        rintro e w3 ⟨rfl, hb3⟩
        go_wp2
        go_ret
        exact ⟨by rw [HF.out]; rfl, hb2.trans (hb3.mono hb2.size)⟩
      · have HF : Hid (formedL x = false) := by
          show _ = _
          unfold formedL
          rw [decide_eq_true hk, if_neg (by omega), if_pos h2, decide_eq_false hn]
          simp
        have hn' : (x.n == 0) = false := beq_eq_false_iff_ne.2 hn
        rw [h2] at hk' ⊢
        go_wp2
        all_goals go_ret
        all_goals exact ⟨by rw [HF.out]; rfl, hb2⟩
    · by_cases h1 : x.op = 1
      · have HF := hide (formed_one hk h1)
        rw [h1] at hk' ⊢
        cases hem : x.name.toList.isEmpty
        · rw [hem] at HF
          go_wp2
          all_goals go_ret
          all_goals exact ⟨by rw [HF.out]; rfl, hb2⟩
        · rw [hem] at HF
          by_cases h0 : 0 ≤ x.n
          · by_cases h9 : x.n ≤ 1000000
            · rw [decide_eq_true h0, decide_eq_true h9] at HF
              go_wp2
              all_goals go_ret
              all_goals exact ⟨by rw [HF.out]; rfl, hb2⟩
            · rw [decide_eq_true h0, decide_eq_false h9] at HF
              go_wp2
              all_goals go_ret
              all_goals exact ⟨by rw [HF.out]; rfl, hb2⟩
          · rw [decide_eq_false h0] at HF
            go_wp2
            all_goals go_ret
            all_goals exact ⟨by rw [HF.out]; rfl, hb2⟩
      · have HF := hide (formed_else hk h1 h2)
        have h1' : (x.op == 1) = false := beq_eq_false_iff_ne.2 h1
        have h2' : (x.op == 2) = false := beq_eq_false_iff_ne.2 h2
        cases hem : x.name.toList.isEmpty
        · rw [hem, Bool.and_false] at HF
          go_wp2
          all_goals go_ret
          all_goals exact ⟨by rw [HF.out]; rfl, hb2⟩
        · rw [hem, Bool.and_true] at HF
          by_cases hn : x.n = 0
          · rw [decide_eq_true hn] at HF
            rw [hn] at c1
            go_wp2
            all_goals go_ret
            all_goals exact ⟨by rw [HF.out]; rfl, hb2⟩
          · rw [decide_eq_false hn] at HF
            have hn' : (x.n == 0) = false := beq_eq_false_iff_ne.2 hn
            go_wp2
            all_goals go_ret
            all_goals exact ⟨by rw [HF.out]; rfl, hb2⟩
  · have HF : Hid (formedL x = false) := by
      show _ = _
      unfold formedL
      rw [decide_eq_false hk, Bool.false_and]
    have hk' : (operands x.op == ((x.kids.length : Nat) : Int)) = false := beq_eq_false_iff_ne.2 hk
    go_wp2
    go_ret
    exact ⟨by rw [HF.out]; rfl, hb2⟩
end Go.Proofs.YtkomgidcgepknaaGreatDoor
