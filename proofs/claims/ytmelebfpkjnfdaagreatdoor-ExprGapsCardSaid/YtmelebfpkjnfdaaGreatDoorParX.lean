/-
  What is parsed is a tree whose own tokens are not more than those that were read. No program.
-/
import Derived.Test.YtmelebfpkjnfdaaGreatDoorParV
import Derived.Test.YtmelebfpkjnfdaaGreatDoorTrev
set_option linter.unusedVariables false
set_option linter.unusedSimpArgs false
namespace Go.Proofs.YtmelebfpkjnfdaaGreatDoor

/-- A tree but for the fields of its leaves. -/
def Tr.wf : Tr → Prop
  | .leaf x => x.op = 1 ∨ x.op = 2
  | .un a => a.wf
  | .bin op a b => binOp op ∧ a.wf ∧ b.wf
  | .cond a b c => a.wf ∧ b.wf ∧ c.wf
theorem wf_good : ∀ (t : Tr) (k : Nat), t.wf → (∀ x ∈ t.flat k, formedL x = true) → t.good
  | .leaf x, k, hw, h => ⟨h x (by simp [Tr.flat]), hw⟩
  | .un a, k, hw, h => wf_good a k hw fun x hx => h x (by simp [Tr.flat, hx])
  | .bin op a b, k, hw, h => ⟨hw.1, wf_good a k hw.2.1 fun x hx => h x (by simp [Tr.flat, hx]), wf_good b (k + a.size) hw.2.2 fun x hx => h x (by simp [Tr.flat, hx])⟩
  | .cond a b c, k, hw, h => ⟨wf_good a k hw.1 fun x hx => h x (by simp [Tr.flat, hx]), wf_good b (k + a.size) hw.2.1 fun x hx => h x (by simp [Tr.flat, hx]), wf_good c (k + a.size + b.size) hw.2.2 fun x hx => h x (by simp [Tr.flat, hx])⟩
theorem par_len_eq (own m : Nat) (l : List (Int × ByteArray × Int)) : (paren own m l).length = l.length + if own < m then 2 else 0 := by
  unfold paren
  split <;> simp
/-- How many tokens a tree has. -/
theorem toks_len_eq (t : Tr) (m : Nat) : (t.toks m).length = (t.toks 0).length + if t.own < m then 2 else 0 := by
  rw [toks_eq t m, par_len_eq]
theorem toks_mono (t : Tr) {m n : Nat} (h : m ≤ n) : (t.toks m).length ≤ (t.toks n).length := by
  rw [toks_len_eq t m, toks_len_eq t n]
  split <;> split <;> omega
theorem toks_two (t : Tr) (m n : Nat) : (t.toks m).length ≤ (t.toks n).length + 2 := by
  rw [toks_len_eq t m, toks_len_eq t n]
  split <;> split <;> omega
/-- What the operands of a function leave. -/
inductive ArgsI (out0 : List Nod) : List Tr → List Nod → List Int → Prop
  | nil : ArgsI out0 [] out0 []
  | snoc {ts out kids t} (h : ArgsI out0 ts out kids) (hw : t.wf) : ArgsI out0 (ts ++ [t]) (out ++ t.flat out.length) (kids ++ [((out.length + t.size : Nat) : Int) - 1])
def sumT (ts : List Tr) : Nat := ts.foldr (fun t n => 1 + (t.toks 1).length + n) 0
theorem sumT_app (a b : List Tr) : sumT (a ++ b) = sumT a + sumT b := by
  induction a with
  | nil => simp [sumT]
  | cons t a ih =>
    show 1 + (t.toks 1).length + sumT (a ++ b) = 1 + (t.toks 1).length + sumT a + sumT b
    omega
theorem args_snoc {out0 out : List Nod} {ts : List Tr} {t : Tr} {kids : List Int} (h : ArgsI out0 (ts ++ [t]) out kids) :
    ∃ out1 kids1, ArgsI out0 ts out1 kids1 ∧ t.wf ∧ out = out1 ++ t.flat out1.length ∧ kids = kids1 ++ [((out1.length + t.size : Nat) : Int) - 1] := by
  generalize he : ts ++ [t] = l at h
  cases h with
  | nil => simp at he
  | @snoc ts' out1 kids1 t' h hw =>
    obtain ⟨rfl, h2⟩ := List.append_inj' he rfl
    injection h2 with h2
    subst h2
    exact ⟨out1, kids1, h, hw, rfl, rfl⟩
theorem args_nil {out0 out : List Nod} {kids : List Int} (h : ArgsI out0 [] out kids) : out = out0 ∧ kids = [] := by
  generalize he : ([] : List Tr) = l at h
  cases h with
  | nil => exact ⟨rfl, rfl⟩
  | snoc h hw => simp at he
theorem args2 {out0 out : List Nod} {x y : Tr} {kids : List Int} (h : ArgsI out0 [x, y] out kids) : x.wf ∧ y.wf ∧ out = out0 ++ (x.flat out0.length ++ y.flat (out0.length + x.size)) ∧ kids = [((out0.length + x.size : Nat) : Int) - 1, ((out0.length + x.size + y.size : Nat) : Int) - 1] := by
  obtain ⟨o1, k1, h1, hy, rfl, rfl⟩ := args_snoc (ts := [x]) h
  obtain ⟨o2, k2, h2, hx, rfl, rfl⟩ := args_snoc (ts := []) h1
  obtain ⟨rfl, rfl⟩ := args_nil h2
  have hl : (o2 ++ x.flat o2.length).length = o2.length + x.size := by rw [List.length_append, Tr.flat_len]
  rw [hl]
  exact ⟨hx, hy, by rw [List.append_assoc], rfl⟩
theorem args3 {out0 out : List Nod} {x y z : Tr} {kids : List Int} (h : ArgsI out0 [x, y, z] out kids) : x.wf ∧ y.wf ∧ z.wf ∧ out = out0 ++ (x.flat out0.length ++ y.flat (out0.length + x.size) ++ z.flat (out0.length + x.size + y.size)) ∧
    kids = [((out0.length + x.size : Nat) : Int) - 1, ((out0.length + x.size + y.size : Nat) : Int) - 1, ((out0.length + x.size + y.size + z.size : Nat) : Int) - 1] := by
  obtain ⟨o1, k1, h1, hz, rfl, rfl⟩ := args_snoc (ts := [x, y]) h
  obtain ⟨hx, hy, rfl, rfl⟩ := args2 h1
  have hl : (out0 ++ (x.flat out0.length ++ y.flat (out0.length + x.size))).length = out0.length + x.size + y.size := by
    rw [List.length_append, List.length_append, Tr.flat_len, Tr.flat_len]; omega
  rw [hl]
  exact ⟨hx, hy, hz, by simp only [List.append_assoc], rfl⟩
/-- A tree that was read. -/
def Rd (m : Nat) (toks : List Tok) (out : List Nod) (a : Int) (t : List Tok) (o : List Nod) : Prop :=
  ∃ T : Tr, T.wf ∧ o = out ++ T.flat out.length ∧ a = ((out.length + T.size : Nat) : Int) - 1 ∧ t.length + (T.toks m).length ≤ toks.length
def Snd : Md → List Tok → List Nod → Int → List Tok → List Nod → Prop
  | .lev l, toks, out, a, t, o => 1 ≤ l → l ≤ 4 → Rd l toks out a t o
  | .prim, toks, out, a, t, o => Rd 4 toks out a t o
  | .loop l b, toks, out, a, t, o => 1 ≤ l → l ≤ 3 → ∀ (T0 : Tr) (out0 : List Nod), T0.wf → out = out0 ++ T0.flat out0.length → b = ((out0.length + T0.size : Nat) : Int) - 1 →
    ∃ T : Tr, T.wf ∧ o = out0 ++ T.flat out0.length ∧ a = ((out0.length + T.size : Nat) : Int) - 1 ∧ t.length + (T.toks l).length ≤ toks.length + (T0.toks (if l = 1 then 2 else l)).length
  | .args op i kids, toks, out, a, t, o => ∀ (out0 : List Nod) (ts : List Tr), ArgsI out0 ts out kids → ts.length = i →
    ∃ us out' kids', ArgsI out0 (ts ++ us) out' kids' ∧ ¬ (((ts ++ us).length : Nat) : Int) < operands op ∧ (us = [] ∨ (((ts ++ us).length : Nat) : Int) = operands op) ∧ o = out' ++ [⟨op, 0, ByteArray.empty, kids'⟩] ∧ a = (out'.length : Int) ∧ t.length + 1 + sumT us ≤ toks.length
theorem infix_strength {t : ByteArray} (h0 : infixOp t ≠ 0) : binOp (infixOp t) ∧ ownB (infixOp t) ≠ 5 ∧ strength (infixOp t) = ownB (infixOp t) := by
  unfold infixOp at h0 ⊢
  split
  · exact ⟨by unfold binOp; omega, by decide, by decide⟩
  · split
    · exact ⟨by unfold binOp; omega, by decide, by decide⟩
    · split
      · exact ⟨by unfold binOp; omega, by decide, by decide⟩
      · split
        · exact ⟨by unfold binOp; omega, by decide, by decide⟩
        · split
          · exact ⟨by unfold binOp; omega, by decide, by decide⟩
          · split
            · exact ⟨by unfold binOp; omega, by decide, by decide⟩
            · rename_i h1 h2 h3 h4 h5 h6
              rw [if_neg h1, if_neg h2, if_neg h3, if_neg h4, if_neg h5, if_neg h6] at h0
              exact absurd rfl h0
theorem func_is {t : ByteArray} (h0 : funcOp t ≠ 0) : funcOp t = 7 ∨ funcOp t = 8 ∨ funcOp t = 9 := by
  unfold funcOp at h0 ⊢
  repeat' split
  all_goals simp_all
/-- The tokens of an operator between its operands. -/
theorem toks_bin {op : Int} {a b : Tr} (ho : ownB op ≠ 5) : ((Tr.bin op a b).toks (ownB op)).length = (a.toks (if ownB op = 1 then 2 else ownB op)).length + 1 + (b.toks (ownB op + 1)).length := by
  show (paren (ownB op) (ownB op) _).length = _
  rw [par_len_eq, if_neg (Nat.lt_irrefl _), if_neg ho]
  by_cases h1 : ownB op = 1
  · rw [if_pos h1, if_pos h1, h1]
    simp
    omega
  · rw [if_neg h1, if_neg h1]
    simp
    omega
theorem bin_flat {op : Int} {a b : Tr} {out0 o : List Nod} {out : List Nod} (h1 : out = out0 ++ a.flat out0.length) (h2 : o = out ++ b.flat out.length) :
    o ++ [⟨op, 0, ByteArray.empty, [((out0.length + a.size : Nat) : Int) - 1, ((out.length + b.size : Nat) : Int) - 1]⟩] = out0 ++ (Tr.bin op a b).flat out0.length ∧ (o.length : Int) = ((out0.length + (Tr.bin op a b).size : Nat) : Int) - 1 := by
  have hl : out.length = out0.length + a.size := by rw [h1, List.length_append, Tr.flat_len]
  have hl2 : o.length = out0.length + a.size + b.size := by rw [h2, List.length_append, Tr.flat_len, hl]
  constructor
  · rw [h2, hl, h1]
    show _ = out0 ++ (a.flat out0.length ++ b.flat (out0.length + a.size) ++ [⟨op, 0, ByteArray.empty, [((out0.length + a.size : Nat) : Int) - 1, ((out0.length + a.size + b.size : Nat) : Int) - 1]⟩])
    simp only [List.append_assoc]
  · rw [hl2]
    show _ = ((out0.length + (a.size + b.size + 1) : Nat) : Int) - 1
    omega
theorem G_snd {m : Md} {toks : List Tok} {out : List Nod} {a : Int} {t : List Tok} {o : List Nod} (g : G m toks out a t o) : Snd m toks out a t o := by
  induction g with
  | @neg toks out a t o h g ih =>
    intro _ _
    obtain ⟨T, hw, rfl, rfl, hn⟩ := ih (by omega) (by omega)
    obtain ⟨k, r, rfl⟩ := sees_consG (i := 0) h
    refine ⟨.un T, hw, ?_, ?_, ?_⟩
    · show _ = out ++ (T.flat out.length ++ [_])
      rw [List.append_assoc]
    · rw [List.length_append, Tr.flat_len]
      show _ = ((out.length + (T.size + 1) : Nat) : Int) - 1
      omega
    · have : ((Tr.un T).toks 4).length = 1 + (T.toks 4).length := by
        show (paren 4 4 (symE minus :: T.toks 4)).length = _
        rw [par_len_eq, if_neg (by omega), List.length_cons]
        omega
      rw [this]
      simp only [List.tail_cons, List.length_cons] at hn ⊢
      omega
  | prim h g ih => exact fun _ _ => ih
  | @up l toks out b u p a t o h g k ihg ihk =>
    intro h1 h4
    obtain ⟨T0, hw0, hp, hb, hn⟩ := ihg (by omega) (by omega)
    obtain ⟨T, hw, ho, ha, hn2⟩ := ihk h1 (by omega) T0 out hw0 hp hb
    refine ⟨T, hw, ho, ha, ?_⟩
    have : (T0.toks (if l = 1 then 2 else l)).length ≤ (T0.toks (l + 1)).length := toks_mono T0 (by split <;> omega)
    omega
  | @stopN l a out =>
    intro h1 h3 T0 out0 hw h2 h4
    exact ⟨T0, hw, h2, h4, by have := toks_mono T0 (m := l) (n := if l = 1 then 2 else l) (by split <;> omega); omega⟩
  | @stop l a k r out h =>
    intro h1 h3 T0 out0 hw h2 h4
    exact ⟨T0, hw, h2, h4, by have := toks_mono T0 (m := l) (n := if l = 1 then 2 else l) (by split <;> omega); omega⟩
  | @weak a k r out b t o h h0 hs g ih =>
    intro h1 h3 T0 out0 hw h2 h4
    obtain ⟨T1, hw1, ho, hb, hn⟩ := ih (by omega) (by omega)
    obtain ⟨i1, i2, i3⟩ := infix_strength h0
    have hown : ownB (infixOp k.text) = 1 := by omega
    obtain ⟨f1, f2⟩ := bin_flat (op := infixOp k.text) h2 ho
    refine ⟨.bin (infixOp k.text) T0 T1, ⟨i1, hw, hw1⟩, ?_, f2, ?_⟩
    · rw [h4, hb]; exact f1
    · have := toks_bin (a := T0) (b := T1) i2
      rw [hown, if_pos rfl] at this
      rw [this, if_pos rfl]
      simp only [List.length_cons, Nat.reduceAdd] at hn ⊢
      omega
  | @more l a k r out b u p c t o h h0 hs hl g m ihg ihm =>
    intro h1 h3 T0 out0 hw h2 h4
    obtain ⟨T1, hw1, ho, hb, hn⟩ := ihg (by omega) (by omega)
    obtain ⟨i1, i2, i3⟩ := infix_strength h0
    have hown : ownB (infixOp k.text) = l := by omega
    obtain ⟨f1, f2⟩ := bin_flat (op := infixOp k.text) h2 ho
    obtain ⟨T, hwT, hoT, haT, hnT⟩ := ihm h1 h3 (.bin (infixOp k.text) T0 T1) out0 ⟨i1, hw, hw1⟩ (by rw [h4, hb]; exact f1) f2
    refine ⟨T, hwT, hoT, haT, ?_⟩
    have := toks_bin (a := T0) (b := T1) i2
    rw [hown, if_neg hl] at this
    rw [if_neg hl] at hnT ⊢
    rw [this] at hnT
    simp only [List.length_cons]
    omega
  | @par k r out a t o q h g hq ih =>
    obtain ⟨T, hw, ho, ha, hn⟩ := ih (by omega) (by omega)
    refine ⟨T, hw, ho, ha, ?_⟩
    have := toks_two T 4 1
    simp only [List.length_cons] at hn ⊢
    omega
  | @num k r out h hn =>
    refine ⟨.leaf ⟨1, k.n, ByteArray.empty, []⟩, .inl rfl, rfl, ?_, ?_⟩
    · show _ = ((out.length + 1 : Nat) : Int) - 1
      omega
    · show r.length + (paren 5 4 [(2, ByteArray.empty, k.n)]).length ≤ _
      rw [par_len_eq]
      simp
  | @name k r out h h0 hs =>
    refine ⟨.leaf ⟨2, 0, k.text, []⟩, .inr rfl, rfl, ?_, ?_⟩
    · show _ = ((out.length + 1 : Nat) : Int) - 1
      omega
    · show r.length + (paren 5 4 [(1, k.text, 0)]).length ≤ _
      rw [par_len_eq]
      simp
  | @call k r out a t o h h0 g ih =>
    obtain ⟨us, out', kids', hA, hop, hop2, ho, ha, hn⟩ := ih out [] .nil rfl
    rw [List.nil_append] at hA hop hop2
    have two : binOp (funcOp k.text) → ownB (funcOp k.text) = 5 → operands (funcOp k.text) = 2 → Rd 4 (k :: r) out a t o := fun hb h5 h2 => by
      rw [h2] at hop hop2
      have hl : us.length = 2 := by
        rcases hop2 with e | e
        · subst e; simp at hop
        · omega
      obtain ⟨x, y, rfl⟩ : ∃ x y, us = [x, y] := by
        match us, hl with
        | [x, y], _ => exact ⟨x, y, rfl⟩
      obtain ⟨hx, hy, ho', hk'⟩ := args2 hA
      refine ⟨.bin (funcOp k.text) x y, ⟨hb, hx, hy⟩, ?_, ?_, ?_⟩
      · rw [ho, hk', ho']
        show _ = out ++ (x.flat out.length ++ y.flat (out.length + x.size) ++ [_])
        simp only [List.append_assoc]
      · rw [ha, ho', List.length_append, List.length_append, Tr.flat_len, Tr.flat_len]
        show _ = ((out.length + (x.size + y.size + 1) : Nat) : Int) - 1
        omega
      · have : ((Tr.bin (funcOp k.text) x y).toks 4).length = (x.toks 1).length + (y.toks 1).length + 4 := by
          show (paren (ownB (funcOp k.text)) 4 (if ownB (funcOp k.text) = 5 then (1, funcT (funcOp k.text), 0) :: symE lpar :: (x.toks 1 ++ symE comma :: (y.toks 1 ++ [symE rpar])) else _)).length = _
          rw [if_pos h5, h5, par_len_eq, if_neg (by omega)]
          simp
          omega
        rw [this]
        have hs : sumT [x, y] = 1 + (x.toks 1).length + (1 + (y.toks 1).length + 0) := rfl
        rw [hs] at hn
        simp only [List.length_cons]
        omega
    rcases func_is h0 with e | e | e
    · exact two (by rw [e]; unfold binOp; omega) (by rw [e]; decide) (by rw [e]; decide)
    · exact two (by rw [e]; unfold binOp; omega) (by rw [e]; decide) (by rw [e]; decide)
    · rw [e] at hop hop2 ho
      rw [show operands 9 = 3 from by decide] at hop hop2
      have hl : us.length = 3 := by
        rcases hop2 with e | e
        · subst e; simp at hop
        · omega
      obtain ⟨x, y, z, rfl⟩ : ∃ x y z, us = [x, y, z] := by
        match us, hl with
        | [x, y, z], _ => exact ⟨x, y, z, rfl⟩
      obtain ⟨hx, hy, hz, ho', hk'⟩ := args3 hA
      refine ⟨.cond x y z, ⟨hx, hy, hz⟩, ?_, ?_, ?_⟩
      · rw [ho, hk', ho']
        show _ = out ++ (x.flat out.length ++ y.flat (out.length + x.size) ++ z.flat (out.length + x.size + y.size) ++ [_])
        simp only [List.append_assoc]
      · rw [ha, ho', List.length_append, List.length_append, List.length_append, Tr.flat_len, Tr.flat_len, Tr.flat_len]
        show _ = ((out.length + (x.size + y.size + z.size + 1) : Nat) : Int) - 1
        omega
      · have : ((Tr.cond x y z).toks 4).length = (x.toks 1).length + (y.toks 1).length + (z.toks 1).length + 5 := by
          show (paren 5 4 _).length = _
          rw [par_len_eq, if_neg (by omega)]
          simp
          omega
        rw [this]
        have hs : sumT [x, y, z] = 1 + (x.toks 1).length + (1 + (y.toks 1).length + (1 + (z.toks 1).length + 0)) := rfl
        rw [hs] at hn
        simp only [List.length_cons]
        omega
  | @arg op i kids k r out b u p a t o h hs g m ihg ihm =>
    intro out0 ts hA hi
    obtain ⟨T, hw, hp, hb, hn⟩ := ihg (by omega) (by omega)
    have hA2 := ArgsI.snoc hA hw
    rw [← hp, ← hb] at hA2
    obtain ⟨us, out', kids', hA', hop, hop2, ho, ha, hn2⟩ := ihm out0 (ts ++ [T]) hA2 (by rw [List.length_append, hi]; rfl)
    rw [List.append_assoc] at hA' hop hop2
    refine ⟨[T] ++ us, out', kids', hA', hop, .inr ?_, ho, ha, ?_⟩
    · rcases hop2 with h1 | h1
      · subst h1
        simp only [List.append_nil, List.length_append, List.length_cons, List.length_nil] at hop ⊢
        omega
      · exact h1
    · rw [sumT_app]
      show t.length + 1 + (1 + (T.toks 1).length + 0 + sumT us) ≤ _
      simp only [List.length_cons]
      omega
  | @done op i kids k r out h hs =>
    intro out0 ts hA hi
    refine ⟨[], out, kids, by rw [List.append_nil]; exact hA, by rw [List.append_nil, hi]; exact h, .inl rfl, rfl, rfl, ?_⟩
    simp [sumT]
end Go.Proofs.YtmelebfpkjnfdaaGreatDoor
