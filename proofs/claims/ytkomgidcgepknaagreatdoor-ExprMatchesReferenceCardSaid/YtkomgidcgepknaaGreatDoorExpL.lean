/-
  expr's parser: primary at a number and at a name.
-/
import Derived.Test.YtkomgidcgepknaaGreatDoorExpI
set_option linter.unusedVariables false
set_option linter.unusedSimpArgs false
namespace Go.Proofs.YtkomgidcgepknaaGreatDoor
open Go.RowKit Go.Deep Go.Maps

theorem tok_n (a b d : Value) (n : Int) (w : World) : (Instr.field 166 (.agg #[a, b, .int .i64 n, d]) 2).run Tryz.prog w = .ok (.int .i64 n) w := by kernel_rfl
theorem tok_text (a c d : Value) (t : ByteArray) (w : World) : (Instr.field 166 (.agg #[a, .string t, c, d]) 1).run Tryz.prog w = .ok (.string t) w := by kernel_rfl

set_option maxHeartbeats 2000000 in
set_option maxRecDepth 20000 in
theorem prim_num {z : Int} {q : Nat} {k : Tok} {rest : List Tok} {out : List Nod} {w : World} {N : Nat} {r : Fp} (hs : seesL (k :: rest) 0 lpar = false) (hk : k.kind = 2)
    (h : ParAt w q z N (k :: rest) out r) (hN : N ≤ 100000) {res : PR} (hres : (if 1000000 < k.n then failL z (k :: rest) 9 else putL rest out ⟨1, k.n, ByteArray.empty, []⟩) = res) :
    Calls Tryz.prog 118 #[.pointer (some ⟨q, 0, none⟩)] w (ParPost w q z N r res) := by
  have HRES := hide hres
  clear hres
  obtain ⟨M, rfl⟩ : ∃ M, N = M + 1 := ⟨N - 1, by have := h.sum; simp at this; omega⟩
  have HS := hide hs
  have H := hide h
  have hsum := h.sum
  have hlt := h.lt
  obtain ⟨A, c, A2, c2, h0, hrd, hcap, _, _⟩ := h.ex
  have c0 := h0.cell 0
  change w.cell? ⟨q, 0, none⟩ = some (.slice A (k :: rest).length c) at c0
  obtain ⟨b, off, rfl, hb, k0, k1, k2, k3⟩ := hrd.tok (i := 0) (t := k) rfl
  rw [Nat.zero_mul, Nat.add_zero] at k0 k1 k2 k3
  rw [hk] at k0
  have htx := h.txt k (List.mem_cons_self)
  have hll : (((k :: rest).length : Nat) : Int) = (rest.length : Int) + 1 := by simp
  have hl0 : ((rest.length : Int) + 1 == 0) = false := beq_eq_false_iff_ne.2 (by omega)
  have hl01 : (0 : Int) < (rest.length : Int) + 1 := by omega
  have HB1 : Hid (Below w.heap.size w (w.alloc (Obj.cells #[.int .i64 2, .string k.text, .int .i64 k.n, .int .i64 k.off] 166))) := hide ((Below.refl _ _).alloc (Nat.le_refl _) _)
  have HK1 : Hid (Blk (w.alloc (Obj.cells #[.int .i64 2, .string k.text, .int .i64 k.n, .int .i64 k.off] 166)) w.heap.size 166 #[.int .i64 2, .string k.text, .int .i64 k.n, .int .i64 k.off]) := hide (Blk.new _ _ _)
  clear hs h0 hrd hcap hk h
  go_enter Tryz.func118, Tryz.ntmps118
  go_wp2_with fail
  refine (sees_any H.out hN 0 lpar (by omega)).mono ?_
  rintro e w1 ⟨rfl, rfl⟩
  rw [HS.out]
  go_upto_region 9 with (fail)
  generalize w.alloc (Obj.cells #[.int .i64 2, .string k.text, .int .i64 k.n, .int .i64 k.off] 166) = w1 at HB1 HK1 ⊢
  have SD : Hid (w1.drew.cell? ⟨w.heap.size, 1, none⟩ = some (.string k.text)) := HK1.out.cell 1
  have hlt1 := HK1.out.lt
  go_region_held3 (fun w' => w'.cell? ⟨w.heap.size, 1, none⟩ = some (.string k.text))
    (first | exact SD.out | exact SK.out)
    (first | (go_at_call 77; refine (functions_map w1.drew).mono ?_; rintro e w2 ⟨rfl, p2, b2⟩; have B2 := hide b2; have SK : Hid (w2.cell? ⟨w.heap.size, 1, none⟩ = some (.string k.text)) := ((b2.cell (p := ⟨w.heap.size, 1, none⟩) hlt1).trans SD.out); have hlk : (Instr.lookup 94 (.map (some w1.heap.size)) (.string k.text) false).run Tryz.prog w2 = .ok (.int .i64 (funcOp k.text)) w2 := functions_look p2 htx; clear p2 b2))
  have hB2 : Below w.heap.size w w2 := (HB1.out.trans (Below.drew (Below.refl _ _))).trans (B2.out.mono HB1.out.size)
  obtain ⟨t0, t1, t2, t3, _, _, _, _⟩ := blk4 ((Blk.drew HK1.out).below B2.out hlt1)
  have H2 := hide (H.out.below hB2)
  have HB := hide hB2
  clear hlk SK SD B2 HK1 HB1 c0 k0 k1 k2 k3 H hB2
  generalize funcOp k.text = op
  by_cases hn : 1000000 < k.n
  · have hn' : decide (1000000 < k.n) = true := decide_eq_true hn
    go_wp2_with fail
    refine (fail_any H2.out hN 9).mono ?_
    intro e w3 hp
    obtain ⟨x, hx, rfl, hb⟩ := hp.fail
    have HBB := hide ((HB.out.mono (Nat.le_of_lt hlt)).trans hb)
    rw [← HRES.out, if_pos hn, hx]
    clear hb hp hx
    go_wp2
    exact ⟨rfl, rfl, HBB.out⟩
  · have hn' : decide (1000000 < k.n) = false := decide_eq_false hn
    go_wp2_with fail
    refine (take_any H2.out (by omega)).mono ?_
    rintro e w3 ⟨rfl, h3, g3⟩
    unfold Tok.cells
    have hsum3 := h3.sum
    have G3 := hide ((ParGo.of_below HB.out).trans g3)
    have GB3 := hide ((HB.out.mono (Nat.le_of_lt hlt)).trans (g3.pbelow H2.out))
    have H3 := hide (h3.le (Nat.le_succ M))
    have hfl := tok_n (.int .i64 k.kind) (.string k.text) (.int .i64 k.off) k.n w3
    clear h3 g3
    go_wp2_with fail
    clear hfl
    refine (put_any H3.out hN (by omega) ⟨1, k.n, ByteArray.empty, []⟩ none 0 (Own.nil _ _ _ _) (Nat.zero_le _)).mono ?_
    intro e w7 hp
    have hp' := hp.after G3.out (Nat.le_refl _) (fun g hg => by cases hg)
    clear hp
    obtain ⟨rfl, r8, h8, g8⟩ := hp'
    have RES := hide (show ParPost w q z (M + 1) r (putL rest out ⟨1, k.n, ByteArray.empty, []⟩) (.returned (.int .i64 (out.length : Int))) w7 from ⟨rfl, r8, h8, g8⟩)
    clear h8 g8
    obtain rfl : putL rest out ⟨1, k.n, ByteArray.empty, []⟩ = res := by rw [← HRES.out, if_neg (by omega)]
    go_wp2
    go_ret
    exact RES.out
set_option maxHeartbeats 2000000 in
set_option maxRecDepth 20000 in
theorem prim_name {z : Int} {q : Nat} {k : Tok} {rest : List Tok} {out : List Nod} {w : World} {N : Nat} {r : Fp} (hs : seesL (k :: rest) 0 lpar = false) (hk : k.kind = 1) (hfo : funcOp k.text = 0)
    (h : ParAt w q z N (k :: rest) out r) (hN : N ≤ 100000) {res : PR} (hres : (if seesL (k :: rest) 1 lpar = true then failL z (k :: rest) 7 else putL rest out ⟨2, 0, k.text, []⟩) = res) :
    Calls Tryz.prog 118 #[.pointer (some ⟨q, 0, none⟩)] w (ParPost w q z N r res) := by
  have HRES := hide hres
  have HFO := hide hfo
  clear hres hfo
  obtain ⟨M, rfl⟩ : ∃ M, N = M + 1 := ⟨N - 1, by have := h.sum; simp at this; omega⟩
  have HS := hide hs
  have H := hide h
  have hsum := h.sum
  have hlt := h.lt
  obtain ⟨A, c, A2, c2, h0, hrd, hcap, _, _⟩ := h.ex
  have c0 := h0.cell 0
  change w.cell? ⟨q, 0, none⟩ = some (.slice A (k :: rest).length c) at c0
  obtain ⟨b, off, rfl, hb, k0, k1, k2, k3⟩ := hrd.tok (i := 0) (t := k) rfl
  rw [Nat.zero_mul, Nat.add_zero] at k0 k1 k2 k3
  rw [hk] at k0
  have htx := h.txt k (List.mem_cons_self)
  have hll : (((k :: rest).length : Nat) : Int) = (rest.length : Int) + 1 := by simp
  have hl0 : ((rest.length : Int) + 1 == 0) = false := beq_eq_false_iff_ne.2 (by omega)
  have hl01 : (0 : Int) < (rest.length : Int) + 1 := by omega
  have HB1 : Hid (Below w.heap.size w (w.alloc (Obj.cells #[.int .i64 1, .string k.text, .int .i64 k.n, .int .i64 k.off] 166))) := hide ((Below.refl _ _).alloc (Nat.le_refl _) _)
  have HK1 : Hid (Blk (w.alloc (Obj.cells #[.int .i64 1, .string k.text, .int .i64 k.n, .int .i64 k.off] 166)) w.heap.size 166 #[.int .i64 1, .string k.text, .int .i64 k.n, .int .i64 k.off]) := hide (Blk.new _ _ _)
  clear hs h0 hrd hcap hk h
  go_enter Tryz.func118, Tryz.ntmps118
  go_wp2_with fail
  refine (sees_any H.out hN 0 lpar (by omega)).mono ?_
  rintro e w1 ⟨rfl, rfl⟩
  rw [HS.out]
  go_upto_region 9 with (fail)
  generalize w.alloc (Obj.cells #[.int .i64 1, .string k.text, .int .i64 k.n, .int .i64 k.off] 166) = w1 at HB1 HK1 ⊢
  have SD : Hid (w1.drew.cell? ⟨w.heap.size, 1, none⟩ = some (.string k.text)) := HK1.out.cell 1
  have hlt1 := HK1.out.lt
  go_region_held3 (fun w' => w'.cell? ⟨w.heap.size, 1, none⟩ = some (.string k.text))
    (first | exact SD.out | exact SK.out)
    (first | (go_at_call 77; refine (functions_map w1.drew).mono ?_; rintro e w2 ⟨rfl, p2, b2⟩; have B2 := hide b2; have SK : Hid (w2.cell? ⟨w.heap.size, 1, none⟩ = some (.string k.text)) := ((b2.cell (p := ⟨w.heap.size, 1, none⟩) hlt1).trans SD.out); have hlk : (Instr.lookup 94 (.map (some w1.heap.size)) (.string k.text) false).run Tryz.prog w2 = .ok (.int .i64 (funcOp k.text)) w2 := functions_look p2 htx; clear p2 b2))
  have hB2 : Below w.heap.size w w2 := (HB1.out.trans (Below.drew (Below.refl _ _))).trans (B2.out.mono HB1.out.size)
  obtain ⟨t0, t1, t2, t3, _, _, _, _⟩ := blk4 ((Blk.drew HK1.out).below B2.out hlt1)
  have H2 := hide (H.out.below hB2)
  have HB := hide hB2
  clear hlk SK SD B2 HK1 HB1 c0 k0 k1 k2 k3 H hB2
  rw [HFO.out]
  go_wp2_with fail
  refine (sees_any H2.out hN 1 lpar (by omega)).mono ?_
  rintro e w3 ⟨rfl, rfl⟩
  cases hp1 : seesL (k :: rest) 1 lpar
  · go_wp2_with fail
    refine (take_any H2.out (by omega)).mono ?_
    rintro e w3 ⟨rfl, h3, g3⟩
    unfold Tok.cells
    have hsum3 := h3.sum
    have G3 := hide ((ParGo.of_below HB.out).trans g3)
    have GB3 := hide ((HB.out.mono (Nat.le_of_lt hlt)).trans (g3.pbelow H2.out))
    have H3 := hide (h3.le (Nat.le_succ M))
    have hfl := tok_text (.int .i64 k.kind) (.int .i64 k.n) (.int .i64 k.off) k.text w3
    clear h3 g3
    go_wp2_with fail
    clear hfl
    refine (put_any H3.out hN (by omega) ⟨2, 0, k.text, []⟩ none 0 (Own.nil _ _ _ _) htx).mono ?_
    intro e w7 hp
    have hp' := hp.after G3.out (Nat.le_refl _) (fun g hg => by cases hg)
    clear hp
    obtain ⟨rfl, r8, h8, g8⟩ := hp'
    have RES := hide (show ParPost w q z (M + 1) r (putL rest out ⟨2, 0, k.text, []⟩) (.returned (.int .i64 (out.length : Int))) w7 from ⟨rfl, r8, h8, g8⟩)
    clear h8 g8
    obtain rfl : putL rest out ⟨2, 0, k.text, []⟩ = res := by rw [← HRES.out, hp1, if_neg (by decide)]
    go_wp2
    go_ret
    exact RES.out
  · go_wp2_with fail
    refine (fail_any H2.out hN 7).mono ?_
    intro e w3 hp
    obtain ⟨x, hx, rfl, hb⟩ := hp.fail
    have HBB := hide ((HB.out.mono (Nat.le_of_lt hlt)).trans hb)
    rw [← HRES.out, hp1, if_pos rfl, hx]
    clear hb hp hx
    go_wp2
    exact ⟨rfl, rfl, HBB.out⟩
end Go.Proofs.YtkomgidcgepknaaGreatDoor

/-
  expr's parser: primary at a function.
-/
namespace Go.Proofs.YtkomgidcgepknaaGreatDoor
open Go.RowKit Go.Deep Go.Maps

theorem parF_args (z : Int) (g : Nat) (op : Int) (i : Nat) (kids : List Int) (t : List Tok) (o : List Nod) : parF z (g + 1) (jArgs op i kids t o) =
    if (i : Int) < operands op then
        (if seesL t 0 (if i = 0 then lpar else comma) = true then andL (parF z g (jLevel 1 t.tail o)) fun a t o => parF z g (jArgs op (i + 1) (kids ++ [a]) t o)
         else some (failL z t 5))
       else if seesL t 0 rpar = true then some (putL t.tail o ⟨op, 0, ByteArray.empty, kids⟩) else some (failL z t 5) := rfl
theorem ParAt.keepX {w w' : World} {q : Nat} {z : Int} {N : Nat} {toks : List Tok} {out : List Nod} {r : Fp} (h : ParAt w q z N toks out r) (hz : w.heap.size ≤ w'.heap.size)
    (hk : ∀ k, k < w.heap.size → (k ≤ q ∨ r.row = some k ∨ r.kid k) → w'.heap[k]? = w.heap[k]?) : ParAt w' q z N toks out r := by
  have hlt := h.lt
  have hrow := h.rowlt
  obtain ⟨A, c, A2, c2, h0, h1, h2, h3, h4⟩ := h.ex
  refine ⟨⟨A, c, A2, c2, (hk q hlt (.inl (Nat.le_refl _))).trans h0, h1.keep (fun p hp => World.cell?_of_block (hk p.block (by omega) (.inl (Nat.le_of_lt hp)))), h2, h3.keepC (fun g hg hr => ?_), h4⟩, h.sum, h.txt, h.nam, fun g hg => Nat.lt_of_lt_of_le (h.kidlt g hg) hz⟩
  rcases hr with hr | hr
  · rw [h4] at hr
    exact hk g (hrow g hr).2 (.inr (.inl hr))
  · exact hk g (h.kidlt g hr) (.inr (.inr hr))
theorem ParGo.then_ {q : Nat} {r r1 : Fp} {w w1 w2 : World} (h : ParGo q r r1 w w1) (hb : Below w.heap.size w1 w2) : ParGo q r r1 w w2 :=
  ⟨hb.os.trans h.os, hb.tape.trans h.tape, hb.output.trans h.output, Nat.le_trans h.size hb.size, fun k hk hq hr => (hb.block k hk).trans (h.keep k hk hq hr), h.row, h.kid⟩
theorem Own.ne_blk {w : World} {base : Nat} {e : TypeId} {size : Nat} {A : Option Addr} {n c : Nat} {xs : List Value} (h : Own w base e size A n c xs) {g : Nat} {t : TypeId} {cs : Array Value} (hb : Blk w g t cs) (ht : e ≠ t) : (Value.slice A n c).ownBlock ≠ some g := by
  intro hr
  rcases h.2 with ⟨h2, _⟩ | ⟨g', cap', cur', hv', _, hh', _⟩
  · injection h2 with h2 _ _
    subst h2
    cases hr
  · injection hv' with hA _ _
    subst hA
    injection hr with hr
    subst hr
    unfold Blk at hb
    rw [hb] at hh'
    injection hh' with hh'
    injection hh' with _ he' _
    exact ht he'.symm
theorem Own.ne_own {w : World} {base base' : Nat} {e e' : TypeId} {size size' : Nat} {A A' : Option Addr} {n c n' c' : Nat} {xs xs' : List Value} (h : Own w base e size A n c xs) (h' : Own w base' e' size' A' n' c' xs') (ht : e ≠ e') {g : Nat}
    (hg : (Value.slice A n c).ownBlock = some g) (hg' : (Value.slice A' n' c').ownBlock = some g) : False := by
  rcases h.2 with ⟨h2, _⟩ | ⟨g1, cap1, cur1, hv1, _, hh1, _⟩
  · injection h2 with h2 _ _
    subst h2
    cases hg
  · rcases h'.2 with ⟨h2, _⟩ | ⟨g2, cap2, cur2, hv2, _, hh2, _⟩
    · injection h2 with h2 _ _
      subst h2
      cases hg'
    · injection hv1 with hA _ _
      injection hv2 with hA' _ _
      subst hA hA'
      injection hg with hg
      injection hg' with hg'
      subst hg
      subst hg'
      rw [hh1] at hh2
      injection hh2 with hh2
      injection hh2 with _ he' _
      exact ht he'
theorem ParAt.ne_int {w : World} {q : Nat} {z : Int} {N : Nat} {toks : List Tok} {out : List Nod} {r : Fp} (h : ParAt w q z N toks out r) {base : Nat} {A : Option Addr} {n c : Nat} {xs : List Value} (ho : Own w base 3 1 A n c xs) {g : Nat}
    (hg : (Value.slice A n c).ownBlock = some g) (hr : r.row = some g) : False := by
  obtain ⟨A1, c1, A2, c2, h0, h1, h2, ⟨ks, h3, h4, h5⟩, h6⟩ := h.ex
  exact ho.ne_own h4 (by decide) hg (h6.trans hr)

/-- A function's node under way: its block gn, its operands so far, the parser. -/
structure ArgAt (W w : World) (q gn : Nat) (z : Int) (M : Nat) (op : Int) (kids : List Int) (t : List Tok) (o : List Nod) (r r1 : Fp) (A : Option Addr) (c : Nat) : Prop where
  par : ParAt w q z M t o r1
  go : ParGo q r r1 W w
  nod : Blk w gn 56 #[.int .i64 op, .int .i64 0, .string ByteArray.empty, .slice A kids.length c]
  own : Own w W.heap.size 3 1 A kids.length c (ints kids)
  n1 : r1.row ≠ some gn
  n2 : ¬ r1.kid gn
  n3 : ∀ g, (Value.slice A kids.length c).ownBlock = some g → ¬ r1.kid g
  qW : q < W.heap.size
  gW : W.heap.size ≤ gn
section
variable {W w w' : World} {q gn : Nat} {z : Int} {M M' : Nat} {op : Int} {kids : List Int} {t t' : List Tok} {o o' : List Nod} {r r1 r2 : Fp} {A : Option Addr} {c : Nat}
/-- Behind a part of the parser. -/
theorem ArgAt.par_ (h : ArgAt W w q gn z M op kids t o r r1 A c) (hp : ParAt w' q z M' t' o' r2) (hg : ParGo q r1 r2 w w') : ArgAt W w' q gn z M' op kids t' o' r r2 A c := by
  have hq := h.qW
  have hgn := h.gW
  have hgl := h.nod.lt
  refine ⟨hp, h.go.trans hg, (hg.keep gn hgl (by omega) (fun e => h.n1 e.symm)).trans h.nod, ?_, ?_, ?_, ?_, hq, hgn⟩
  · exact h.own.keepC (fun g hgb hr => hg.keep g (World.ownsRow.lt h.own g hr).2 (by omega) (fun e => h.par.ne_int h.own hr e.symm))
  · rcases hg.row with e | ⟨g, e, hgs⟩
    · rw [e]; exact h.n1
    · rw [e]
      intro hh
      injection hh with hh
      omega
  · intro hk
    rcases hg.kid gn hk with e | e
    · exact h.n2 e
    · omega
  · intro g hr hk
    have := (World.ownsRow.lt h.own g hr).2
    rcases hg.kid g hk with e | e
    · exact h.n3 g hr e
    · omega
theorem ArgAt.below (h : ArgAt W w q gn z M op kids t o r r1 A c) (hb : Below w.heap.size w w') : ArgAt W w' q gn z M op kids t o r r1 A c := h.par_ (h.par.below hb) (ParGo.of_below hb)
theorem ArgAt.drew (h : ArgAt W w q gn z M op kids t o r r1 A c) : ArgAt W w.drew q gn z M op kids t o r r1 A c := h.below (Below.drew (Below.refl _ _))
theorem ArgAt.le (h : ArgAt W w q gn z M op kids t o r r1 A c) (hM : M ≤ M') : ArgAt W w q gn z M' op kids t o r r1 A c := ⟨h.par.le hM, h.go, h.nod, h.own, h.n1, h.n2, h.n3, h.qW, h.gW⟩
/-- Behind an operand's append and the node's store. -/
theorem ArgAt.snoc (h : ArgAt W w q gn z M op kids t o r r1 A c) {a : Int} {A5 : Option Addr} {c5 : Nat} {w5 : World} (hown : Own w5 W.heap.size 3 1 A5 (kids.length + 1) c5 (ints kids ++ [.int .i64 a])) (hg : w.grownBy w5 (Value.slice A kids.length c).ownBlock)
    (hat : (Value.slice A5 (kids.length + 1) c5).ownBlock = (Value.slice A kids.length c).ownBlock ∨ (Value.slice A5 (kids.length + 1) c5).ownBlock = some w.heap.size) :
    Blk w5 gn 56 #[.int .i64 op, .int .i64 0, .string ByteArray.empty, .slice A kids.length c] ∧
    ArgAt W (w5.setCell ⟨gn, 3, none⟩ (.slice A5 (kids.length + 1) c5)) q gn z M op (kids ++ [a]) t o r r1 A5 c5 := by
  have hq := h.qW
  have hgn := h.gW
  have hgl := h.nod.lt
  have hWw := h.go.size
  have hb5 : Blk w5 gn 56 #[.int .i64 op, .int .i64 0, .string ByteArray.empty, .slice A kids.length c] := h.nod.grown hg (fun e => h.own.ne_blk h.nod (by decide) e.symm)
  have hown6 : Own (w5.setCell ⟨gn, 3, none⟩ (.slice A5 (kids.length + 1) c5)) W.heap.size 3 1 A5 (kids.length + 1) c5 (ints kids ++ [.int .i64 a]) :=
    hown.keepC (fun g _ hr => Below.heap_setCell w5 ⟨gn, 3, none⟩ _ g (fun e => hown.ne_blk hb5 (by decide) (by rw [hr]; exact congrArg some e)))
  have key : ∀ k, k < w.heap.size → some k ≠ (Value.slice A kids.length c).ownBlock → k ≠ gn → (w5.setCell ⟨gn, 3, none⟩ (.slice A5 (kids.length + 1) c5)).heap[k]? = w.heap[k]? := fun k hk h1 h2 =>
    (Below.heap_setCell w5 ⟨gn, 3, none⟩ _ k h2).trans (hg.block k hk h1)
  have hsz : w.heap.size ≤ (w5.setCell ⟨gn, 3, none⟩ (.slice A5 (kids.length + 1) c5)).heap.size := by simpa using hg.size
  refine ⟨hb5, ?_, ?_, ?_, ?_, h.n1, h.n2, ?_, hq, hgn⟩
  · refine h.par.keepX hsz (fun k hk hx => key k hk (fun e => ?_) (fun e => ?_))
    · rcases hx with hx | hx | hx
      · have := (World.ownsRow.lt h.own k e.symm).1
        omega
      · exact h.par.ne_int h.own e.symm hx
      · exact h.n3 k e.symm hx
    · subst e
      rcases hx with hx | hx | hx
      · omega
      · exact h.n1 hx
      · exact h.n2 hx
  · refine h.go.then_ ⟨hg.os, hg.tape, hg.output, hsz, fun k hk => key k (by omega) (fun e => ?_) (by omega)⟩
    have := (World.ownsRow.lt h.own k e.symm).1
    omega
  · have := hb5.set_ 3 (.slice A5 (kids.length + 1) c5)
    rw [List.length_append]
    exact this
  · rw [List.length_append, ints_append, ints_one]
    exact hown6
  · intro g hr hk
    rw [List.length_append] at hr
    rcases hat with e | e
    · exact h.n3 g (e.symm.trans hr) hk
    · have hr' : some w.heap.size = some g := e.symm.trans hr
      injection hr' with hr'
      have := h.par.kidlt g hk
      omega
end
theorem int_info : (Tryz.prog.info? 3).map (fun i => (i.zero, i.size, i.bytes)) = some (some (.int .i64 0), 1, 8) := by kernel_rfl
end Go.Proofs.YtkomgidcgepknaaGreatDoor

/-
  expr's parser: primary at a function, the walk.
-/
namespace Go.Proofs.YtkomgidcgepknaaGreatDoor
open Go.RowKit Go.Deep Go.Maps

theorem funcOp_ops (t : ByteArray) (h : funcOp t ≠ 0) : 2 ≤ operands (funcOp t) ∧ operands (funcOp t) ≤ 3 := by
  unfold funcOp at h ⊢
  repeat' split
  all_goals first | decide | (exfalso; simp_all)

set_option maxHeartbeats 4000000 in
set_option maxRecDepth 20000 in
theorem prim_fun {z : Int} {q F : Nat} (hL : LevelC z q F) {f : Nat} (hf : f < F) {k : Tok} {rest : List Tok} {out : List Nod} {w : World} {N : Nat} {r : Fp} (hs : seesL (k :: rest) 0 lpar = false) (hk : k.kind = 1) (hfo : funcOp k.text ≠ 0)
    (h : ParAt w q z N (k :: rest) out r) (hN : N ≤ 100000) {res : PR} (hres : parF z f (jArgs (funcOp k.text) 0 [] rest out) = some res) :
    Calls Tryz.prog 118 #[.pointer (some ⟨q, 0, none⟩)] w (ParPost w q z N r res) := by
  have HRES := hide hres
  clear hres
  obtain ⟨M, rfl⟩ : ∃ M, N = M + 1 := ⟨N - 1, by have := h.sum; simp at this; omega⟩
  have HS := hide hs
  have H := hide h
  have hsum := h.sum
  have hlt := h.lt
  obtain ⟨A, c, A2, c2, h0, hrd, hcap, _, _⟩ := h.ex
  have c0 := h0.cell 0
  change w.cell? ⟨q, 0, none⟩ = some (.slice A (k :: rest).length c) at c0
  obtain ⟨b, off, rfl, hb, k0, k1, k2, k3⟩ := hrd.tok (i := 0) (t := k) rfl
  rw [Nat.zero_mul, Nat.add_zero] at k0 k1 k2 k3
  rw [hk] at k0
  have htx := h.txt k (List.mem_cons_self)
  have hll : (((k :: rest).length : Nat) : Int) = (rest.length : Int) + 1 := by simp
  have hl0 : ((rest.length : Int) + 1 == 0) = false := beq_eq_false_iff_ne.2 (by omega)
  have hl01 : (0 : Int) < (rest.length : Int) + 1 := by omega
  have HB1 : Hid (Below w.heap.size w (w.alloc (Obj.cells #[.int .i64 1, .string k.text, .int .i64 k.n, .int .i64 k.off] 166))) := hide ((Below.refl _ _).alloc (Nat.le_refl _) _)
  have HK1 : Hid (Blk (w.alloc (Obj.cells #[.int .i64 1, .string k.text, .int .i64 k.n, .int .i64 k.off] 166)) w.heap.size 166 #[.int .i64 1, .string k.text, .int .i64 k.n, .int .i64 k.off]) := hide (Blk.new _ _ _)
  have HOP := hide (funcOp_ops k.text hfo)
  have HFO := hide hfo
  have HRQ := hide (fun g (hg : r.row = some g) => Nat.le_of_lt (h.rowlt g hg).1)
  clear hs h0 hrd hcap hk h hfo
  go_enter Tryz.func118, Tryz.ntmps118
  go_wp2_with fail
  refine (sees_any H.out hN 0 lpar (by omega)).mono ?_
  rintro e w1 ⟨rfl, rfl⟩
  rw [HS.out]
  go_upto_region 9 with (fail)
  generalize w.alloc (Obj.cells #[.int .i64 1, .string k.text, .int .i64 k.n, .int .i64 k.off] 166) = w1 at HB1 HK1 ⊢
  have SD : Hid (w1.drew.cell? ⟨w.heap.size, 1, none⟩ = some (.string k.text)) := HK1.out.cell 1
  have hlt1 := HK1.out.lt
  go_region_held3 (fun w' => w'.cell? ⟨w.heap.size, 1, none⟩ = some (.string k.text))
    (first | exact SD.out | exact SK.out)
    (first | (go_at_call 77; refine (functions_map w1.drew).mono ?_; rintro e w2 ⟨rfl, p2, b2⟩; have B2 := hide b2; have SK : Hid (w2.cell? ⟨w.heap.size, 1, none⟩ = some (.string k.text)) := ((b2.cell (p := ⟨w.heap.size, 1, none⟩) hlt1).trans SD.out); have hlk : (Instr.lookup 94 (.map (some w1.heap.size)) (.string k.text) false).run Tryz.prog w2 = .ok (.int .i64 (funcOp k.text)) w2 := functions_look p2 htx; clear p2 b2))
  have hB2 : Below w.heap.size w w2 := (HB1.out.trans (Below.drew (Below.refl _ _))).trans (B2.out.mono HB1.out.size)
  obtain ⟨t0, t1, t2, t3, _, _, _, _⟩ := blk4 ((Blk.drew HK1.out).below B2.out hlt1)
  have H2 := hide (H.out.below hB2)
  have HB := hide hB2
  clear hlk SK SD B2 HK1 HB1 c0 k0 k1 k2 k3 H hB2
  generalize funcOp k.text = op at HRES HOP HFO ⊢
  have hop : (op == 0) = false := beq_eq_false_iff_ne.2 HFO.out
  go_wp2_with fail
  refine (take_any H2.out (by omega)).mono ?_
  rintro e w3 ⟨rfl, h3, g3⟩
  have hg3 := (ParGo.of_below HB.out).trans g3
  have hlt3 := h3.lt
  have A4 : Hid (ArgAt w (w3.alloc (Obj.cells #[.int .i64 op, .int .i64 0, .string ⟨#[]⟩, .slice none 0 0] 56)) q w3.heap.size z M op [] rest out r r none 0) := by
    have hb4 : Below w3.heap.size w3 (w3.alloc (Obj.cells #[.int .i64 op, .int .i64 0, .string ⟨#[]⟩, .slice none 0 0] 56)) := (Below.refl _ _).alloc (Nat.le_refl _) _
    refine hide ⟨h3.below hb4, hg3.trans (ParGo.of_below hb4), Blk.new _ _ _, Own.nil _ _ _ _, ?_, ?_, ?_, hlt, hg3.size⟩
    · intro e
      have := (h3.rowlt _ e).2
      omega
    · intro e
      have := h3.kidlt _ e
      omega
    · intro g e
      cases e
  clear H2 HB h3 g3 hg3 t0 t1 t2 t3
  go_wp2_with fail
  generalize w3.alloc (Obj.cells #[.int .i64 op, .int .i64 0, .string ⟨#[]⟩, .slice none 0 0] 56) = w4 at A4 ⊢
  refine (operands_any op w4).mono ?_
  rintro e w5 ⟨rfl, hb5⟩
  have A5 := hide (A4.out.below hb5)
  clear A4 hb5
  have hop2 := HOP.out.1
  have hop3 := HOP.out.2
  generalize hm : operands op = m at hop2 hop3 ⊢
  have HM := hide hm
  clear hm HOP
  go_wp2
  generalize w3.heap.size = gn at A5 ⊢
  go_loopg [100] f (fun g u wr => ∃ (kids : List Int) (t : List Tok) (o : List Nod) (r1 : Fp) (A : Option Addr) (c : Nat), u = .int .i64 kids.length ∧ g ≤ f ∧ kids.length ≤ 3 ∧ parF z g (jArgs op kids.length kids t o) = some res ∧ ArgAt w wr q gn z M op kids t o r r1 A c)
  case atStart => exact ⟨[], rest, out, r, none, 0, rfl, Nat.le_refl _, by simp, HRES.out, A5.out⟩
  case round =>
    clear A5 HRES
    obtain ⟨kids, t, o, r1, A, c, rfl, hgf, hk3, hpar, hA⟩ := hrel
    have hsumA := hA.par.sum
    cases gk with
    | zero => cases hpar
    | succ g =>
      rw [parF_args, HM.out] at hpar
      by_cases hi : (kids.length : Int) < m
      · rw [if_pos hi] at hpar
        obtain ⟨sep, hsep, hsq⟩ : ∃ sep, (if kids.length = 0 then lpar else comma) = sep ∧ ((kids.length = 0 ∧ sep = lpar) ∨ (kids.length ≠ 0 ∧ sep = comma)) := by
          by_cases h0 : kids.length = 0
          · exact ⟨_, rfl, .inl ⟨h0, if_pos h0⟩⟩
          · exact ⟨_, rfl, .inr ⟨h0, if_neg h0⟩⟩
        rw [hsep] at hpar
        have HPAR := hide hpar
        have HA := hide hA
        clear hpar hA hsep
        obtain ⟨b0, hb0, hsq2⟩ : ∃ b0 : Bool, (((kids.length : Nat) : Int) == 0) = b0 ∧ ((b0 = true ∧ sep = lpar) ∨ (b0 = false ∧ sep = comma)) := by
          rcases hsq with ⟨h1, h2⟩ | ⟨h1, h2⟩
          · exact ⟨true, beq_iff_eq.2 (by omega), .inl ⟨rfl, h2⟩⟩
          · exact ⟨false, beq_eq_false_iff_ne.2 (by omega), .inr ⟨rfl, h2⟩⟩
        clear hsq
        rcases hsq2 with ⟨rfl, rfl⟩ | ⟨rfl, rfl⟩
        all_goals
          go_wp2_with fail
          cases hs2 : seesL t 0 _
          · have hk := HPAR.out
            rw [hs2, if_neg (by decide)] at hk
            injection hk with hk
            subst hk
            refine (must_no HA.out.par (by omega) _ hs2).mono ?_
            intro e w6 hp
            obtain ⟨x, hx, rfl, hb⟩ := hp.fail
            have HBB := hide ((HA.out.go.below (Nat.le_of_lt hlt) HRQ.out).trans hb)
            rw [hx]
            clear hb hp hx HPAR hs2
            go_wp2
            exact ⟨rfl, rfl, HBB.out⟩
          · have hk := HPAR.out
            rw [hs2, if_pos rfl] at hk
            obtain ⟨k2, hk2⟩ := seesL_cons hs2
            obtain ⟨M', rfl⟩ : ∃ M', M = M' + 1 := ⟨M - 1, by rw [hk2] at hsumA; simp at hsumA; omega⟩
            refine (must_yes HA.out.par (by omega) _ hs2).mono ?_
            rintro e w6 ⟨rfl, h6, g6⟩
            have hA6 := HA.out.par_ h6 g6
            have HA6 := hide hA6
            have HR := hide (andL_some hk)
            clear h6 g6 hA6 HA HPAR hk2 hs2 hk
            have d3 : w6.cell? ⟨gn, 3, none⟩ = some (.slice A kids.length c) := HA6.out.nod.cell 3
            go_wp2_with fail
            rcases HR.out with ⟨y, hy, rfl⟩ | ⟨a2, t2, o2, hy, hk2⟩
            · have HY := hide hy
              clear HR hy
              go_region_law ((rw [if_pos (by rfl)]; go_simp; go_at_call 66; refine (hL g (by omega) 1 t.tail o _ w6.drew M' r1 (by omega) (by omega) HY.out HA6.out.par.drew (by omega)).mono ?_; intro e w8 hp; obtain ⟨rfl, hb⟩ := hp; have HBB := hide ((HA6.out.go.below (Nat.le_of_lt hlt) HRQ.out).trans ((Below.drew (Below.refl _ _)).trans hb)); (suffices hd : wpAny Tryz.prog .any #[] (fun _ _ _ => True) 0 #[] { tmps := #[], defers := [] } w8 from ⟨rfl, rfl, HBB.out⟩)))
              all_goals trivial
            · have HY := hide hy
              have HK2 := hide hk2
              clear HR hy hk2
              go_region_law ((first
                | (refine step_appG (by rfl) _ _ _ (by rfl) w.heap.size 3 (.int .i64 0) 1 8 Tryz.underlying31 int_info rfl (by omega) A kids.length c (ints kids) (by rfl) (by exact HA9.out.own) _ _ 1 _ _ (by rfl) (by exact RR.out) (by simp [Value.oneCell']) (by unfold maxLen; omega) (by omega) (by exact HA9.out.go.size) ?_; intro A10 c10 w10 hown10 hg10 hat10; have FF := hide (HA9.out.snoc hown10 hg10 hat10); clear hown10 hg10 hat10; have q10 := FF.out.1.cell 3; have f10 := FF.out.1.frozen 3)
                | (rw [if_pos (by rfl)]; go_simp; go_at_call 66; refine (hL g (by omega) 1 t.tail o _ w6.drew M' r1 (by omega) (by omega) HY.out HA6.out.par.drew (by omega)).mono ?_; intro e w8 hp; obtain ⟨rfl, r5, h5, g5⟩ := hp; have hA8 := HA6.out.drew.par_ h5 g5; have HA9 := hide (hA8.below (w' := w8.alloc (Obj.cells #[.int .i64 a2] 3)) ((Below.refl _ _).alloc (Nat.le_refl _) (Obj.cells #[.int .i64 a2] 3))); have e3 : w8.cell? ⟨gn, 3, none⟩ = some (.slice A kids.length c) := hA8.nod.cell 3; have e3' : (w8.alloc (Obj.cells #[.int .i64 a2] 3)).cell? ⟨gn, 3, none⟩ = some (.slice A kids.length c) := HA9.out.nod.cell 3; have RR := hide (reads_new w8 #[.int .i64 a2] 3 1 1 rfl); clear h5 g5 hA8)))
              all_goals
                have RES := hide (FF.out.2.le (Nat.le_succ M'))
                clear FF q10 f10 e3 e3' RR HA9 d3 HA6
                generalize w10.setCell ⟨gn, 3, none⟩ (.slice A10 (kids.length + 1) c10) = w11 at RES ⊢
                go_wp2
                go_roundg g
                case measure => omega
                case rel => exact ⟨kids ++ [a2], t2, o2, r5, A10, c10, by rw [List.length_append]; rfl, by omega, by rw [List.length_append]; show kids.length + 1 ≤ 3; omega, by rw [List.length_append]; exact HK2.out, RES.out⟩
      · rw [if_neg hi] at hpar
        have HPAR := hide hpar
        have HA := hide hA
        clear hpar hA
        go_wp2_with fail
        cases hs2 : seesL t 0 rpar
        · have hk := HPAR.out
          rw [hs2, if_neg (by decide)] at hk
          injection hk with hk
          subst hk
          refine (must_no HA.out.par (by omega) rpar hs2).mono ?_
          intro e w6 hp
          obtain ⟨x, hx, rfl, hb⟩ := hp.fail
          have HBB := hide ((HA.out.go.below (Nat.le_of_lt hlt) HRQ.out).trans hb)
          rw [hx]
          clear hb hp hx HPAR hs2
          go_wp2
          exact ⟨rfl, rfl, HBB.out⟩
        · have hk := HPAR.out
          rw [hs2, if_pos rfl] at hk
          injection hk with hk
          subst hk
          obtain ⟨k2, hk2⟩ := seesL_cons hs2
          refine (must_yes (HA.out.par.le (Nat.le_succ M)) (by omega) rpar hs2).mono ?_
          rintro e w6 ⟨rfl, h6, g6⟩
          have hA6 := HA.out.par_ h6 g6
          obtain ⟨n0, n1, n2, n3, _, _, _, _⟩ := blk4 hA6.nod
          have HA6 := hide hA6
          have hsum6 := h6.sum
          clear h6 g6 hA6 HA HPAR hk2 hs2
          go_wp2_with fail
          refine (put_any (HA6.out.par.le (Nat.le_succ M)) hN (by omega) ⟨op, 0, ByteArray.empty, kids⟩ A c (HA6.out.own.rebase hlt) (Nat.zero_le _)).mono ?_
          intro e w7 hp
          have hp' := hp.after HA6.out.go (Nat.le_refl _) (fun g hg => (World.ownsRow.lt HA6.out.own g hg).1)
          clear hp
          obtain ⟨rfl, r8, h8, g8⟩ := hp'
          have RES := hide (show ParPost w q z (M + 1) r (putL t.tail o ⟨op, 0, ByteArray.empty, kids⟩) (.returned (.int .i64 (o.length : Int))) w7 from ⟨rfl, r8, h8, g8⟩)
          clear h8 g8 HA6 n0 n1 n2 n3
          go_wp2
          go_ret
          exact RES.out
end Go.Proofs.YtkomgidcgepknaaGreatDoor
