/-
  expr's parser: what it is in memory; sees, fail, take, must, put.
-/
import Derived.Test.YtkomgidcgepknaaGreatDoorExpG
import Derived.Deep.RegionLaw
import Derived.WalkLawsBesides
set_option linter.unusedVariables false
set_option linter.unusedSimpArgs false
namespace Go.Proofs.YtkomgidcgepknaaGreatDoor
open Go.RowKit Go.Deep Go.Maps

/-- The parser's memory beside its own block: the nodes' row, the blocks of their operands. -/
structure Fp where
  row : Option Nat
  kid : Nat → Prop
/-- The parser at q: the tokens that are left, the nodes so far. -/
structure ParAt (w : World) (q : Nat) (z : Int) (N : Nat) (toks : List Tok) (out : List Nod) (r : Fp) : Prop where
  ex : ∃ A c A2 c2, Blk w q 110 #[.slice A toks.length c, .int .i64 z, .slice A2 out.length c2] ∧ Reads w q 4 A toks.length (cellsT toks) ∧ toks.length ≤ c ∧ NodsOwn w (q + 1) A2 c2 out r.kid ∧ (Value.slice A2 out.length c2).ownBlock = r.row
  sum : out.length + toks.length ≤ N
  txt : ∀ t ∈ toks, t.text.size ≤ maxLen
  nam : ∀ x ∈ out, x.name.size ≤ maxLen
  kidlt : ∀ g, r.kid g → g < w.heap.size
/-- What a part of the parser leaves as it was: all but the parser's block and the nodes' row. -/
structure ParGo (q : Nat) (r r' : Fp) (w w' : World) : Prop where
  os : w'.os = w.os
  tape : w'.tape = w.tape
  output : w'.output = w.output
  size : w.heap.size ≤ w'.heap.size
  keep : ∀ k, k < w.heap.size → k ≠ q → some k ≠ r.row → w'.heap[k]? = w.heap[k]?
  row : r'.row = r.row ∨ ∃ g, r'.row = some g ∧ w.heap.size ≤ g
  kid : ∀ g, r'.kid g → r.kid g ∨ w.heap.size ≤ g
section
variable {w w' w'' : World} {q : Nat} {z : Int} {N : Nat} {toks : List Tok} {out : List Nod} {r r' r'' : Fp}
theorem ParGo.refl : ParGo q r r w w := ⟨rfl, rfl, rfl, Nat.le_refl _, fun _ _ _ _ => rfl, .inl rfl, fun _ h => .inl h⟩
theorem ParGo.trans (h : ParGo q r r' w w') (h' : ParGo q r' r'' w' w'') : ParGo q r r'' w w'' := by
  refine ⟨h'.os.trans h.os, h'.tape.trans h.tape, h'.output.trans h.output, Nat.le_trans h.size h'.size, fun k hk hq hr => ?_, ?_, fun g hg => ?_⟩
  · refine (h'.keep k (Nat.lt_of_lt_of_le hk h.size) hq ?_).trans (h.keep k hk hq hr)
    rcases h.row with e | ⟨g, e, hg⟩
    · rw [e]; exact hr
    · rw [e]
      intro hh
      injection hh with hh
      omega
  · rcases h'.row with e | ⟨g, e, hg⟩
    · rw [e]; exact h.row
    · exact .inr ⟨g, e, Nat.le_trans h.size hg⟩
  · rcases h'.kid g hg with e | e
    · exact h.kid g e
    · exact .inr (Nat.le_trans h.size e)
theorem ParGo.of_below (h : Below w.heap.size w w') : ParGo q r r w w' := ⟨h.os, h.tape, h.output, h.size, fun k hk _ _ => h.block k hk, .inl rfl, fun _ h => .inl h⟩
theorem ParGo.below (h : ParGo q r r' w w') (hq : q ≤ w.heap.size) (hr : ∀ g, r.row = some g → q ≤ g) : Below q w w' :=
  ⟨h.os, h.tape, h.output, h.size, fun k hk => h.keep k (by omega) (by omega) (fun e => by have := hr k e.symm; omega)⟩
theorem ParAt.lt (h : ParAt w q z N toks out r) : q < w.heap.size := by
  obtain ⟨A, c, A2, c2, hb, _⟩ := h.ex
  exact hb.lt
theorem ParAt.rowlt (h : ParAt w q z N toks out r) : ∀ g, r.row = some g → q < g ∧ g < w.heap.size := by
  obtain ⟨A, c, A2, c2, hb, h1, h2, ⟨ks, h3, h4, h5⟩, h6⟩ := h.ex
  intro g hg
  rw [hg] at h6
  exact World.ownsRow.lt h4 g h6
theorem ParGo.pbelow (h : ParGo q r r' w w') (hp : ParAt w q z N toks out r) : Below q w w' := h.below (Nat.le_of_lt hp.lt) (fun g hg => Nat.le_of_lt (hp.rowlt g hg).1)
theorem ParAt.below (h : ParAt w q z N toks out r) (hb : Below w.heap.size w w') : ParAt w' q z N toks out r := by
  have hlt := h.lt
  obtain ⟨A, c, A2, c2, h0, h1, h2, h3, h4⟩ := h.ex
  exact ⟨⟨A, c, A2, c2, h0.below hb h0.lt, h1.below (hb.mono (Nat.le_of_lt hlt)), h2, h3.below hb, h4⟩, h.sum, h.txt, h.nam, fun g hg => Nat.lt_of_lt_of_le (h.kidlt g hg) hb.size⟩
theorem ParAt.drew (h : ParAt w q z N toks out r) : ParAt w.drew q z N toks out r := h.below (Below.drew (Below.refl _ _))
theorem ParAt.le (h : ParAt w q z N toks out r) {M : Nat} (hM : N ≤ M) : ParAt w q z M toks out r := ⟨h.ex, Nat.le_trans h.sum hM, h.txt, h.nam, h.kidlt⟩
theorem ParAt.less (h : ParAt w q z N toks out r) {M : Nat} (hM : out.length + toks.length ≤ M) : ParAt w q z M toks out r := ⟨h.ex, hM, h.txt, h.nam, h.kidlt⟩
end

/-- The parser's failure. -/
abbrev failV (err off : Int) : Ending := .panicked [{ v := .iface 107 (.agg #[.int .i64 err, .int .i64 off]), recovered := false }]
/-- What a part of the parser leaves. -/
def ParPost (w : World) (q : Nat) (z : Int) (N : Nat) (r : Fp) (res : PR) (e : Ending) (w' : World) : Prop :=
  match res with
  | Except.ok x => e = .returned (.int .i64 x.1) ∧ ∃ r', ParAt w' q z N x.2.1 x.2.2 r' ∧ ParGo q r r' w w'
  | Except.error x => e = failV x.1 x.2 ∧ Below q w w'

theorem failL_is (z : Int) (toks : List Tok) (err : Int) : ∃ x : Int × Int, failL z toks err = Except.error x := by
  cases toks with
  | nil => exact ⟨_, rfl⟩
  | cons k l => exact ⟨_, rfl⟩
theorem ParPost.fail {w : World} {q : Nat} {z : Int} {N : Nat} {r : Fp} {toks : List Tok} {err : Int} {e : Ending} {w' : World} (h : ParPost w q z N r (failL z toks err) e w') :
    ∃ x : Int × Int, failL z toks err = Except.error x ∧ e = failV x.1 x.2 ∧ Below q w w' := by
  obtain ⟨x, hx⟩ := failL_is z toks err
  rw [hx] at h
  exact ⟨x, hx, h.1, h.2⟩
theorem toks_at {toks : List Tok} {i : Nat} (h : i < toks.length) : toks[i]? = some toks[i] := List.getElem?_eq_getElem h
theorem bytes_ne {a b : ByteArray} (h : a ≠ b) : (a.toList == b.toList) = false := by
  have : ¬ a.toList = b.toList := by
    intro h2
    rw [Go.Lib.toList_data, Go.Lib.toList_data] at h2
    exact h (ByteArray.ext (Array.toList_inj.1 h2))
  exact beq_eq_false_iff_ne.2 this

set_option maxHeartbeats 1000000 in
set_option maxRecDepth 20000 in
theorem sees_any {w : World} {q : Nat} {z : Int} {N : Nat} {toks : List Tok} {out : List Nod} {r : Fp} (h : ParAt w q z N toks out r) (hN : N ≤ 100000) (i : Nat) (t : ByteArray) (hi : i ≤ 1) :
    Calls Tryz.prog 117 #[.pointer (some ⟨q, 0, none⟩), .int .i64 i, .string t] w fun e w' => e = .returned (.bool (seesL toks i t)) ∧ w = w' := by
  have hsum := h.sum
  obtain ⟨A, c, A2, c2, h0, h1, h2, h3, h4⟩ := h.ex
  have c0 := h0.cell 0
  change w.cell? ⟨q, 0, none⟩ = some (.slice A toks.length c) at c0
  by_cases hlt : i < toks.length
  · obtain ⟨b, off, rfl, hb, g0, g1, g2, g3⟩ := h1.tok (toks_at hlt)
    have HS : Hid (seesL toks i t = (toks[i].kind == 4 && decide (toks[i].text = t))) := by
      show _ = _
      unfold seesL
      rw [toks_at hlt]
    have hltB : decide (i < toks.length) = true := decide_eq_true hlt
    generalize toks[i] = k at g0 g1 g2 g3 HS
    by_cases hk : k.kind = 4
    · rw [hk] at g0 HS
      by_cases ht : k.text = t
      · rw [decide_eq_true ht] at HS
        rw [ht] at g1
        clear ht hk
        go_enter Tryz.func117, Tryz.ntmps117
        go_wp2
        go_ret
        exact ⟨by rw [HS.out]; rfl, rfl⟩
      · rw [decide_eq_false ht] at HS
        have ht' := bytes_ne ht
        clear ht hk
        go_enter Tryz.func117, Tryz.ntmps117
        go_wp2
        go_ret
        exact ⟨by rw [HS.out]; rfl, rfl⟩
    · have hk' : (k.kind == 4) = false := beq_eq_false_iff_ne.2 hk
      rw [hk', Bool.false_and] at HS
      clear hk
      go_enter Tryz.func117, Tryz.ntmps117
      go_wp2
      go_ret
      exact ⟨by rw [HS.out]; rfl, rfl⟩
  · have HS : Hid (seesL toks i t = false) := by
      show _ = _
      unfold seesL
      rw [List.getElem?_eq_none (by omega)]
    have hltB : decide (i < toks.length) = false := decide_eq_false hlt
    clear hlt
    go_enter Tryz.func117, Tryz.ntmps117
    go_wp2
    go_ret
    exact ⟨by rw [HS.out]; rfl, rfl⟩

set_option maxHeartbeats 1000000 in
theorem fail_any {w : World} {q : Nat} {z : Int} {N : Nat} {toks : List Tok} {out : List Nod} {r : Fp} (h : ParAt w q z N toks out r) (hN : N ≤ 100000) (err : Int) :
    Calls Tryz.prog 67 #[.pointer (some ⟨q, 0, none⟩), .int .i64 err] w (ParPost w q z N r (failL z toks err)) := by
  have hsum := h.sum
  obtain ⟨A, c, A2, c2, h0, h1, h2, h3, h4⟩ := h.ex
  have c0 := h0.cell 0
  have c1 := h0.cell 1
  change w.cell? ⟨q, 0, none⟩ = some (.slice A toks.length c) at c0
  change w.cell? ⟨q, 1, none⟩ = some (.int .i64 z) at c1
  cases toks with
  | nil =>
    go_enter Tryz.func67, Tryz.ntmps67
    go_wp2
    exact ⟨rfl, rfl, Below.refl _ _⟩
  | cons k rest =>
    obtain ⟨b, off, rfl, hb, g0, g1, g2, g3⟩ := h1.tok (i := 0) (t := k) rfl
    rw [Nat.zero_mul, Nat.add_zero] at g3
    have hl : (((k :: rest).length : Nat) : Int) = (rest.length : Int) + 1 := by simp
    have hz : ((rest.length : Int) + 1 == 0) = false := beq_eq_false_iff_ne.2 (by omega)
    have h01 : (0 : Int) < (rest.length : Int) + 1 := by omega
    go_enter Tryz.func67, Tryz.ntmps67
    go_wp2
    exact ⟨rfl, rfl, Below.refl _ _⟩

theorem ParAt.cut {w : World} {q : Nat} {z : Int} {N : Nat} {k : Tok} {rest : List Tok} {out : List Nod} {r : Fp} (h : ParAt w q z (N + 1) (k :: rest) out r) {A' : Option Addr} {c' : Nat}
    (hr : Reads w q 4 A' rest.length (cellsT rest)) (hc : rest.length ≤ c') (o o' : Obj) :
    ParAt (((w.setCell ⟨q, 0, none⟩ (.slice A' rest.length c')).alloc o).alloc o') q z N rest out r ∧ ParGo q r r w (((w.setCell ⟨q, 0, none⟩ (.slice A' rest.length c')).alloc o).alloc o') := by
  have hsum := h.sum
  have hgo : ParGo q r r w (w.setCell ⟨q, 0, none⟩ (.slice A' rest.length c')) := ⟨rfl, rfl, rfl, by simp, fun k _ hk _ => Below.heap_setCell w ⟨q, 0, none⟩ _ k hk, .inl rfl, fun _ h => .inl h⟩
  have hbel := hgo.pbelow h
  have hpar : ParAt (w.setCell ⟨q, 0, none⟩ (.slice A' rest.length c')) q z N rest out r := by
    obtain ⟨A, c, A2, c2, h0, h1, h2, h3, h4⟩ := h.ex
    refine ⟨⟨A', c', A2, c2, Blk.set_ h0 0 _, hr.below hbel, hc, h3.keepC (fun g hg _ => Below.heap_setCell w ⟨q, 0, none⟩ _ g (by show g ≠ q; omega)), h4⟩, ?_, fun t ht => h.txt t (List.mem_cons_of_mem _ ht), h.nam, fun g hg => by have := h.kidlt g hg; simpa using this⟩
    simp at hsum; omega
  have hb2 : Below (w.setCell ⟨q, 0, none⟩ (.slice A' rest.length c')).heap.size (w.setCell ⟨q, 0, none⟩ (.slice A' rest.length c')) (((w.setCell ⟨q, 0, none⟩ (.slice A' rest.length c')).alloc o).alloc o') := ((Below.refl _ _).alloc (Nat.le_refl _) _).alloc (by simp) _
  exact ⟨hpar.below hb2, hgo.trans (ParGo.of_below hb2)⟩

set_option maxHeartbeats 1000000 in
theorem take_any {w : World} {q : Nat} {z : Int} {N : Nat} {k : Tok} {rest : List Tok} {out : List Nod} {r : Fp} (h : ParAt w q z (N + 1) (k :: rest) out r) (hN : N ≤ 100000) :
    Calls Tryz.prog 121 #[.pointer (some ⟨q, 0, none⟩)] w fun e w' => e = .returned (.agg k.cells) ∧ ParAt w' q z N rest out r ∧ ParGo q r r w w' := by
  have hsum := h.sum
  obtain ⟨A, c, A2, c2, h0, h1, h2, h3, h4⟩ := h.ex
  have c0 := h0.cell 0
  have f0 := h0.frozen 0
  change w.cell? ⟨q, 0, none⟩ = some (.slice A (k :: rest).length c) at c0
  obtain ⟨b, off, rfl, hb, g0, g1, g2, g3⟩ := h1.tok (i := 0) (t := k) rfl
  rw [Nat.zero_mul, Nat.add_zero] at g0 g1 g2 g3
  have hl : (((k :: rest).length : Nat) : Int) = (rest.length : Int) + 1 := by simp
  have h01 : (0 : Int) < (rest.length : Int) + 1 := by omega
  have hql : q < w.heap.size := h.lt
  have hbl : b < w.heap.size := Nat.lt_trans hb hql
  have hA : ∀ (o : Obj) (bb off : Nat), bb < w.heap.size → (w.alloc o).cell? ⟨bb, off, none⟩ = w.cell? ⟨bb, off, none⟩ := fun o bb off h => World.cell?_alloc_lt w o ⟨bb, off, none⟩ h
  have hB : ∀ (o o' : Obj) (bb off : Nat), bb < w.heap.size → ((w.alloc o).alloc o').cell? ⟨bb, off, none⟩ = w.cell? ⟨bb, off, none⟩ := fun o o' bb off h => (World.cell?_alloc_lt (w.alloc o) o' ⟨bb, off, none⟩ (by simp; omega)).trans (hA o bb off h)
  go_enter Tryz.func121, Tryz.ntmps121
  have hx1 : (rest.length + 1 : Nat) ≤ c := by simpa using h2
  by_cases hc1 : c = 1
  · have h0' : rest.length = 0 := by omega
    obtain rfl : rest = [] := List.eq_nil_of_length_eq_zero h0'
    have HR : Hid (Reads w q 4 (some ⟨b, off, none⟩) 0 (cellsT [])) := hide ⟨rfl, fun h => absurd h (Nat.lt_irrefl _)⟩
    have H := hide h
    subst hc1
    clear h h0 h1 h2 h3 h4 hsum
    go_wp2
    refine bodyPost_ret (v := .agg k.cells) (by simp [results, Tryz.results121, go_sem, Tok.cells]) rfl ⟨rfl, ?_⟩
    exact H.out.cut (rest := []) (c' := 0) HR.out (Nat.le_refl _) _ _
  · have HR : Hid (Reads w q 4 (some ⟨b, off + 4, none⟩) rest.length (cellsT rest)) := by
      have := h1.cut (k := 1) (cap := c) (by simp) h2
      rw [if_neg hc1] at this
      exact hide this
    have H := hide h
    have hl0 : rest.length ≤ c - 1 := by omega
    clear h h0 h1 h2 h3 h4 hsum
    go_wp2
    refine bodyPost_ret (v := .agg k.cells) (by simp [results, Tryz.results121, go_sem, Tok.cells]) rfl ⟨rfl, ?_⟩
    exact H.out.cut HR.out hl0 _ _

theorem seesL_cons {toks : List Tok} {t : ByteArray} (h : seesL toks 0 t = true) : ∃ k, toks = k :: toks.tail := by
  cases toks with
  | nil => cases h
  | cons k rest => exact ⟨k, rfl⟩
set_option maxHeartbeats 1000000 in
theorem must_yes {w : World} {q : Nat} {z : Int} {N : Nat} {toks : List Tok} {out : List Nod} {r : Fp} (h : ParAt w q z (N + 1) toks out r) (hN : N < 100000) (t : ByteArray) (hs : seesL toks 0 t = true) :
    Calls Tryz.prog 119 #[.pointer (some ⟨q, 0, none⟩), .string t] w fun e w' => e = .returned (.tuple #[]) ∧ ParAt w' q z N toks.tail out r ∧ ParGo q r r w w' := by
  have HS := hide hs
  clear hs
  go_enter Tryz.func119, Tryz.ntmps119
  go_wp2_with fail
  refine (sees_any h (by omega) 0 t (by omega)).mono ?_
  rintro e w1 ⟨rfl, rfl⟩
  rw [HS.out]
  obtain ⟨k, hk⟩ := seesL_cons HS.out
  have HK := hide hk
  rw [hk] at h
  clear hk
  go_wp2_with fail
  refine (take_any h (by omega)).mono ?_
  rintro e w1 ⟨rfl, h1, h2⟩
  go_wp2
  first | go_end0 | skip
  exact ⟨rfl, h1, h2⟩
set_option maxHeartbeats 1000000 in
theorem must_no {w : World} {q : Nat} {z : Int} {N : Nat} {toks : List Tok} {out : List Nod} {r : Fp} (h : ParAt w q z N toks out r) (hN : N ≤ 100000) (t : ByteArray) (hs : seesL toks 0 t = false) :
    Calls Tryz.prog 119 #[.pointer (some ⟨q, 0, none⟩), .string t] w (ParPost w q z N r (failL z toks 5)) := by
  have HS := hide hs
  clear hs
  go_enter Tryz.func119, Tryz.ntmps119
  go_wp2_with fail
  refine (sees_any h hN 0 t (by omega)).mono ?_
  rintro e w1 ⟨rfl, rfl⟩
  rw [HS.out]
  go_wp2_with fail
  refine (fail_any h hN 5).mono ?_
  intro e w1 hp
  obtain ⟨x, hx, rfl, hb⟩ := hp.fail
  rw [hx]
  have HB := hide hb
  clear hb hp hx
  go_wp2
  exact ⟨rfl, rfl, HB.out⟩

theorem nod_info : (Tryz.prog.info? 56).map (fun i => (i.zero, i.size, i.bytes)) = some (some (.agg #[.int .i64 0, .int .i64 0, .string ByteArray.empty, .slice none 0 0]), 4, 56) := by kernel_rfl
/-- 's = append(s, x..)' of a row of the call's own in a region that draws its order; with what is left as it was. -/
theorem step_appG {P : Program} {w : World} {ops : Array Oper} {o : Oper} {a : Act} {K : Act → World → Prop} {Q : Exit → Act → World → Prop} {E : Prop} (hw : Region.wanted o (yielded ops a.tmps) = true) (s x : Operand) (t : TypeId)
    (ho : o.op = .call { callee := .builtin .append, args := #[s, x], argTypes := #[t, t] })
    (base : Nat) (e : TypeId) (z : Value) (size bytes : Nat) (ht : P.underlying t = some (.slice e)) (hi : (P.info? e).map (fun i => (i.zero, i.size, i.bytes)) = some (some z, size, bytes))
    (hzs : z.cells.size = size) (hsz : 0 < size)
    (A : Option Addr) (n c : Nat) (xs : List Value) (hs : a.eval s = .slice A n c) (hown : Own w base e size A n c xs)
    (B : Nat) (A' : Option Addr) (m c' : Nat) (news : List Value) (hx : a.eval x = .slice A' m c') (hr : Reads w B size A' m news) (h1 : ∀ u ∈ news, u.oneCell' = true)
    (h63 : n + m ≤ maxLen) (hbytes : (n + m) * bytes ≤ 140737488355328) (hbase : base ≤ w.heap.size)
    (h : ∀ A2 c2 w', Own w' base e size A2 (n + m) c2 (xs ++ news) → w.grownBy w' (Value.slice A n c).ownBlock → ((Value.slice A2 (n + m) c2).ownBlock = (Value.slice A n c).ownBlock ∨ (Value.slice A2 (n + m) c2).ownBlock = some w.heap.size) → K (a.put o.dst (.slice A2 (n + m) c2)) w') :
    if Region.wanted o (yielded ops a.tmps) = true then Oper.wp P o a w K Q else E := by
  obtain ⟨i0, hi0, hz, hz1, hz2⟩ := info_parts hi
  rw [if_pos hw]
  refine wp_append_any w s x t ho base e i0 z size bytes ht hi0 hz hz1 hz2 hzs hsz _ n xs hs hown B A' m c' news hx hr h1 h63 hbytes hbase fun v' w' hown' hg hat => ?_
  have hv : ∃ A2 c2, v' = .slice A2 (n + m) c2 := by
    rcases hown'.2 with ⟨rfl, h0⟩ | ⟨g, cap, cur, rfl, _⟩
    · exact ⟨none, 0, by rw [h0]⟩
    · exact ⟨_, cap, rfl⟩
  obtain ⟨A2, c2, rfl⟩ := hv
  exact h A2 c2 w' hown' hg hat

/-- What put leaves: the new node's operands lie in a block that the caller gave. -/
def PutPost (w : World) (q : Nat) (z : Int) (N : Nat) (r : Fp) (toks : List Tok) (out : List Nod) (x : Nod) (K : Option Addr) (kc : Nat) (e : Ending) (w' : World) : Prop :=
  e = .returned (.int .i64 (out.length : Int)) ∧ ∃ row', ParAt w' q z N toks (out ++ [x]) ⟨row', fun g => r.kid g ∨ (Value.slice K x.kids.length kc).ownBlock = some g⟩ ∧ ParGo q r ⟨row', r.kid⟩ w w'
theorem PutPost.after {w w1 w' : World} {q : Nat} {z : Int} {N M : Nat} {r r1 : Fp} {toks : List Tok} {out : List Nod} {x : Nod} {K : Option Addr} {kc : Nat} {e : Ending} (h : PutPost w1 q z M r1 toks out x K kc e w') (hgo : ParGo q r r1 w w1) (hM : M ≤ N)
    (hf : ∀ g, (Value.slice K x.kids.length kc).ownBlock = some g → w.heap.size ≤ g) : e = .returned (.int .i64 (out.length : Int)) ∧ ∃ r', ParAt w' q z N toks (out ++ [x]) r' ∧ ParGo q r r' w w' := by
  obtain ⟨h1, row', h2, h3⟩ := h
  have h4 := hgo.trans h3
  refine ⟨h1, _, h2.le hM, ⟨h4.os, h4.tape, h4.output, h4.size, h4.keep, h4.row, fun g hg => ?_⟩⟩
  rcases hg with hg | hg
  · exact h4.kid g hg
  · exact .inr (hf g hg)

/-- What put leaves, whatever world the append began in. -/
theorem put_end {w w1 w5 : World} {q : Nat} {z : Int} {N : Nat} {toks : List Tok} {out : List Nod} {r : Fp} (h : ParAt w q z N toks out r) (hs : out.length + 1 + toks.length ≤ N)
    {x : Nod} {K : Option Addr} {kc : Nat} (hx : Own w (q + 1) 3 1 K x.kids.length kc (ints x.kids)) (hxn : x.name.size ≤ maxLen)
    {A : Option Addr} {c : Nat} {A2 : Option Addr} {c2 : Nat} {ks : List (Option Addr × Nat)}
    (h0 : Blk w q 110 #[.slice A toks.length c, .int .i64 z, .slice A2 out.length c2]) (h1 : Reads w q 4 A toks.length (cellsT toks)) (h2 : toks.length ≤ c) (h3 : ks.length = out.length)
    (h4 : Own w (q + 1) 56 4 A2 out.length c2 (cellsN out ks))
    (h5 : ∀ (i : Nat) (x : Nod) (k : Option Addr × Nat), out[i]? = some x → ks[i]? = some k → Own w (q + 1) 3 1 k.1 x.kids.length k.2 (ints x.kids) ∧ ∀ g, (Value.slice k.1 x.kids.length k.2).ownBlock = some g → r.kid g)
    (h6 : (Value.slice A2 out.length c2).ownBlock = r.row) (hb : Below w.heap.size w w1)
    {A5 : Option Addr} {c5 : Nat} (hown : Own w5 (q + 1) 56 4 A5 (out.length + 1) c5 (cellsN out ks ++ [.int .i64 x.op, .int .i64 x.n, .string x.name, .slice K x.kids.length kc]))
    (hg : w1.grownBy w5 (Value.slice A2 out.length c2).ownBlock) (hat : (Value.slice A5 (out.length + 1) c5).ownBlock = (Value.slice A2 out.length c2).ownBlock ∨ (Value.slice A5 (out.length + 1) c5).ownBlock = some w1.heap.size) :
    Blk w5 q 110 #[.slice A toks.length c, .int .i64 z, .slice A2 out.length c2] ∧
    PutPost w q z N r toks out x K kc (.returned (.int .i64 (out.length : Int))) (w5.setCell ⟨q, 2, none⟩ (.slice A5 (out.length + 1) c5)) := by
  have hql := h.lt
  have hrow := h.rowlt
  have hq1 : some q ≠ (Value.slice A2 out.length c2).ownBlock := fun e => by have := (hrow q (by rw [← h6, ← e])).1; omega
  have b5 : Blk w5 q 110 #[.slice A toks.length c, .int .i64 z, .slice A2 out.length c2] := (h0.below hb hql).grown hg hq1
  have hKlt : ∀ g, (Value.slice K x.kids.length kc).ownBlock = some g → g < w.heap.size := fun g hg => (World.ownsRow.lt hx g hg).2
  have go0 : ∀ k, k < w.heap.size → k ≠ q → some k ≠ r.row → w5.heap[k]? = w.heap[k]? := fun k hk hkq hkr =>
    (hg.block k (Nat.lt_of_lt_of_le hk hb.size) (by rw [h6]; exact hkr)).trans (hb.block k hk)
  have gob : Below q w w5 := ⟨hg.os.trans hb.os, hg.tape.trans hb.tape, hg.output.trans hb.output, Nat.le_trans hb.size hg.size, fun k hk => go0 k (by omega) (by omega) (fun e => by have := (hrow k e.symm).1; omega)⟩
  have hn5 : NodsOwn w5 (q + 1) A5 c5 (out ++ [x]) (fun g => r.kid g ∨ (Value.slice K x.kids.length kc).ownBlock = some g) := NodsOwn.snoc h3 (h4.below hb) (fun i y k hy hk => ⟨(h5 i y k hy hk).1.below hb, (h5 i y k hy hk).2⟩) (hx.below hb) hg hown
  have hz5 : w.heap.size ≤ w5.heap.size := gob.size
  refine ⟨b5, rfl, (Value.slice A5 (out.length + 1) c5).ownBlock, ⟨⟨A, c, A5, c5, ?_, ?_, h2, ?_, ?_⟩, ?_, h.txt, ?_, ?_⟩, ⟨?_, ?_, ?_, ?_, ?_, ?_, fun g hg => .inl hg⟩⟩
  · have := b5.set_ 2 (.slice A5 (out.length + 1) c5)
    rw [List.length_append]
    exact this
  · exact (h1.below gob).keep (fun p hp => by rw [World.cell?_setCell_other _ _ _ _ (by rintro rfl; exact absurd hp (Nat.lt_irrefl _))])
  · exact hn5.keepC (fun g hg _ => Below.heap_setCell w5 ⟨q, 2, none⟩ _ g (by show g ≠ q; omega))
  · rw [List.length_append]; rfl
  · rw [List.length_append]; simp; omega
  · intro y hy
    rcases List.mem_append.1 hy with hy | hy
    · exact h.nam y hy
    · rw [List.mem_singleton.1 hy]; exact hxn
  · intro g hg
    have : g < w.heap.size := by
      rcases hg with hg | hg
      · exact h.kidlt g hg
      · exact hKlt g hg
    have h2 : (w5.setCell ⟨q, 2, none⟩ (.slice A5 (out.length + 1) c5)).heap.size = w5.heap.size := by simp
    rw [h2]
    omega
  · exact gob.os
  · exact gob.tape
  · exact gob.output
  · simpa using gob.size
  · intro k hk hkq hkr
    exact (Below.heap_setCell w5 ⟨q, 2, none⟩ _ k hkq).trans (go0 k hk hkq hkr)
  · rcases hat with e | e
    · exact .inl (e.trans h6)
    · exact .inr ⟨_, e, hb.size⟩

set_option maxHeartbeats 2000000 in
theorem put_any {w : World} {q : Nat} {z : Int} {N : Nat} {toks : List Tok} {out : List Nod} {r : Fp} (h : ParAt w q z N toks out r) (hN : N ≤ 100000) (hs : out.length + 1 + toks.length ≤ N)
    (x : Nod) (K : Option Addr) (kc : Nat) (hx : Own w (q + 1) 3 1 K x.kids.length kc (ints x.kids)) (hxn : x.name.size ≤ maxLen) :
    Calls Tryz.prog 120 #[.pointer (some ⟨q, 0, none⟩), x.val K kc] w (PutPost w q z N r toks out x K kc) := by
  unfold Nod.val
  have hql := h.lt
  obtain ⟨A, c, A2, c2, h0, h1, h2, ⟨ks, h3, h4, h5⟩, h6⟩ := h.ex
  have hb0 : Below w.heap.size w (w.alloc (Obj.cells #[.int .i64 x.op, .int .i64 x.n, .string x.name, .slice K x.kids.length kc] 56)) := (Below.refl _ _).alloc (Nat.le_refl _) _
  have hB0 : Blk (w.alloc (Obj.cells #[.int .i64 x.op, .int .i64 x.n, .string x.name, .slice K x.kids.length kc] 56)) w.heap.size 56 #[.int .i64 x.op, .int .i64 x.n, .string x.name, .slice K x.kids.length kc] := Blk.new _ _ _
  have hz0 : (w.alloc (Obj.cells #[.int .i64 x.op, .int .i64 x.n, .string x.name, .slice K x.kids.length kc] 56)).heap.size = w.heap.size + 1 := by simp
  have FIN := hide (fun (w1 w5 : World) (hb : Below w.heap.size w w1) (A5 : Option Addr) (c5 : Nat) hown hg hat => put_end (w1 := w1) (w5 := w5) h hs hx hxn h0 h1 h2 h3 h4 h5 h6 hb (A5 := A5) (c5 := c5) hown hg hat)
  have H4 := hide h4
  clear h hx h1 h2 h3 h4 h5 h6
  go_enter Tryz.func120, Tryz.ntmps120
  go_wp2_with fail
  generalize w.alloc (Obj.cells #[.int .i64 x.op, .int .i64 x.n, .string x.name, .slice K x.kids.length kc] 56) = w0 at hb0 hB0 hz0 ⊢
  have q2 : w0.cell? ⟨q, 2, none⟩ = some (.slice A2 out.length c2) := (hb0.cell (p := ⟨q, 2, none⟩) hql).trans (h0.cell 2)
  obtain ⟨c0, c1, c2', c3, _, _, _, _⟩ := blk4 hB0
  have q2' : (w0.alloc (Obj.cells #[.int .i64 x.op, .int .i64 x.n, .string x.name, .slice K x.kids.length kc] 56)).cell? ⟨q, 2, none⟩ = some (.slice A2 out.length c2) := (World.cell?_alloc_lt w0 _ ⟨q, 2, none⟩ (by show q < _; omega)).trans q2
  have RR : Hid (Reads (w0.alloc (Obj.cells #[.int .i64 x.op, .int .i64 x.n, .string x.name, .slice K x.kids.length kc] 56)).drew (w0.heap.size + 1) 4 (some ⟨w0.heap.size, 0, none⟩) 1 [.int .i64 x.op, .int .i64 x.n, .string x.name, .slice K x.kids.length kc]) := hide (reads_new w0 _ 56 4 1 rfl)
  have HOW : Hid (Own (w0.alloc (Obj.cells #[.int .i64 x.op, .int .i64 x.n, .string x.name, .slice K x.kids.length kc] 56)).drew (q + 1) 56 4 A2 out.length c2 (cellsN out ks)) := hide (((H4.out.below hb0).alloc _).below (Below.drew (Below.refl _ _)))
  have HB1 : Hid (Below w.heap.size w (w0.alloc (Obj.cells #[.int .i64 x.op, .int .i64 x.n, .string x.name, .slice K x.kids.length kc] 56)).drew) := hide ((hb0.alloc (by omega) _).drew)
  have HZ0 := hide hz0
  have HB0 := hide hb0
  have h63 : out.length + 1 ≤ maxLen := by unfold maxLen; omega
  clear hz0 hb0 hB0 h0 H4
  go_region_law ((refine step_appG (by rfl) _ _ _ (by rfl) (q + 1) 56 (.agg #[.int .i64 0, .int .i64 0, .string ByteArray.empty, .slice none 0 0]) 4 56 Tryz.underlying24 nod_info rfl (by omega) A2 out.length c2 (cellsN out ks) (by rfl) (by exact HOW.out) _ _ 1 _ _ (by rfl) (by exact RR.out) (by simp [Value.oneCell']) h63 (by omega) (by simp; have := HZ0.out; omega) ?_; intro A5 c5 w5 hown5 hg5 hat5; have FF := hide (FIN.out _ w5 HB1.out A5 c5 hown5 hg5 hat5); clear hown5 hg5 hat5; have q5 := FF.out.1.cell 2; have f5 := FF.out.1.frozen 2))
  all_goals (have q6 : (w5.setCell ⟨q, 2, none⟩ (.slice A5 (out.length + 1) c5)).cell? ⟨q, 2, none⟩ = some (.slice A5 (out.length + 1) c5) := (FF.out.1.set_ 2 (.slice A5 (out.length + 1) c5)).cell 2)
  all_goals (have RES := hide FF.out.2; clear FF q5 f5; generalize w5.setCell ⟨q, 2, none⟩ (.slice A5 (out.length + 1) c5) = w6 at RES q6 ⊢; go_wp2; go_ret; exact RES.out)
end Go.Proofs.YtkomgidcgepknaaGreatDoor
