/-
  The law's above: an operator above some expressions.
-/
import Derived.Test.YtmelebfpkjnfdaaDoorFewB
import Derived.Test.YtmelebfpkjnfdaaDoorExpL
import Derived.Test.YtmelebfpkjnfdaaDoorMerP
set_option linter.unusedVariables false
set_option linter.unusedSimpArgs false
namespace Go.Proofs.YtmelebfpkjnfdaaDoor
open Go.RowKit Go.Deep Go.Maps

/-- 's = append(s, x..)': with what has become of the row. -/
theorem wpList_appK {P : Program} {w : World} {ops : Array Oper} {rest : List Oper} {o : Oper} {a : Act} {Q : Exit → Act → World → Prop} (hgd : o.guard = none) (s x : Operand) (t : TypeId)
    (ho : o.op = .call { callee := .builtin .append, args := #[s, x], argTypes := #[t, t] })
    (base : Nat) (e : TypeId) (z : Value) (size bytes : Nat) (ht : P.underlying t = some (.slice e)) (hi : (P.info? e).map (fun i => (i.zero, i.size, i.bytes)) = some (some z, size, bytes))
    (hzs : z.cells.size = size) (hsz : 0 < size)
    (A : Option Addr) (n c : Nat) (xs : List Value) (hs : a.eval s = .slice A n c) (hown : Own w base e size A n c xs)
    (B : Nat) (A' : Option Addr) (m c' : Nat) (news : List Value) (hx : a.eval x = .slice A' m c') (hr : Reads w B size A' m news) (h1 : ∀ u ∈ news, u.oneCell' = true)
    (h63 : n + m ≤ maxLen) (hbytes : (n + m) * bytes ≤ 140737488355328) (hbase : base ≤ w.heap.size)
    (h : ∀ A2 c2 w', Own w' base e size A2 (n + m) c2 (xs ++ news) → w.grownBy w' (Value.slice A n c).ownBlock → ((Value.slice A2 (n + m) c2).ownBlock = (Value.slice A n c).ownBlock ∨ (Value.slice A2 (n + m) c2).ownBlock = some w.heap.size) → wpList P ops Q rest (a.put o.dst (.slice A2 (n + m) c2)) w') : wpList P ops Q (o :: rest) a w := by
  obtain ⟨i0, hi0, hz, hz1, hz2⟩ := info_parts hi
  refine wpList_append_any w hgd s x t ho base e i0 z size bytes ht hi0 hz hz1 hz2 hzs hsz _ n xs hs hown B A' m c' news hx hr h1 h63 hbytes hbase (fun v' w' hown' hg hat => ?_)
  have hv : ∃ A2 c2, v' = .slice A2 (n + m) c2 := by
    rcases hown'.2 with ⟨rfl, h0⟩ | ⟨g, cap, cur, rfl, _⟩
    · exact ⟨none, 0, by rw [h0]⟩
    · exact ⟨_, cap, rfl⟩
  obtain ⟨A2, c2, rfl⟩ := hv
  exact h A2 c2 w' hown' hg hat
theorem Own.low {w : World} {base base' : Nat} {e : TypeId} {size : Nat} {A : Option Addr} {n c : Nat} {xs : List Value} (h : Own w base e size A n c xs) (hB : base' ≤ base) : Own w base' e size A n c xs := by
  refine ⟨h.1, ?_⟩
  rcases h.2 with h2 | ⟨g, cap, cur, hv, hgb, hh, r⟩
  · exact Or.inl h2
  · exact Or.inr ⟨g, cap, cur, hv, Nat.le_trans hB hgb, hh, r⟩

/-- Nodes and roots so far. -/
structure AbAt (W w : World) (o : List Nod) (A5 : Option Addr) (c5 : Nat) (rts : List Int) (A6 : Option Addr) (c6 : Nat) (F : Nat → Prop) : Prop where
  nod : NodsOwn w W.heap.size A5 c5 o F
  rot : Own w W.heap.size 3 1 A6 rts.length c6 (ints rts)
  flt : ∀ g, F g → g < w.heap.size
  fne : ∀ g, F g → some g ≠ (Value.slice A6 rts.length c6).ownBlock
  bel : Below W.heap.size W w
section
variable {W w w' w1 w5 : World} {o : List Nod} {A5 : Option Addr} {c5 : Nat} {rts : List Int} {A6 : Option Addr} {c6 : Nat} {F : Nat → Prop}
theorem AbAt.start (W : World) : AbAt W W [] none 0 [] none 0 (fun _ => False) := ⟨NodsOwn.nil, Own.nil _ _ _ _, fun _ h => h.elim, fun _ h => h.elim, Below.refl _ _⟩
theorem AbAt.below (h : AbAt W w o A5 c5 rts A6 c6 F) (hb : Below w.heap.size w w') : AbAt W w' o A5 c5 rts A6 c6 F :=
  ⟨h.nod.below hb, h.rot.below hb, fun g hg => Nat.lt_of_lt_of_le (h.flt g hg) hb.size, h.fne, h.bel.trans (hb.mono h.bel.size)⟩
theorem AbAt.snoc (h : AbAt W w o A5 c5 rts A6 c6 F) (hb1 : Below w.heap.size w w1) {x : Nod} {K : Option Addr} {kc : Nat} (hx : Own w1 w.heap.size 3 1 K x.kids.length kc (ints x.kids))
    {ks : List (Option Addr × Nat)} (h1 : ks.length = o.length) (h2 : Own w W.heap.size 53 4 A5 o.length c5 (cellsN o ks))
    (h3 : ∀ (i : Nat) (x : Nod) (k : Option Addr × Nat), o[i]? = some x → ks[i]? = some k → Own w W.heap.size 3 1 k.1 x.kids.length k.2 (ints x.kids) ∧ ∀ g, (Value.slice k.1 x.kids.length k.2).ownBlock = some g → F g)
    {A7 : Option Addr} {c7 : Nat} (hown : Own w5 W.heap.size 53 4 A7 (o.length + 1) c7 (cellsN o ks ++ [.int .i64 x.op, .int .i64 x.n, .string x.name, .slice K x.kids.length kc]))
    (hg : w1.grownBy w5 (Value.slice A5 o.length c5).ownBlock) : AbAt W w5 (o ++ [x]) A7 c7 rts A6 c6 (fun g => F g ∨ (Value.slice K x.kids.length kc).ownBlock = some g) := by
  have hne : 3 ≠ 53 := by decide
  have hlow := hx.low h.bel.size
  have hb5 : Below W.heap.size w1 w5 := (Below.refl _ _).grown hg (Nat.le_trans h.bel.size hb1.size) (fun k hk => (World.ownsRow.lt h2 k hk).1)
  refine ⟨NodsOwn.snoc h1 (h2.below hb1) (fun i y k hy hk => ⟨(h3 i y k hy hk).1.below hb1, (h3 i y k hy hk).2⟩) hlow hg hown, (h.rot.below hb1).grown_other (h2.below hb1) hne hg, fun g hgg => ?_, fun g hgg => ?_, (h.bel.trans (hb1.mono h.bel.size)).trans hb5⟩
  · rcases hgg with hgg | hgg
    · exact Nat.lt_of_lt_of_le (h.flt g hgg) (Nat.le_trans hb1.size hb5.size)
    · exact Nat.lt_of_lt_of_le (World.ownsRow.lt hx g hgg).2 hb5.size
  · rcases hgg with hgg | hgg
    · exact h.fne g hgg
    · intro e
      have := (World.ownsRow.lt hx g hgg).1
      have := (World.ownsRow.lt h.rot g e.symm).2
      omega
theorem AbAt.root (h : AbAt W w o A5 c5 rts A6 c6 F) (hb1 : Below w.heap.size w w1) {r : Int} {A7 : Option Addr} {c7 : Nat} (hown : Own w5 W.heap.size 3 1 A7 (rts.length + 1) c7 (ints rts ++ ints [r]))
    (hg : w1.grownBy w5 (Value.slice A6 rts.length c6).ownBlock) (hat : (Value.slice A7 (rts.length + 1) c7).ownBlock = (Value.slice A6 rts.length c6).ownBlock ∨ (Value.slice A7 (rts.length + 1) c7).ownBlock = some w1.heap.size) :
    AbAt W w5 o A5 c5 (rts ++ [r]) A7 c7 F := by
  have hne : 53 ≠ 3 := by decide
  have hb5 : Below W.heap.size w1 w5 := (Below.refl _ _).grown hg (Nat.le_trans h.bel.size hb1.size) (fun k hk => (World.ownsRow.lt h.rot k hk).1)
  obtain ⟨ks, h1, h2, h3⟩ := h.nod
  have hl : (rts ++ [r]).length = rts.length + 1 := by simp
  refine ⟨⟨ks, h1, (h2.below hb1).grown_other (h.rot.below hb1) hne hg, fun i y k hy hk => ⟨((h3 i y k hy hk).1.below hb1).keepB (fun g hgk => ?_), (h3 i y k hy hk).2⟩⟩, by rw [hl, ints_append]; exact hown, fun g hgg => ?_, fun g hgg => ?_, (h.bel.trans (hb1.mono h.bel.size)).trans hb5⟩
  · have hF := (h3 i y k hy hk).2 g hgk.symm
    exact hg.block g (Nat.lt_of_lt_of_le (h.flt g hF) hb1.size) (h.fne g hF)
  · exact Nat.lt_of_lt_of_le (h.flt g hgg) (Nat.le_trans hb1.size hb5.size)
  · rw [hl]
    rcases hat with e | e
    · rw [e]
      exact h.fne g hgg
    · rw [e]
      intro e2
      injection e2 with e2
      have := h.flt g hgg
      have := hb1.size
      omega
end

/-! ### What it is -/
/-- A node with other indices of operands, as the machine adds. -/
def shiftB (k : Nat) (x : Nod) : Nod := { x with kids := x.kids.map fun j => wrap64 (j + (k : Int)) }
theorem shiftB_eq {k : Nat} {x : Nod} (h : ∀ j ∈ x.kids, 0 ≤ j ∧ j ≤ 1000) (hk : k ≤ 10000) : shiftB k x = shiftN k x := by
  unfold shiftB shiftN
  have : x.kids.map (fun j => wrap64 (j + (k : Int))) = x.kids.map fun j => j + (k : Int) := List.map_congr_left fun j hj => by
    have := h j hj
    exact IntWalk.wrap64_in _ (by omega)
  rw [this]
theorem shiftB_map {k : Nat} {a : List Nod} (h : ∀ x ∈ a, ∀ j ∈ x.kids, 0 ≤ j ∧ j ≤ 1000) (hk : k ≤ 10000) : a.map (shiftB k) = a.map (shiftN k) := List.map_congr_left fun x hx => shiftB_eq (h x hx) hk
def catL (ps : List (List Nod)) : List Nod := ps.foldl (fun o p => o ++ p.map (shiftB o.length)) []
def rootsOf (ps : List (List Nod)) (i : Nat) : List Int := (List.range i).map fun j => ((catL (ps.take (j + 1))).length : Int) - 1
def aboveL (op : Int) (ps : List (List Nod)) : List Nod := catL ps ++ [⟨op, 0, ByteArray.empty, rootsOf ps ps.length⟩]
theorem catL_snoc (ps : List (List Nod)) (p : List Nod) : catL (ps ++ [p]) = catL ps ++ p.map (shiftB (catL ps).length) := by
  unfold catL
  rw [List.foldl_append]
  rfl
theorem rootsOf_next (ps : List (List Nod)) (i : Nat) : rootsOf ps (i + 1) = rootsOf ps i ++ [((catL (ps.take (i + 1))).length : Int) - 1] := by
  unfold rootsOf
  rw [List.range_succ, List.map_append]
  rfl
theorem rootsOf_len (ps : List (List Nod)) (i : Nat) : (rootsOf ps i).length = i := by simp [rootsOf]
theorem shiftN_zero (a : List Nod) : a.map (shiftN 0) = a := by
  have : shiftN 0 = id := by
    funext x
    unfold shiftN
    simp
  rw [this, List.map_id]
def smallK (a : List Nod) : Prop := ∀ x ∈ a, ∀ j ∈ x.kids, 0 ≤ j ∧ j ≤ 1000
theorem smallK_of {a : List Nod} (h : validL a = true) : smallK a := by
  intro x hx j hj
  obtain ⟨i, hi, rfl⟩ := List.getElem_of_mem hx
  have h1 := (valid_nodes h).2.2 i hi
  have h2 := (valid_nodes h).2.1
  rw [nodAt_get' hi] at hj
  have := h1.2 j hj
  omega
theorem above2_eq (op : Int) {a b : List Nod} (ha : smallK a) (hb : smallK b) (hl : a.length ≤ 1000) : aboveL op [a, b] = above2 op a b := by
  unfold aboveL above2 catL rootsOf
  simp [List.range_succ, catL, shiftB_map ha (Nat.zero_le _), shiftN_zero, shiftB_map hb (show a.length ≤ 10000 by omega)]
theorem above3_eq (op : Int) {a b c : List Nod} (ha : smallK a) (hb : smallK b) (hc : smallK c) (hl : a.length + b.length ≤ 1000) : aboveL op [a, b, c] = above3 op a b c := by
  unfold aboveL above3 catL rootsOf
  simp [List.range_succ, catL, shiftB_map ha (Nat.zero_le _), shiftN_zero, shiftB_map hb (show a.length ≤ 10000 by omega), shiftB_map hc (show a.length + b.length ≤ 10000 by omega)]
  omega
theorem take_get {α : Type} {l : List α} {i : Nat} {x : α} (h : l[i]? = some x) : l.take (i + 1) = l.take i ++ [x] := by
  rw [List.take_add_one, h]
  rfl
theorem catL_le (ps : List (List Nod)) (i : Nat) : (catL (ps.take i)).length ≤ (catL ps).length := by
  have key : ∀ (l : List (List Nod)) (o : List Nod), o.length ≤ (l.foldl (fun o p => o ++ p.map (shiftB o.length)) o).length := by
    intro l
    induction l with
    | nil => intro o; exact Nat.le_refl _
    | cons p l ih =>
      intro o
      have := ih (o ++ p.map (shiftB o.length))
      rw [List.length_append] at this
      exact Nat.le_trans (Nat.le_add_right _ _) this
  have : catL ps = (ps.drop i).foldl (fun o p => o ++ p.map (shiftB o.length)) (catL (ps.take i)) := by
    unfold catL
    rw [← List.foldl_append, List.take_append_drop]
  rw [this]
  exact key _ _
abbrev PartT := Option Addr × Nat × List Nod
def partV (p : PartT) : Value := .slice p.1 p.2.2.length p.2.1
theorem parts_at {w : World} {B : Nat} {A : Option Addr} {n : Nat} {ps : List PartT} (h : Reads w B 1 A n (ps.map partV)) {i : Nat} {p : PartT} (hi : ps[i]? = some p) :
    ∃ b off, A = some ⟨b, off, none⟩ ∧ b < B ∧ w.cell? ⟨b, off + i, none⟩ = some (.slice p.1 p.2.2.length p.2.1) := by
  have hl : i < ps.length := (List.getElem?_eq_some_iff.1 hi).1
  have hn : ps.length = n := by have := h.1; simpa using this
  obtain ⟨ad, hA, hb, hc⟩ := h.2 (by omega)
  have h1 : (ps.map partV)[i]? = some (partV p) := by rw [List.getElem?_map, hi]; rfl
  have h0 := hc i _ h1
  have hz := hc 0 _ (List.getElem?_eq_getElem (l := ps.map partV) (i := 0) (by simp; omega))
  obtain ⟨b, off, spot⟩ := ad
  have hsp : spot = none := by simpa [Addr.add] using World.cell?_spot hz
  subst hsp
  rw [add_lit] at h0
  exact ⟨b, off, hA, hb, h0⟩

set_option maxHeartbeats 8000000 in
set_option maxRecDepth 20000 in
theorem above_any (op : Int) (PB : Option Addr) (np cp : Nat) (ps : List PartT) (w : World) (hp : Reads w w.heap.size 1 PB np (ps.map partV)) (he : ∀ p ∈ ps, ExprAt w w.heap.size p.1 p.2.2)
    (hsum : (catL (ps.map (·.2.2))).length ≤ 10000) (hkid : ∀ p ∈ ps, ∀ x ∈ p.2.2, x.kids.length ≤ 300) (hnp : np ≤ 100) :
    Calls Tryd.prog 12 #[.int .i64 op, .slice PB np cp] w fun e w' => ∃ A c, e = .returned (.slice A (aboveL op (ps.map (·.2.2))).length c) ∧ ExprAt w' w'.heap.size A (aboveL op (ps.map (·.2.2))) ∧ Below w.heap.size w w' := by
  have hpl : ps.length = np := by have := hp.1; simpa using this
  have HPL := hide hpl
  have HP := hide hp
  have HE := hide he
  have HK := hide hkid
  obtain ⟨es, hes⟩ : ∃ es, es = ps.map (·.2.2) := ⟨_, rfl⟩
  have HES := hide hes
  rw [← hes] at hsum ⊢
  have HSUM := hide hsum
  clear hp he hkid hes hsum hpl
  go_enter Tryd.func12, Tryd.ntmps12
  go_wp2
  go_loopw [5, 6, 7] (fun t5 t6 t7 wr => ∃ (i : Nat) (A5 : Option Addr) (c5 : Nat) (A6 : Option Addr) (c6 : Nat) (F : Nat → Prop), i ≤ np ∧ t7 = .int .i64 i ∧ t5 = .slice A5 (catL (es.take i)).length c5 ∧ t6 = .slice A6 (rootsOf es i).length c6 ∧ AbAt w wr (catL (es.take i)) A5 c5 (rootsOf es i) A6 c6 F) (fun _ _ t7 _ => np - (intOf t7).toNat)
  case atStart => exact ⟨0, none, 0, none, 0, fun _ => False, Nat.zero_le _, rfl, rfl, rfl, AbAt.start w⟩
  case round =>
    obtain ⟨i, A5, c5, A6, c6, F, hi, rfl, rfl, rfl, hab⟩ := hrel
    have HAB := hide hab
    clear hab
    by_cases hlt : i < np
    · obtain ⟨p, hpi⟩ : ∃ p, ps[i]? = some p := ⟨_, List.getElem?_eq_getElem (by rw [HPL.out]; exact hlt)⟩
      have hpm : p ∈ ps := List.mem_of_getElem? hpi
      have hei : es[i]? = some p.2.2 := by rw [HES.out, List.getElem?_map, hpi]; rfl
      have HTK := hide (take_get hei)
      have HCAT : Hid (catL (es.take (i + 1)) = catL (es.take i) ++ p.2.2.map (shiftB (catL (es.take i)).length)) := hide (by rw [HTK.out, catL_snoc])
      have HRN := hide (rootsOf_next es i)
      have HL1 := hide (catL_le es (i + 1))
      obtain ⟨bp, offp, hPB, hbp, hcell⟩ := parts_at HP.out hpi
      subst hPB
      have HEP := hide (HE.out p hpm)
      have HKP := hide (HK.out p hpm)
      have HPC := hide (show ∀ wq : World, Below w.heap.size w wq → wq.cell? ⟨bp, offp + i, none⟩ = some (.slice p.1 p.2.2.length p.2.1) from fun wq hb => (hb.cell (p := ⟨bp, offp + i, none⟩) hbp).trans hcell)
      have HLL : Hid ((catL (es.take i)).length + p.2.2.length ≤ 10000) := hide (by
        have h1 := HL1.out
        rw [HCAT.out, List.length_append, List.length_map] at h1
        have := HSUM.out
        omega)
      have HRL0 := hide (rootsOf_len es i)
      clear hcell hpi hei hpm
      obtain ⟨Ap, cpp, e⟩ := p
      dsimp only at *
      generalize catL (es.take i) = cur at HAB HCAT HLL ⊢
      generalize rootsOf es i = rts at HAB HRN HRL0 ⊢
      have hll : cur.length + e.length ≤ 10000 := HLL.out
      go_wp2
      go_loopw [5, 9] (fun t5 t9 wr => ∃ (k : Nat) (A5 : Option Addr) (c5 : Nat) (F : Nat → Prop), k ≤ e.length ∧ t9 = .int .i64 k ∧ t5 = .slice A5 (cur ++ (e.take k).map (shiftB cur.length)).length c5 ∧ AbAt w wr (cur ++ (e.take k).map (shiftB cur.length)) A5 c5 rts A6 c6 F) (fun _ t9 _ => e.length - (intOf t9).toNat)
      case atStart => exact ⟨0, A5, c5, F, Nat.zero_le _, rfl, by simp, by simpa using HAB.out⟩
      case round =>
        clear HAB
        obtain ⟨k, A5, c5, F, hk, rfl, rfl, hab⟩ := hrel
        have HAB := hide hab
        have HOL : Hid ((cur ++ (e.take k).map (shiftB cur.length)).length = cur.length + k) := hide (by simp [List.length_take]; omega)
        have g0 := HPC.out wr hab.bel
        by_cases hkl : k < e.length
        · obtain ⟨be, offe, K, kc, rfl, hbe, x0, x1, x2, x3, hKd⟩ := (HEP.out.below hab.bel).at_ hkl
          have hxk := HKP.out (nodAt e k) (List.mem_of_getElem? (nodAt_get hkl))
          have HTX : Hid (cur ++ (e.take (k + 1)).map (shiftB cur.length) = (cur ++ (e.take k).map (shiftB cur.length)) ++ [shiftB cur.length (nodAt e k)]) := hide (by rw [nod_take hkl, List.map_append, List.append_assoc]; rfl)
          clear hab
          generalize nodAt e k = x at x0 x1 x2 x3 hKd hxk HTX
          generalize cur ++ (e.take k).map (shiftB cur.length) = o at HAB HTX HOL ⊢
          obtain ⟨wo, hwo⟩ : ∃ wo : World, wo = wr := ⟨_, rfl⟩
          subst hwo
          have hbo := HAB.out.bel
          have HBO := hide hbo
          have HX3 := hide (show ∀ wq : World, Below w.heap.size wo wq → wq.cell? ⟨be, offe + k * 4 + 3, none⟩ = some (.slice K x.kids.length kc) ∧ wq.cell? ⟨bp, offp + i, none⟩ = some (.slice (some ⟨be, offe, none⟩) e.length cpp) from fun wq hb => ⟨(hb.cell (p := ⟨be, offe + k * 4 + 3, none⟩) hbe).trans x3, (hb.cell (p := ⟨bp, offp + i, none⟩) hbp).trans g0⟩)
          have HKD := hide hKd
          have hx300 := hxk
          have hB5 : Blk (wo.alloc (Obj.cells #[.int .i64 x.op, .int .i64 x.n, .string x.name, .slice none 0 0] 53)) wo.heap.size 53 #[.int .i64 x.op, .int .i64 x.n, .string x.name, .slice none 0 0] := Blk.new _ _ _
          have hb5 : Below wo.heap.size wo (wo.alloc (Obj.cells #[.int .i64 x.op, .int .i64 x.n, .string x.name, .slice none 0 0] 53)) := (Below.refl _ _).alloc (Nat.le_refl _) _
          have hnf : (wo.alloc (Obj.cells #[.int .i64 x.op, .int .i64 x.n, .string x.name, .slice K x.kids.length kc] 53)).frozen? ⟨wo.heap.size, 3, none⟩ = false := (Blk.new _ _ _).frozen 3
          clear hKd hxk hbo
          go_upto_region 12 with (fail)
          generalize wo.alloc (Obj.cells #[.int .i64 x.op, .int .i64 x.n, .string x.name, .slice none 0 0] 53) = w5 at hB5 hb5 ⊢
          have HB5 := hide hB5
          have HW5 := hide hb5
          clear hB5 hb5 hnf x0 x1 x2 x3 g0
          go_wp2
          go_loopw [11] (fun t11 wq => ∃ (j : Nat) (A8 : Option Addr) (c8 : Nat), j ≤ x.kids.length ∧ t11 = .int .i64 j ∧ Blk wq wo.heap.size 53 #[.int .i64 x.op, .int .i64 x.n, .string x.name, .slice A8 j c8] ∧ Own wq (wo.heap.size + 1) 3 1 A8 j c8 (ints ((x.kids.take j).map fun z => wrap64 (z + (cur.length : Int)))) ∧ Below wo.heap.size wo wq) (fun t11 _ => x.kids.length - (intOf t11).toNat)
          case atStart => exact ⟨0, none, 0, Nat.zero_le _, rfl, HB5.out, Own.nil _ _ _ _, HW5.out⟩
          case round =>
            clear HB5 HW5
            obtain ⟨j, A8, c8, hj, rfl, hblk, hown, hbq⟩ := hrel
            obtain ⟨y3, yp⟩ := HX3.out wr (hbq.mono HBO.out.size)
            by_cases hjl : j < x.kids.length
            · obtain ⟨bk, offk, rfl, hbk, g1⟩ := HKD.out.at_ hjl
              have g1' : wr.cell? ⟨bk, offk + j, none⟩ = some (.int .i64 (nth x.kids j)) := (hbq.cell (p := ⟨bk, offk + j, none⟩) (by show bk < _; have := HBO.out.size; omega)).trans g1
              have HKS : Hid ((x.kids.take (j + 1)).map (fun z => wrap64 (z + (cur.length : Int))) = (x.kids.take j).map (fun z => wrap64 (z + (cur.length : Int))) ++ [wrap64 (nth x.kids j + (cur.length : Int))]) := hide (by rw [nth_take hjl, List.map_append]; rfl)
              generalize nth x.kids j = z at g1' HKS
              obtain ⟨zz, hzz⟩ : ∃ zz, zz = wrap64 (z + (cur.length : Int)) := ⟨_, rfl⟩
              rw [← hzz] at HKS
              have hwz : IntKind.i64.wrap (z + (cur.length : Int)) = zz := by rw [IntWalk.i64_left, hzz]
              have hq3 : wr.cell? ⟨wo.heap.size, 3, none⟩ = some (.slice A8 j c8) := hblk.cell 3
              have hqf := hblk.frozen 3
              have hql := hblk.lt
              have HBK := hide hblk
              have HOW := hide hown
              have HBQ := hide hbq
              have hmx : j + 1 ≤ maxLen := by unfold maxLen; omega
              have RR : Hid (Reads (wr.alloc (Obj.cells #[.int .i64 zz] 3)).drew (wr.heap.size + 1) 1 (some ⟨wr.heap.size, 0, none⟩) 1 [.int .i64 zz]) := hide (reads_new wr _ 3 1 1 rfl)
              have HOWA : Hid (Own (wr.alloc (Obj.cells #[.int .i64 zz] 3)).drew (wo.heap.size + 1) 3 1 A8 j c8 (ints ((x.kids.take j).map fun z => wrap64 (z + (cur.length : Int))))) := hide ((HOW.out.alloc _).below (Below.drew (Below.refl _ _)))
              have HBA : Hid (Below wr.heap.size wr (wr.alloc (Obj.cells #[.int .i64 zz] 3)).drew) := hide (((Below.refl _ _).alloc (Nat.le_refl _) _).drew)
              have FIN : Hid (∀ (A9 : Option Addr) (c9 : Nat) (w7 : World), Own w7 (wo.heap.size + 1) 3 1 A9 (j + 1) c9 (ints ((x.kids.take j).map fun z => wrap64 (z + (cur.length : Int))) ++ [.int .i64 zz]) → Below (wo.heap.size + 1) (wr.alloc (Obj.cells #[.int .i64 zz] 3)).drew w7 →
                  Blk w7 wo.heap.size 53 #[.int .i64 x.op, .int .i64 x.n, .string x.name, .slice A8 j c8] ∧ (Blk (w7.setCell ⟨wo.heap.size, 3, none⟩ (.slice A9 (j + 1) c9)) wo.heap.size 53 #[.int .i64 x.op, .int .i64 x.n, .string x.name, .slice A9 (j + 1) c9] ∧
                  Own (w7.setCell ⟨wo.heap.size, 3, none⟩ (.slice A9 (j + 1) c9)) (wo.heap.size + 1) 3 1 A9 (j + 1) c9 (ints ((x.kids.take (j + 1)).map fun z => wrap64 (z + (cur.length : Int)))) ∧ Below wo.heap.size wo (w7.setCell ⟨wo.heap.size, 3, none⟩ (.slice A9 (j + 1) c9)))) := hide (fun A9 c9 w7 h1 h2 => by
                have b7 : Blk w7 wo.heap.size 53 #[.int .i64 x.op, .int .i64 x.n, .string x.name, .slice A8 j c8] := ((HBK.out.below HBA.out HBK.out.lt).below h2 (Nat.lt_succ_self _))
                refine ⟨b7, b7.set_ 3 _, ?_, ?_⟩
                · rw [HKS.out, ints_append]
                  exact h1.keepC (fun g hg _ => Below.heap_setCell w7 ⟨wo.heap.size, 3, none⟩ _ g (by show g ≠ wo.heap.size; omega))
                · exact ((HBQ.out.trans (HBA.out.mono HBQ.out.size)).trans (h2.mono (Nat.le_succ _))).setCell (p := ⟨wo.heap.size, 3, none⟩) (Nat.le_refl _) _)
              have hqs : wo.heap.size + 1 ≤ (wr.alloc (Obj.cells #[.int .i64 zz] 3)).drew.heap.size := by
                show wo.heap.size + 1 ≤ (wr.alloc (Obj.cells #[.int .i64 zz] 3)).heap.size
                rw [World.size_alloc]
                omega
              have HQS := hide hqs
              clear g1 HKS hqs hzz
              go_upto_region 15 with (fail)
              go_region_law ((refine step_app (by rfl) _ _ _ (by rfl) (wo.heap.size + 1) 3 (.int .i64 0) 1 8 Tryd.underlying30 int_info rfl (by omega) A8 j c8 (ints ((x.kids.take j).map fun z => wrap64 (z + (cur.length : Int)))) (by rfl) (by exact HOWA.out) _ _ 1 _ _ (by rfl) (by exact RR.out) (by simp [Value.oneCell']) hmx (by omega) HQS.out ?_; intro A9 c9 w7 hown7 hb7; have FF := hide (FIN.out A9 c9 w7 hown7 hb7); clear hown7 hb7; have q7 := FF.out.1.cell 3; have f7 := FF.out.1.frozen 3))
              all_goals (have RES := hide FF.out.2; clear FF q7 f7; generalize w7.setCell ⟨wo.heap.size, 3, none⟩ (.slice A9 (j + 1) c9) = w8 at RES ⊢)
              all_goals
                go_wp2
                go_roundw
                case rel => exact ⟨j + 1, A9, c9, by omega, by go_num, RES.out.1, RES.out.2.1, RES.out.2.2⟩
                case measure => simp [intOf]; omega
            · obtain rfl : j = x.kids.length := by omega
              have HKX : Hid ((shiftB cur.length x).kids = x.kids.map (fun z => wrap64 (z + (cur.length : Int))) ∧ (shiftB cur.length x).kids.length = x.kids.length ∧ (shiftB cur.length x).op = x.op ∧ (shiftB cur.length x).n = x.n ∧ (shiftB cur.length x).name = x.name) := ⟨rfl, by simp [shiftB], rfl, rfl, rfl⟩
              rw [List.take_length, ← HKX.out.1] at hown
              obtain ⟨s1, s2, s3, s4, s5⟩ := HKX.out
              generalize shiftB cur.length x = y at hown s1 s2 s3 s4 s5 HTX
              rw [← s2, ← s3, ← s4, ← s5] at hblk
              rw [← s2] at hown
              have q0 : wr.cell? ⟨wo.heap.size, 0, none⟩ = some (.int .i64 y.op) := hblk.cell 0
              have q1 : wr.cell? ⟨wo.heap.size, 1, none⟩ = some (.int .i64 y.n) := hblk.cell 1
              have q2 : wr.cell? ⟨wo.heap.size, 2, none⟩ = some (.string y.name) := hblk.cell 2
              have q3 : wr.cell? ⟨wo.heap.size, 3, none⟩ = some (.slice A8 y.kids.length c8) := hblk.cell 3
              obtain ⟨ks, m1, m2, m3⟩ := HAB.out.nod
              have RR : Hid (Reads (wr.alloc (Obj.cells #[.int .i64 y.op, .int .i64 y.n, .string y.name, .slice A8 y.kids.length c8] 53)) (wr.heap.size + 1) 4 (some ⟨wr.heap.size, 0, none⟩) 1 [.int .i64 y.op, .int .i64 y.n, .string y.name, .slice A8 y.kids.length c8]) := hide (reads_new wr _ 53 4 1 rfl)
              have HBA : Hid (Below wo.heap.size wo (wr.alloc (Obj.cells #[.int .i64 y.op, .int .i64 y.n, .string y.name, .slice A8 y.kids.length c8] 53))) := hide (hbq.alloc hbq.size _)
              have HOA := hide (m2.below HBA.out)
              have HKA := hide ((hown.alloc (Obj.cells #[.int .i64 y.op, .int .i64 y.n, .string y.name, .slice A8 y.kids.length c8] 53)).low (Nat.le_succ wo.heap.size))
              have HSN := hide (fun (w7 : World) (A7 : Option Addr) (c7 : Nat) h1 h2 => HAB.out.snoc HBA.out HKA.out m1 m2 m3 (w5 := w7) (A7 := A7) (c7 := c7) h1 h2)
              have hmx : o.length + 1 ≤ maxLen := by have := HOL.out; unfold maxLen; omega
              have hqs : w.heap.size ≤ (wr.alloc (Obj.cells #[.int .i64 y.op, .int .i64 y.n, .string y.name, .slice A8 y.kids.length c8] 53)).heap.size := by
                rw [World.size_alloc]
                have := hbq.size
                have := HBO.out.size
                omega
              rw [s2] at q3
              have hd5 : decide (x.kids.length < x.kids.length) = false := decide_eq_false (by omega)
              rw [← s2] at hd5
              clear m1 m2 m3 hbq hown
              have hby : (o.length + 1) * 56 ≤ 140737488355328 := by have := HOL.out; omega
              rw [s2] at RR HBA HOA HKA hqs hd5 HSN
              have HS2 := hide s2
              clear s1 s2 s3 s4 s5 hblk
              go_upto_region 16 with (fail)
              go_wp2_with (at_builtin; refine wpList_appK rfl (.tmp 68) (.tmp 70) 23 rfl w.heap.size 53 (.agg #[.int .i64 0, .int .i64 0, .string ByteArray.empty, .slice none 0 0]) 4 56 Tryd.underlying23 nod_info rfl (by omega) A5 o.length c5 (cellsN o ks) rfl HOA.out _ _ 1 _ _ rfl RR.out (by simp [Value.oneCell']) hmx hby hqs ?_; intro A7 c7 w7 hown7 hg7 _; have HSS := hide (HSN.out w7 A7 c7 hown7 hg7); clear hown7 hg7)
              go_roundw
              case rel => exact ⟨k + 1, A7, c7, _, by omega, by go_num, by rw [HTX.out, List.length_append]; rfl, by rw [HTX.out]; exact HSS.out⟩
              case measure => simp [intOf]; omega
        · obtain rfl : k = e.length := by omega
          rw [List.take_length, ← HCAT.out] at hab
          rw [List.take_length, ← HCAT.out] at HOL ⊢
          clear HAB
          have HAB := hide hab
          have hd5 : decide (e.length < e.length) = false := decide_eq_false (by omega)
          obtain ⟨o, ho⟩ : ∃ o, o = catL (es.take (i + 1)) := ⟨_, rfl⟩
          have HO := hide ho
          rw [← ho] at HAB HRN HOL hab ⊢
          clear ho
          have HBW := hide hab.bel
          have HRO := hide hab.rot
          have ho2 : o.length ≤ 10000 := by have := HOL.out; omega
          have hrl2 : rts.length ≤ 100 := by have := HRL0.out; omega
          clear hab
          have RR : Hid (Reads (wr.alloc (Obj.cells #[.int .i64 ((o.length : Int) - 1)] 3)) (wr.heap.size + 1) 1 (some ⟨wr.heap.size, 0, none⟩) 1 (ints [(o.length : Int) - 1])) := hide (reads_new wr _ 3 1 1 rfl)
          have HBA : Hid (Below wr.heap.size wr (wr.alloc (Obj.cells #[.int .i64 ((o.length : Int) - 1)] 3))) := hide ((Below.refl _ _).alloc (Nat.le_refl _) _)
          have HRA := hide (HRO.out.below HBA.out)
          have hmx : rts.length + 1 ≤ maxLen := by unfold maxLen; omega
          have hby : (rts.length + 1) * 8 ≤ 140737488355328 := by omega
          have hqs : w.heap.size ≤ (wr.alloc (Obj.cells #[.int .i64 ((o.length : Int) - 1)] 3)).heap.size := by
            rw [World.size_alloc]
            have := HBW.out.size
            omega
          have HRT := hide (fun (w7 : World) (A7 : Option Addr) (c7 : Nat) h1 h2 h3 => HAB.out.root HBA.out (r := (o.length : Int) - 1) (w5 := w7) (A7 := A7) (c7 := c7) h1 h2 h3)
          have HRL : Hid ((rootsOf es (i + 1)).length = rts.length + 1) := hide (by rw [rootsOf_len, HRL0.out])
          go_wp2_with (at_builtin; refine wpList_appK rfl (.tmp 72) (.tmp 76) 30 rfl w.heap.size 3 (.int .i64 0) 1 8 Tryd.underlying30 int_info rfl (by omega) A6 rts.length c6 (ints rts) rfl HRA.out _ _ 1 _ _ rfl RR.out (ints_oneCell _) hmx hby hqs ?_; intro A7 c7 w7 hown7 hg7 hat7; have HSS := hide (HRT.out w7 A7 c7 hown7 hg7 hat7); clear hown7 hg7 hat7)
          go_roundw
          case rel => exact ⟨i + 1, A5, c5, A7, c7, F, by omega, by go_num, by rw [← HO.out], by rw [HRL.out], by rw [HRN.out, ← HO.out]; exact HSS.out⟩
          case measure => simp [intOf]; omega
    · obtain rfl : i = np := by omega
      have hd5 : decide (i < i) = false := decide_eq_false (by omega)
      have HRL0 := hide (rootsOf_len es i)
      have HAL : Hid (aboveL op es = catL (es.take i) ++ [⟨op, 0, ByteArray.empty, rootsOf es i⟩]) := hide (by
        have hle : es.length = i := by rw [HES.out, List.length_map]; exact HPL.out
        unfold aboveL
        rw [← hle, List.take_length])
      have hcl : (catL (es.take i)).length ≤ 10000 := Nat.le_trans (catL_le es i) HSUM.out
      generalize catL (es.take i) = o at HAB HAL hcl ⊢
      generalize rootsOf es i = rts at HAB HAL HRL0 ⊢
      have HBW := hide HAB.out.bel
      obtain ⟨ks, m1, m2, m3⟩ := HAB.out.nod
      have HRO := hide HAB.out.rot
      have RR : Hid (Reads (wr.alloc (Obj.cells #[.int .i64 op, .int .i64 0, .string ByteArray.empty, .slice A6 rts.length c6] 53)) (wr.heap.size + 1) 4 (some ⟨wr.heap.size, 0, none⟩) 1 [.int .i64 op, .int .i64 0, .string ByteArray.empty, .slice A6 rts.length c6]) := hide (reads_new wr _ 53 4 1 rfl)
      have HBA : Hid (Below wr.heap.size wr (wr.alloc (Obj.cells #[.int .i64 op, .int .i64 0, .string ByteArray.empty, .slice A6 rts.length c6] 53))) := hide ((Below.refl _ _).alloc (Nat.le_refl _) _)
      have HOA := hide (m2.below HBA.out)
      have hmx : o.length + 1 ≤ maxLen := by unfold maxLen; omega
      have hby : (o.length + 1) * 56 ≤ 140737488355328 := by omega
      have hqs : w.heap.size ≤ (wr.alloc (Obj.cells #[.int .i64 op, .int .i64 0, .string ByteArray.empty, .slice A6 rts.length c6] 53)).heap.size := by
        rw [World.size_alloc]
        have := HBW.out.size
        omega
      have HFN := hide (fun (w7 : World) (A7 : Option Addr) (c7 : Nat) (h1 : Own w7 w.heap.size 53 4 A7 (o.length + 1) c7 (cellsN o ks ++ [.int .i64 op, .int .i64 0, .string ByteArray.empty, .slice A6 rts.length c6])) (h2 : (wr.alloc (Obj.cells #[.int .i64 op, .int .i64 0, .string ByteArray.empty, .slice A6 rts.length c6] 53)).grownBy w7 (Value.slice A5 o.length c5).ownBlock) =>
        (⟨(NodsOwn.snoc (x := ⟨op, 0, ByteArray.empty, rts⟩) m1 (m2.below HBA.out) (fun i y k hy hk => ⟨(m3 i y k hy hk).1.below HBA.out, (m3 i y k hy hk).2⟩) (HRO.out.below HBA.out) h2 h1).expr, (HBW.out.trans (HBA.out.mono HBW.out.size)).trans ((Below.refl _ _).grown h2 hqs (fun k hk => (World.ownsRow.lt m2 k hk).1))⟩ : ExprAt w7 w7.heap.size A7 (o ++ [⟨op, 0, ByteArray.empty, rts⟩]) ∧ Below w.heap.size w w7))
      clear m1 m2 m3
      go_wp2_with (at_builtin; refine wpList_appK rfl (.tmp 78) (.tmp 82) 23 rfl w.heap.size 53 (.agg #[.int .i64 0, .int .i64 0, .string ByteArray.empty, .slice none 0 0]) 4 56 Tryd.underlying23 nod_info rfl (by omega) A5 o.length c5 (cellsN o ks) rfl HOA.out _ _ 1 _ _ rfl RR.out (by simp [Value.oneCell']) hmx hby hqs ?_; intro A7 c7 w7 hown7 hg7 _; have HSS := hide (HFN.out w7 A7 c7 hown7 hg7); clear hown7 hg7)
      go_ret
      exact ⟨A7, c7, by rw [HAL.out, List.length_append]; rfl, by rw [HAL.out]; exact HSS.out.1, HSS.out.2⟩
end Go.Proofs.YtmelebfpkjnfdaaDoor
