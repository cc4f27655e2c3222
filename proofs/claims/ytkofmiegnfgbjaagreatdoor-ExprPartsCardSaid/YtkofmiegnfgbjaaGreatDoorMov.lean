/-
  The law's moved: nodes with other indices of operands.
-/
import Derived.Test.YtkofmiegnfgbjaaGreatDoorFewB
import Derived.Test.YtkofmiegnfgbjaaGreatDoorExpL
set_option linter.unusedVariables false
set_option linter.unusedSimpArgs false
namespace Go.Proofs.YtkofmiegnfgbjaaGreatDoor
open Go.RowKit Go.Deep Go.Maps

/-- 's = append(s, x..)': with what has become of the row. -/
theorem wpList_appK {P : Program} {w : World} {ops : Array Oper} {rest : List Oper} {o : Oper} {a : Act} {Q : Exit → Act → World → Prop} (hgd : o.guard = none) (s x : Operand) (t : TypeId)
    (ho : o.op = .call { callee := .builtin .append, args := #[s, x], argTypes := #[t, t] })
    (base : Nat) (e : TypeId) (z : Value) (size bytes : Nat) (ht : P.underlying t = some (.slice e)) (hi : (P.info? e).map (fun i => (i.zero, i.size, i.bytes)) = some (some z, size, bytes))
    (hzs : z.cells.size = size) (hsz : 0 < size)
    (A : Option Addr) (n c : Nat) (xs : List Value) (hs : a.eval s = .slice A n c) (hown : Own w base e size A n c xs)
    (B : Nat) (A' : Option Addr) (m c' : Nat) (news : List Value) (hx : a.eval x = .slice A' m c') (hr : Reads w B size A' m news) (h1 : ∀ u ∈ news, u.oneCell' = true)
    (h63 : n + m ≤ maxLen) (hbytes : (n + m) * bytes ≤ 140737488355328) (hbase : base ≤ w.heap.size)
    (h : ∀ A2 c2 w', Own w' base e size A2 (n + m) c2 (xs ++ news) → w.grownBy w' (Value.slice A n c).ownBlock → ((Value.slice A2 (n + m) c2).ownBlock = (Value.slice A n c).ownBlock ∨ (Value.slice A2 (n + m) c2).ownBlock = some w.heap.size) → wpList P ops Q rest (a.put o.dst (.slice A2 (n + m) c2)) w') : wpList P ops Q (o :: rest) a w := by
  obtain ⟨i0, hi0, hz, hz1, hz2⟩ := info_parts hi
  refine wpList_append_any w hgd s x t ho base e i0 z size bytes ht hi0 hz hz1 hz2 hzs hsz _ n xs hs hown B A' m c' news hx hr h1 h63 hbytes hbase (fun v' w' hown' hg hat => ?_)
  have hv : ∃ A2 c2, v' = .slice A2 (n + m) c2 := by
    rcases hown'.2 with ⟨rfl, h0⟩ | ⟨g, cap, cur, rfl, _⟩
    · exact ⟨none, 0, by rw [h0]⟩
    · exact ⟨_, cap, rfl⟩
  obtain ⟨A2, c2, rfl⟩ := hv
  exact h A2 c2 w' hown' hg hat
theorem Own.low {w : World} {base base' : Nat} {e : TypeId} {size : Nat} {A : Option Addr} {n c : Nat} {xs : List Value} (h : Own w base e size A n c xs) (hB : base' ≤ base) : Own w base' e size A n c xs := by
  refine ⟨h.1, ?_⟩
  rcases h.2 with h2 | ⟨g, cap, cur, hv, hgb, hh, r⟩
  · exact Or.inl h2
  · exact Or.inr ⟨g, cap, cur, hv, Nat.le_trans hB hgb, hh, r⟩

/-- Nodes and roots so far. -/
structure AbAt (W w : World) (o : List Nod) (A5 : Option Addr) (c5 : Nat) (rts : List Int) (A6 : Option Addr) (c6 : Nat) (F : Nat → Prop) : Prop where
  nod : NodsOwn w W.heap.size A5 c5 o F
  rot : Own w W.heap.size 3 1 A6 rts.length c6 (ints rts)
  flt : ∀ g, F g → g < w.heap.size
  fne : ∀ g, F g → some g ≠ (Value.slice A6 rts.length c6).ownBlock
  bel : Below W.heap.size W w
section
variable {W w w' w1 w5 : World} {o : List Nod} {A5 : Option Addr} {c5 : Nat} {rts : List Int} {A6 : Option Addr} {c6 : Nat} {F : Nat → Prop}
theorem AbAt.start (W : World) : AbAt W W [] none 0 [] none 0 (fun _ => False) := ⟨NodsOwn.nil, Own.nil _ _ _ _, fun _ h => h.elim, fun _ h => h.elim, Below.refl _ _⟩
theorem AbAt.below (h : AbAt W w o A5 c5 rts A6 c6 F) (hb : Below w.heap.size w w') : AbAt W w' o A5 c5 rts A6 c6 F :=
  ⟨h.nod.below hb, h.rot.below hb, fun g hg => Nat.lt_of_lt_of_le (h.flt g hg) hb.size, h.fne, h.bel.trans (hb.mono h.bel.size)⟩
theorem AbAt.snoc (h : AbAt W w o A5 c5 rts A6 c6 F) (hb1 : Below w.heap.size w w1) {x : Nod} {K : Option Addr} {kc : Nat} (hx : Own w1 w.heap.size 3 1 K x.kids.length kc (ints x.kids))
    {ks : List (Option Addr × Nat)} (h1 : ks.length = o.length) (h2 : Own w W.heap.size 40 4 A5 o.length c5 (cellsN o ks))
    (h3 : ∀ (i : Nat) (x : Nod) (k : Option Addr × Nat), o[i]? = some x → ks[i]? = some k → Own w W.heap.size 3 1 k.1 x.kids.length k.2 (ints x.kids) ∧ ∀ g, (Value.slice k.1 x.kids.length k.2).ownBlock = some g → F g)
    {A7 : Option Addr} {c7 : Nat} (hown : Own w5 W.heap.size 40 4 A7 (o.length + 1) c7 (cellsN o ks ++ [.int .i64 x.op, .int .i64 x.n, .string x.name, .slice K x.kids.length kc]))
    (hg : w1.grownBy w5 (Value.slice A5 o.length c5).ownBlock) : AbAt W w5 (o ++ [x]) A7 c7 rts A6 c6 (fun g => F g ∨ (Value.slice K x.kids.length kc).ownBlock = some g) := by
  have hne : 3 ≠ 40 := by decide
  have hlow := hx.low h.bel.size
  have hb5 : Below W.heap.size w1 w5 := (Below.refl _ _).grown hg (Nat.le_trans h.bel.size hb1.size) (fun k hk => (World.ownsRow.lt h2 k hk).1)
  refine ⟨NodsOwn.snoc h1 (h2.below hb1) (fun i y k hy hk => ⟨(h3 i y k hy hk).1.below hb1, (h3 i y k hy hk).2⟩) hlow hg hown, (h.rot.below hb1).grown_other (h2.below hb1) hne hg, fun g hgg => ?_, fun g hgg => ?_, (h.bel.trans (hb1.mono h.bel.size)).trans hb5⟩
  · rcases hgg with hgg | hgg
    · exact Nat.lt_of_lt_of_le (h.flt g hgg) (Nat.le_trans hb1.size hb5.size)
    · exact Nat.lt_of_lt_of_le (World.ownsRow.lt hx g hgg).2 hb5.size
  · rcases hgg with hgg | hgg
    · exact h.fne g hgg
    · intro e
      have := (World.ownsRow.lt hx g hgg).1
      have := (World.ownsRow.lt h.rot g e.symm).2
      omega
theorem AbAt.root (h : AbAt W w o A5 c5 rts A6 c6 F) (hb1 : Below w.heap.size w w1) {r : Int} {A7 : Option Addr} {c7 : Nat} (hown : Own w5 W.heap.size 3 1 A7 (rts.length + 1) c7 (ints rts ++ ints [r]))
    (hg : w1.grownBy w5 (Value.slice A6 rts.length c6).ownBlock) (hat : (Value.slice A7 (rts.length + 1) c7).ownBlock = (Value.slice A6 rts.length c6).ownBlock ∨ (Value.slice A7 (rts.length + 1) c7).ownBlock = some w1.heap.size) :
    AbAt W w5 o A5 c5 (rts ++ [r]) A7 c7 F := by
  have hne : 40 ≠ 3 := by decide
  have hb5 : Below W.heap.size w1 w5 := (Below.refl _ _).grown hg (Nat.le_trans h.bel.size hb1.size) (fun k hk => (World.ownsRow.lt h.rot k hk).1)
  obtain ⟨ks, h1, h2, h3⟩ := h.nod
  have hl : (rts ++ [r]).length = rts.length + 1 := by simp
  refine ⟨⟨ks, h1, (h2.below hb1).grown_other (h.rot.below hb1) hne hg, fun i y k hy hk => ⟨((h3 i y k hy hk).1.below hb1).keepB (fun g hgk => ?_), (h3 i y k hy hk).2⟩⟩, by rw [hl, ints_append]; exact hown, fun g hgg => ?_, fun g hgg => ?_, (h.bel.trans (hb1.mono h.bel.size)).trans hb5⟩
  · have hF := (h3 i y k hy hk).2 g hgk.symm
    exact hg.block g (Nat.lt_of_lt_of_le (h.flt g hF) hb1.size) (h.fne g hF)
  · exact Nat.lt_of_lt_of_le (h.flt g hgg) (Nat.le_trans hb1.size hb5.size)
  · rw [hl]
    rcases hat with e | e
    · rw [e]
      exact h.fne g hgg
    · rw [e]
      intro e2
      injection e2 with e2
      have := h.flt g hgg
      have := hb1.size
      omega
end


/-- A node with other indices of operands, as the machine adds. -/
def shiftW (d : Int) (x : Nod) : Nod := { x with kids := x.kids.map fun z => wrap64 (z + d) }
set_option maxHeartbeats 8000000 in
set_option maxRecDepth 20000 in
theorem moved_any (A : Option Addr) (c : Nat) (e : List Nod) (d : Int) (w : World) (he : ExprAt w w.heap.size A e) (hl : e.length ≤ 10000) (hkid : ∀ x ∈ e, x.kids.length ≤ 300) :
    Calls Tryz.prog 23 #[.slice A e.length c, .int .i64 d] w fun en w' => ∃ A2 c2 F, en = .returned (.slice A2 e.length c2) ∧ NodsOwn w' w.heap.size A2 c2 (e.map (shiftW d)) F ∧ Below w.heap.size w w' := by
  have HEP := hide he
  have HKP := hide hkid
  clear he hkid
  go_enter Tryz.func23, Tryz.ntmps23
  go_wp2
  go_loopw [5, 6] (fun t5 t6 wr => ∃ (k : Nat) (A5 : Option Addr) (c5 : Nat) (F : Nat → Prop), k ≤ e.length ∧ t6 = .int .i64 k ∧ t5 = .slice A5 ((e.take k).map (shiftW d)).length c5 ∧ AbAt w wr ((e.take k).map (shiftW d)) A5 c5 [] none 0 F) (fun _ t6 _ => e.length - (intOf t6).toNat)
  case atStart => exact ⟨0, none, 0, fun _ => False, Nat.zero_le _, rfl, rfl, AbAt.start w⟩
  case round =>
    obtain ⟨k, A5, c5, F, hk, rfl, rfl, hab⟩ := hrel
    have HAB := hide hab
    have HOL : Hid (((e.take k).map (shiftW d)).length = k) := hide (by simp [List.length_take]; omega)
    by_cases hkl : k < e.length
    · obtain ⟨be, offe, K, kc, rfl, hbe, x0, x1, x2, x3, hKd⟩ := (HEP.out.below hab.bel).at_ hkl
      have hxk := HKP.out (nodAt e k) (List.mem_of_getElem? (nodAt_get hkl))
      have HTX : Hid ((e.take (k + 1)).map (shiftW d) = (e.take k).map (shiftW d) ++ [shiftW d (nodAt e k)]) := hide (by rw [nod_take hkl, List.map_append]; rfl)
      clear hab
      generalize nodAt e k = x at x0 x1 x2 x3 hKd hxk HTX
      generalize (e.take k).map (shiftW d) = o at HAB HTX HOL ⊢
      obtain ⟨wo, hwo⟩ : ∃ wo : World, wo = wr := ⟨_, rfl⟩
      subst hwo
      have hbo := HAB.out.bel
      have HBO := hide hbo
      have HX3 := hide (show ∀ wq : World, Below w.heap.size wo wq → wq.cell? ⟨be, offe + k * 4 + 3, none⟩ = some (.slice K x.kids.length kc) from fun wq hb => (hb.cell (p := ⟨be, offe + k * 4 + 3, none⟩) hbe).trans x3)
      have HKD := hide hKd
      have hx300 := hxk
      have hB5 : Blk (wo.alloc (Obj.cells #[.int .i64 x.op, .int .i64 x.n, .string x.name, .slice none 0 0] 40)) wo.heap.size 40 #[.int .i64 x.op, .int .i64 x.n, .string x.name, .slice none 0 0] := Blk.new _ _ _
      have hb5 : Below wo.heap.size wo (wo.alloc (Obj.cells #[.int .i64 x.op, .int .i64 x.n, .string x.name, .slice none 0 0] 40)) := (Below.refl _ _).alloc (Nat.le_refl _) _
      have hnf : (wo.alloc (Obj.cells #[.int .i64 x.op, .int .i64 x.n, .string x.name, .slice K x.kids.length kc] 40)).frozen? ⟨wo.heap.size, 3, none⟩ = false := (Blk.new _ _ _).frozen 3
      clear hKd hxk hbo
      go_upto_region 7 with (fail)
      generalize wo.alloc (Obj.cells #[.int .i64 x.op, .int .i64 x.n, .string x.name, .slice none 0 0] 40) = w5 at hB5 hb5 ⊢
      have HB5 := hide hB5
      have HW5 := hide hb5
      clear hB5 hb5 hnf x0 x1 x2 x3
      go_wp2
      go_loopw [8] (fun t8 wq => ∃ (j : Nat) (A8 : Option Addr) (c8 : Nat), j ≤ x.kids.length ∧ t8 = .int .i64 j ∧ Blk wq wo.heap.size 40 #[.int .i64 x.op, .int .i64 x.n, .string x.name, .slice A8 j c8] ∧ Own wq (wo.heap.size + 1) 3 1 A8 j c8 (ints ((x.kids.take j).map fun z => wrap64 (z + d))) ∧ Below wo.heap.size wo wq) (fun t8 _ => x.kids.length - (intOf t8).toNat)
      case atStart => exact ⟨0, none, 0, Nat.zero_le _, rfl, HB5.out, Own.nil _ _ _ _, HW5.out⟩
      case round =>
        clear HB5 HW5
        obtain ⟨j, A8, c8, hj, rfl, hblk, hown, hbq⟩ := hrel
        have y3 := HX3.out wr (hbq.mono HBO.out.size)
        by_cases hjl : j < x.kids.length
        · obtain ⟨bk, offk, rfl, hbk, g1⟩ := HKD.out.at_ hjl
          have g1' : wr.cell? ⟨bk, offk + j, none⟩ = some (.int .i64 (nth x.kids j)) := (hbq.cell (p := ⟨bk, offk + j, none⟩) (by show bk < _; have := HBO.out.size; omega)).trans g1
          have HKS : Hid ((x.kids.take (j + 1)).map (fun z => wrap64 (z + d)) = (x.kids.take j).map (fun z => wrap64 (z + d)) ++ [wrap64 (nth x.kids j + d)]) := hide (by rw [nth_take hjl, List.map_append]; rfl)
          generalize nth x.kids j = z at g1' HKS
          obtain ⟨zz, hzz⟩ : ∃ zz, zz = wrap64 (z + d) := ⟨_, rfl⟩
          rw [← hzz] at HKS
          have hwz : IntKind.i64.wrap (z + d) = zz := by rw [IntWalk.i64_left, hzz]
          have hq3 : wr.cell? ⟨wo.heap.size, 3, none⟩ = some (.slice A8 j c8) := hblk.cell 3
          have hqf := hblk.frozen 3
          have hql := hblk.lt
          have HBK := hide hblk
          have HOW := hide hown
          have HBQ := hide hbq
          have hmx : j + 1 ≤ maxLen := by unfold maxLen; omega
          have RR : Hid (Reads (wr.alloc (Obj.cells #[.int .i64 zz] 3)).drew (wr.heap.size + 1) 1 (some ⟨wr.heap.size, 0, none⟩) 1 [.int .i64 zz]) := hide (reads_new wr _ 3 1 1 rfl)
          have HOWA : Hid (Own (wr.alloc (Obj.cells #[.int .i64 zz] 3)).drew (wo.heap.size + 1) 3 1 A8 j c8 (ints ((x.kids.take j).map fun z => wrap64 (z + d)))) := hide ((HOW.out.alloc _).below (Below.drew (Below.refl _ _)))
          have HBA : Hid (Below wr.heap.size wr (wr.alloc (Obj.cells #[.int .i64 zz] 3)).drew) := hide (((Below.refl _ _).alloc (Nat.le_refl _) _).drew)
          have FIN : Hid (∀ (A9 : Option Addr) (c9 : Nat) (w7 : World), Own w7 (wo.heap.size + 1) 3 1 A9 (j + 1) c9 (ints ((x.kids.take j).map fun z => wrap64 (z + d)) ++ [.int .i64 zz]) → Below (wo.heap.size + 1) (wr.alloc (Obj.cells #[.int .i64 zz] 3)).drew w7 →
              Blk w7 wo.heap.size 40 #[.int .i64 x.op, .int .i64 x.n, .string x.name, .slice A8 j c8] ∧ (Blk (w7.setCell ⟨wo.heap.size, 3, none⟩ (.slice A9 (j + 1) c9)) wo.heap.size 40 #[.int .i64 x.op, .int .i64 x.n, .string x.name, .slice A9 (j + 1) c9] ∧
              Own (w7.setCell ⟨wo.heap.size, 3, none⟩ (.slice A9 (j + 1) c9)) (wo.heap.size + 1) 3 1 A9 (j + 1) c9 (ints ((x.kids.take (j + 1)).map fun z => wrap64 (z + d))) ∧ Below wo.heap.size wo (w7.setCell ⟨wo.heap.size, 3, none⟩ (.slice A9 (j + 1) c9)))) := hide (fun A9 c9 w7 h1 h2 => by
            have b7 : Blk w7 wo.heap.size 40 #[.int .i64 x.op, .int .i64 x.n, .string x.name, .slice A8 j c8] := ((HBK.out.below HBA.out HBK.out.lt).below h2 (Nat.lt_succ_self _))
            refine ⟨b7, b7.set_ 3 _, ?_, ?_⟩
            · rw [HKS.out, ints_append]
              exact h1.keepC (fun g hg _ => Below.heap_setCell w7 ⟨wo.heap.size, 3, none⟩ _ g (by show g ≠ wo.heap.size; omega))
            · exact ((HBQ.out.trans (HBA.out.mono HBQ.out.size)).trans (h2.mono (Nat.le_succ _))).setCell (p := ⟨wo.heap.size, 3, none⟩) (Nat.le_refl _) _)
          have hqs : wo.heap.size + 1 ≤ (wr.alloc (Obj.cells #[.int .i64 zz] 3)).drew.heap.size := by
            show wo.heap.size + 1 ≤ (wr.alloc (Obj.cells #[.int .i64 zz] 3)).heap.size
            rw [World.size_alloc]
            omega
          have HQS := hide hqs
          clear g1 HKS hqs hzz
          go_upto_region 10 with (fail)
          go_region_law ((refine step_app (by rfl) _ _ _ (by rfl) (wo.heap.size + 1) 3 (.int .i64 0) 1 8 Tryz.underlying38 int_info rfl (by omega) A8 j c8 (ints ((x.kids.take j).map fun z => wrap64 (z + d))) (by rfl) (by exact HOWA.out) _ _ 1 _ _ (by rfl) (by exact RR.out) (by simp [Value.oneCell']) hmx (by omega) HQS.out ?_; intro A9 c9 w7 hown7 hb7; have FF := hide (FIN.out A9 c9 w7 hown7 hb7); clear hown7 hb7; have q7 := FF.out.1.cell 3; have f7 := FF.out.1.frozen 3))
          all_goals (have RES := hide FF.out.2; clear FF q7 f7; generalize w7.setCell ⟨wo.heap.size, 3, none⟩ (.slice A9 (j + 1) c9) = w8 at RES ⊢)
          all_goals
            go_wp2
            go_roundw
            case rel => exact ⟨j + 1, A9, c9, by omega, by go_num, RES.out.1, RES.out.2.1, RES.out.2.2⟩
            case measure => simp [intOf]; omega
        · obtain rfl : j = x.kids.length := by omega
          have HKX : Hid ((shiftW d x).kids = x.kids.map (fun z => wrap64 (z + d)) ∧ (shiftW d x).kids.length = x.kids.length ∧ (shiftW d x).op = x.op ∧ (shiftW d x).n = x.n ∧ (shiftW d x).name = x.name) := ⟨rfl, by simp [shiftW], rfl, rfl, rfl⟩
          rw [List.take_length, ← HKX.out.1] at hown
          obtain ⟨s1, s2, s3, s4, s5⟩ := HKX.out
          generalize shiftW d x = y at hown s1 s2 s3 s4 s5 HTX
          rw [← s2, ← s3, ← s4, ← s5] at hblk
          rw [← s2] at hown
          have q0 : wr.cell? ⟨wo.heap.size, 0, none⟩ = some (.int .i64 y.op) := hblk.cell 0
          have q1 : wr.cell? ⟨wo.heap.size, 1, none⟩ = some (.int .i64 y.n) := hblk.cell 1
          have q2 : wr.cell? ⟨wo.heap.size, 2, none⟩ = some (.string y.name) := hblk.cell 2
          have q3 : wr.cell? ⟨wo.heap.size, 3, none⟩ = some (.slice A8 y.kids.length c8) := hblk.cell 3
          obtain ⟨ks, m1, m2, m3⟩ := HAB.out.nod
          have RR : Hid (Reads (wr.alloc (Obj.cells #[.int .i64 y.op, .int .i64 y.n, .string y.name, .slice A8 y.kids.length c8] 40)) (wr.heap.size + 1) 4 (some ⟨wr.heap.size, 0, none⟩) 1 [.int .i64 y.op, .int .i64 y.n, .string y.name, .slice A8 y.kids.length c8]) := hide (reads_new wr _ 40 4 1 rfl)
          have HBA : Hid (Below wo.heap.size wo (wr.alloc (Obj.cells #[.int .i64 y.op, .int .i64 y.n, .string y.name, .slice A8 y.kids.length c8] 40))) := hide (hbq.alloc hbq.size _)
          have HOA := hide (m2.below HBA.out)
          have HKA := hide ((hown.alloc (Obj.cells #[.int .i64 y.op, .int .i64 y.n, .string y.name, .slice A8 y.kids.length c8] 40)).low (Nat.le_succ wo.heap.size))
          have HSN := hide (fun (w7 : World) (A7 : Option Addr) (c7 : Nat) h1 h2 => HAB.out.snoc HBA.out HKA.out m1 m2 m3 (w5 := w7) (A7 := A7) (c7 := c7) h1 h2)
          have hmx : o.length + 1 ≤ maxLen := by have := HOL.out; unfold maxLen; omega
          have hqs : w.heap.size ≤ (wr.alloc (Obj.cells #[.int .i64 y.op, .int .i64 y.n, .string y.name, .slice A8 y.kids.length c8] 40)).heap.size := by
            rw [World.size_alloc]
            have := hbq.size
            have := HBO.out.size
            omega
          rw [s2] at q3
          have hd5 : decide (x.kids.length < x.kids.length) = false := decide_eq_false (by omega)
          rw [← s2] at hd5
          clear m1 m2 m3 hbq hown
          have hby : (o.length + 1) * 56 ≤ 140737488355328 := by have := HOL.out; omega
          rw [s2] at RR HBA HOA HKA hqs hd5 HSN
          have HS2 := hide s2
          clear s1 s2 s3 s4 s5 hblk
          go_upto_region 11 with (fail)
          go_wp2_with (at_builtin; refine wpList_appK rfl (.tmp 45) (.tmp 47) 23 rfl w.heap.size 40 (.agg #[.int .i64 0, .int .i64 0, .string ByteArray.empty, .slice none 0 0]) 4 56 Tryz.underlying23 nod_info rfl (by omega) A5 o.length c5 (cellsN o ks) rfl HOA.out _ _ 1 _ _ rfl RR.out (by simp [Value.oneCell']) hmx hby hqs ?_; intro A7 c7 w7 hown7 hg7 _; have HSS := hide (HSN.out w7 A7 c7 hown7 hg7); clear hown7 hg7)
          go_roundw
          case rel => exact ⟨k + 1, A7, c7, _, by omega, by go_num, by rw [HTX.out, List.length_append]; rfl, by rw [HTX.out]; exact HSS.out⟩
          case measure => simp [intOf]; omega
    · obtain rfl : k = e.length := by omega
      rw [List.take_length] at HAB HOL ⊢
      have HBW := hide HAB.out.bel
      have HEX := hide HAB.out.nod
      have HOL2 : Hid ((e.map (shiftW d)).length = e.length) := hide (by simp)
      have hd5 : decide (e.length < e.length) = false := decide_eq_false (by omega)
      go_wp2
      go_ret
      exact ⟨A5, c5, F, by simp, HEX.out, HBW.out⟩
end Go.Proofs.YtkofmiegnfgbjaaGreatDoor
