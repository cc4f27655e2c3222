/-
  Chapter 54: a network, and a row of the law's own beside it.
-/
import Derived.Test.YtnoihbbfodkejaaHead2
import Derived.Test.YtnoihbbfodkejaaLiftS
import Derived.Test.YtnoihbbfodkejaaPlain
namespace Go.Proofs.Ytnoihbbfodkejaa
open Go.RowKit Go.Maps

/-- A network in F at p, and a row '.slice A n c' beside it, all of it made behind W. -/
structure Pair (W : World) (p m : Nat) (s : NS) (F : Nat → Prop) (e size : Nat) (A : Option Addr) (n c : Nat) (xs : List Value) (w : World) : Prop where
  own : Own w W.heap.size e size A n c xs
  net : NetAt w p m s F
  low : ∀ k, F k → W.heap.size ≤ k
  far : ∀ g, (Value.slice A n c).ownBlock = some g → ¬ F g
  bel : Below W.heap.size W w
section
variable {W w w' : World} {p m m' : Nat} {s s' : NS} {F F' : Nat → Prop} {e size : Nat} {A : Option Addr} {n c : Nat} {xs : List Value}
theorem Pair.step (h : Pair W p m s F e size A n c xs w) (hn : NetAt w' p m' s' F') (hg : NetGo F F' w w') : Pair W p m' s' F' e size A n c xs w' := by
  obtain ⟨hb, hl⟩ := hg.below h.bel.size h.low
  refine ⟨Own.kept h.own (fun g hv => hg.moved.block g (World.ownsRow.lt h.own g hv).2 (h.far g hv)), hn, hl, fun g hv hf => ?_, h.bel.trans hb⟩
  rcases hg.grow g hf with h1 | h1
  · exact h.far g hv h1
  · have := (World.ownsRow.lt h.own g hv).2
    omega
theorem Pair.mono (h : Pair W p m s F e size A n c xs w) (hm : m ≤ m') : Pair W p m' s F e size A n c xs w := ⟨h.own, h.net.mono hm, h.low, h.far, h.bel⟩
theorem Pair.below (h : Pair W p m s F e size A n c xs w) (hb : Below w.heap.size w w') : Pair W p m s F e size A n c xs w' :=
  ⟨Own.below h.own hb, h.net.below hb, h.low, h.far, h.bel.trans (hb.mono h.bel.size)⟩
theorem Pair.drewN (h : Pair W p m s F e size A n c xs w) (k : Nat) : Pair W p m s F e size A n c xs (w.drewN k) := h.below (drewN_below _ _ _)
theorem Pair.grow (h : Pair W p m s F e size A n c xs w) {A2 : Option Addr} {n2 c2 : Nat} {xs2 : List Value} (ho : Own w' W.heap.size e size A2 n2 c2 xs2)
    (hg : w.grownBy w' (Value.slice A n c).ownBlock) (hat : (Value.slice A2 n2 c2).ownBlock = (Value.slice A n c).ownBlock ∨ (Value.slice A2 n2 c2).ownBlock = some w.heap.size) : Pair W p m s F e size A2 n2 c2 xs2 w' := by
  have hm : Moved (fun k => (Value.slice A n c).ownBlock = some k) w w' := Moved.of_grown hg (fun g hv => hv)
  refine ⟨ho, h.net.moved hm (fun k hk hv => h.far k hv hk), h.low, fun g hv hf => ?_, h.bel.trans (hm.below h.bel.size (fun k hk => (World.ownsRow.lt h.own k hk).1))⟩
  rcases hat with h1 | h1
  · rw [h1] at hv; exact h.far g hv hf
  · rw [h1] at hv
    injection hv with hv
    have := h.net.lt g hf
    omega
theorem Pair.start (hn : NetAt w p m s F) (hl : ∀ k, F k → W.heap.size ≤ k) (hb : Below W.heap.size W w) (e size : Nat) : Pair W p m s F e size none 0 0 [] w :=
  ⟨Own.nil _ _ _ _, hn, hl, (fun g hv => by cases hv), hb⟩
end

/-- 's = append(s, x..)' beside a network, where the operation is wanted. -/
theorem wpList_app_pairG {P : Program} {w : World} {ops : Array Oper} {rest : List Oper} {o : Oper} {a : Act} {Q : Exit → Act → World → Prop} (hw : Region.wanted o (yielded ops a.tmps) = true) (s x : Operand) (t : TypeId)
    (ho : o.op = .call { callee := .builtin .append, args := #[s, x], argTypes := #[t, t] })
    (z : Value) (bytes : Nat) {W : World} {p mm : Nat} {sn : NS} {F : Nat → Prop} {e size : Nat} {A : Option Addr} {n c : Nat} {xs : List Value}
    (ht : P.underlying t = some (.slice e)) (hi : (P.info? e).map (fun i => (i.zero, i.size, i.bytes)) = some (some z, size, bytes))
    (hzs : z.cells.size = size) (hsz : 0 < size)
    (hs : a.eval s = .slice A n c) (hp : Pair W p mm sn F e size A n c xs w)
    (B : Nat) (A' : Option Addr) (m c' : Nat) (news : List Value) (hx : a.eval x = .slice A' m c') (hr : Reads w B size A' m news) (h1 : ∀ u ∈ news, u.oneCell' = true)
    (h63 : n + m ≤ maxLen) (hbytes : (n + m) * bytes ≤ 140737488355328)
    (h : ∀ A2 c2 w', Pair W p mm sn F e size A2 (n + m) c2 (xs ++ news) w' → Below W.heap.size w w' → wpList P ops Q rest (a.put o.dst (.slice A2 (n + m) c2)) w') : wpList P ops Q (o :: rest) a w := by
  obtain ⟨i0, hi0, hz, hz1, hz2⟩ := info_parts hi
  refine wpList_step fun K hK => ?_
  rw [if_pos hw]
  refine wp_append_any w s x t ho W.heap.size e i0 z size bytes ht hi0 hz hz1 hz2 hzs hsz _ n xs hs hp.own B A' m c' news hx hr h1 h63 hbytes hp.bel.size (fun v' w' hown' hg hat => hK _ _ ?_)
  have hv : ∃ A2 c2, v' = .slice A2 (n + m) c2 := by
    rcases hown'.2 with ⟨rfl, h0⟩ | ⟨g, cap, cur, rfl, _⟩
    · exact ⟨none, 0, by rw [h0]⟩
    · exact ⟨_, cap, rfl⟩
  obtain ⟨A2, c2, rfl⟩ := hv
  have hbel : Below W.heap.size w w' := (Below.refl _ _).grown hg hp.bel.size (fun k hk => (World.ownsRow.lt hp.own k hk).1)
  exact h A2 c2 w' (hp.grow hown' hg hat) hbel
/-- 's = append(s, x..)' beside a network. -/
theorem wpList_app_pair {P : Program} {w : World} {ops : Array Oper} {rest : List Oper} {o : Oper} {a : Act} {Q : Exit → Act → World → Prop} (hgd : o.guard = none) (s x : Operand) (t : TypeId)
    (ho : o.op = .call { callee := .builtin .append, args := #[s, x], argTypes := #[t, t] })
    (z : Value) (bytes : Nat) {W : World} {p mm : Nat} {sn : NS} {F : Nat → Prop} {e size : Nat} {A : Option Addr} {n c : Nat} {xs : List Value}
    (ht : P.underlying t = some (.slice e)) (hi : (P.info? e).map (fun i => (i.zero, i.size, i.bytes)) = some (some z, size, bytes))
    (hzs : z.cells.size = size) (hsz : 0 < size)
    (hs : a.eval s = .slice A n c) (hp : Pair W p mm sn F e size A n c xs w)
    (B : Nat) (A' : Option Addr) (m c' : Nat) (news : List Value) (hx : a.eval x = .slice A' m c') (hr : Reads w B size A' m news) (h1 : ∀ u ∈ news, u.oneCell' = true)
    (h63 : n + m ≤ maxLen) (hbytes : (n + m) * bytes ≤ 140737488355328)
    (h : ∀ A2 c2 w', Pair W p mm sn F e size A2 (n + m) c2 (xs ++ news) w' → Below W.heap.size w w' → wpList P ops Q rest (a.put o.dst (.slice A2 (n + m) c2)) w') : wpList P ops Q (o :: rest) a w :=
  wpList_app_pairG (by simp [Region.wanted, hgd]) s x t ho z bytes ht hi hzs hsz hs hp B A' m c' news hx hr h1 h63 hbytes h
/-- 's = append(s, x..)' of a row of the call's own in a region that draws its order. -/
theorem step_app {P : Program} {w : World} {ops : Array Oper} {o : Oper} {a : Act} {K : Act → World → Prop} {Q : Exit → Act → World → Prop} {E : Prop} (hw : Region.wanted o (yielded ops a.tmps) = true) (s x : Operand) (t : TypeId)
    (ho : o.op = .call { callee := .builtin .append, args := #[s, x], argTypes := #[t, t] })
    (base : Nat) (e : TypeId) (z : Value) (size bytes : Nat) (ht : P.underlying t = some (.slice e)) (hi : (P.info? e).map (fun i => (i.zero, i.size, i.bytes)) = some (some z, size, bytes))
    (hzs : z.cells.size = size) (hsz : 0 < size)
    (A : Option Addr) (n c : Nat) (xs : List Value) (hs : a.eval s = .slice A n c) (hown : Own w base e size A n c xs)
    (B : Nat) (A' : Option Addr) (m c' : Nat) (news : List Value) (hx : a.eval x = .slice A' m c') (hr : Reads w B size A' m news) (h1 : ∀ u ∈ news, u.oneCell' = true)
    (h63 : n + m ≤ maxLen) (hbytes : (n + m) * bytes ≤ 140737488355328) (hbase : base ≤ w.heap.size)
    (h : ∀ A2 c2 w', Own w' base e size A2 (n + m) c2 (xs ++ news) → Below base w w' → K (a.put o.dst (.slice A2 (n + m) c2)) w') :
    if Region.wanted o (yielded ops a.tmps) = true then Oper.wp P o a w K Q else E := by
  obtain ⟨i0, hi0, hz, hz1, hz2⟩ := info_parts hi
  rw [if_pos hw]
  refine wp_append_any w s x t ho base e i0 z size bytes ht hi0 hz hz1 hz2 hzs hsz _ n xs hs hown B A' m c' news hx hr h1 h63 hbytes hbase fun v' w' hown' hg hat => ?_
  have hbel : Below base w w' := (Below.refl _ _).grown hg hbase (fun k hk => (hown.lt k hk).1)
  have hv : ∃ A2 c2, v' = .slice A2 (n + m) c2 := by
    rcases hown'.2 with ⟨rfl, h0⟩ | ⟨g, cap, cur, rfl, _⟩
    · exact ⟨none, 0, by rw [h0]⟩
    · exact ⟨_, cap, rfl⟩
  obtain ⟨A2, c2, rfl⟩ := hv
  exact h A2 c2 w' hown' hbel
/-- The same, onto a row without elements. -/
theorem step_app0 {P : Program} {w : World} {ops : Array Oper} {o : Oper} {a : Act} {K : Act → World → Prop} {Q : Exit → Act → World → Prop} {E : Prop} (hw : Region.wanted o (yielded ops a.tmps) = true) (s x : Operand) (t : TypeId)
    (ho : o.op = .call { callee := .builtin .append, args := #[s, x], argTypes := #[t, t] })
    (base : Nat) (e : TypeId) (z : Value) (size bytes : Nat) (ht : P.underlying t = some (.slice e)) (hi : (P.info? e).map (fun i => (i.zero, i.size, i.bytes)) = some (some z, size, bytes))
    (hzs : z.cells.size = size) (hsz : 0 < size)
    (A : Option Addr) (c : Nat) (hs : a.eval s = .slice A 0 c) (hown : Own w base e size A 0 c [])
    (B : Nat) (A' : Option Addr) (m c' : Nat) (news : List Value) (hx : a.eval x = .slice A' m c') (hr : Reads w B size A' m news) (h1 : ∀ u ∈ news, u.oneCell' = true)
    (h63 : m ≤ maxLen) (hbytes : m * bytes ≤ 140737488355328) (hbase : base ≤ w.heap.size)
    (h : ∀ A2 c2 w', Own w' base e size A2 m c2 news → Below base w w' → K (a.put o.dst (.slice A2 m c2)) w') :
    if Region.wanted o (yielded ops a.tmps) = true then Oper.wp P o a w K Q else E :=
  step_app hw s x t ho base e z size bytes ht hi hzs hsz A 0 c [] hs hown B A' m c' news hx hr h1 (by omega) (by rw [Nat.zero_add]; exact hbytes) hbase fun A2 c2 w' h2 h3 => by
    have := h A2 c2 w' (by rw [Nat.zero_add] at h2; exact h2) h3
    rw [Nat.zero_add]
    exact this
theorem RS.one (w : World) (t : ByteArray) : RS (w.alloc (.cells #[.string t] 9)) (w.heap.size + 1) (some ⟨w.heap.size, 0, none⟩) 1 [t] := by
  have := reads_new w #[.string t] 9 1 1 rfl
  simpa [RS, strs] using this
end Go.Proofs.Ytnoihbbfodkejaa
