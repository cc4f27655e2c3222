/-
  Several rows of one element type, each of the call's own, told apart by their blocks.
-/
import Derived.Test.YtlkgoljpjeieiaaGreatDoorApp
set_option linter.unusedVariables false
set_option linter.unusedSimpArgs false
namespace Go.Proofs.YtlkgoljpjeieiaaGreatDoor
open Go.RowKit

/-- Two rows lie in different blocks. -/
def Apart (A B : Option Addr) : Prop := ∀ x y, A = some x → B = some y → x.block ≠ y.block
theorem Apart.none_left (B : Option Addr) : Apart none B := fun _ _ h => by cases h
theorem Apart.none_right (A : Option Addr) : Apart A none := fun _ _ _ h => by cases h
theorem Apart.symm {A B : Option Addr} (h : Apart A B) : Apart B A := fun x y hx hy e => h y x hy hx e.symm
section
variable {w w' : World} {base base' : Nat} {e : TypeId} {size : Nat} {A A2 B : Option Addr} {n m c d : Nat} {xs ys : List Value}
theorem Own.block_lt (h : Own w base e size A n c xs) : ∀ x, A = some x → x.block < w.heap.size := by
  intro x hx
  rcases h.2 with ⟨hv, _⟩ | ⟨g, cap, cur, hv, hg, hh, r⟩
  · injection hv with e1
    rw [e1] at hx
    cases hx
  · injection hv with e1
    rw [e1] at hx
    injection hx with hx
    subst hx
    exact (Array.getElem?_eq_some_iff.1 hh).1
/-- Another row stays as it is. -/
theorem Own.other {e' : TypeId} {size' : Nat} (h : Own w base e' size' B m d ys) (hg : w.grownBy w' (Value.slice A n c).ownBlock) (ha : Apart A B) : Own w' base e' size' B m d ys := by
  refine ⟨h.1, ?_⟩
  rcases h.2 with h2 | ⟨g, cap, cur, hv, hb, hh, r⟩
  · exact Or.inl h2
  · refine Or.inr ⟨g, cap, cur, hv, hb, (hg.block g (Array.getElem?_eq_some_iff.1 hh).1 ?_).trans hh, r⟩
    injection hv with e1
    cases A with
    | none => intro h; cases h
    | some x =>
      intro h
      have h : some g = some x.block := h
      injection h with h
      exact ha x _ rfl e1 h.symm
/-- What a grown row has become lies apart from another row, too. -/
theorem Apart.grown {e' : TypeId} {size' : Nat} (ha : Apart A B) (h : Own w base' e' size' B m d ys) (hat : (Value.slice A2 n c).ownBlock = (Value.slice A n c).ownBlock ∨ (Value.slice A2 n c).ownBlock = some w.heap.size) : Apart A2 B := by
  intro x y hx hy
  subst hx
  rcases hat with h1 | h1
  · cases A with
    | none => cases h1
    | some z =>
      have h1 : some x.block = some z.block := h1
      injection h1 with h1
      rw [h1]
      exact ha z y rfl hy
  · have h1 : some x.block = some w.heap.size := h1
    injection h1 with h1
    have := h.block_lt y hy
    omega
end
/-- 's = append(s, x..)' of a row of the call's own: where the row lies behind it. -/
theorem wpList_app_at {P : Program} {w : World} {ops : Array Oper} {rest : List Oper} {o : Oper} {a : Act} {Q : Exit → Act → World → Prop} (hw : Region.wanted o (yielded ops a.tmps) = true) (s x : Operand) (t : TypeId)
    (ho : o.op = .call { callee := .builtin .append, args := #[s, x], argTypes := #[t, t] })
    (base : Nat) (e : TypeId) (z : Value) (size bytes : Nat) (ht : P.underlying t = some (.slice e)) (hi : (P.info? e).map (fun i => (i.zero, i.size, i.bytes)) = some (some z, size, bytes))
    (hzs : z.cells.size = size) (hsz : 0 < size)
    (A : Option Addr) (n c : Nat) (xs : List Value) (hs : a.eval s = .slice A n c) (hown : Own w base e size A n c xs)
    (B : Nat) (A' : Option Addr) (m c' : Nat) (news : List Value) (hx : a.eval x = .slice A' m c') (hr : Reads w B size A' m news) (h1 : ∀ u ∈ news, u.oneCell' = true)
    (h63 : n + m ≤ maxLen) (hbytes : (n + m) * bytes ≤ 140737488355328) (hbase : base ≤ w.heap.size)
    (h : ∀ A2 c2 w', Own w' base e size A2 (n + m) c2 (xs ++ news) → Below base w w' → w.grownBy w' (Value.slice A n c).ownBlock → ((Value.slice A2 n c).ownBlock = (Value.slice A n c).ownBlock ∨ (Value.slice A2 n c).ownBlock = some w.heap.size) → wpList P ops Q rest (a.put o.dst (.slice A2 (n + m) c2)) w') : wpList P ops Q (o :: rest) a w := by
  obtain ⟨i0, hi0, hz, hz1, hz2⟩ := info_parts hi
  refine wpList_step fun K hK => ?_
  rw [if_pos hw]
  refine wp_append_any w s x t ho base e i0 z size bytes ht hi0 hz hz1 hz2 hzs hsz _ n xs hs hown B A' m c' news hx hr h1 h63 hbytes hbase fun v' w' hown' hg hat => ?_
  have hbel : Below base w w' := (Below.refl _ _).grown hg hbase (fun k hk => (hown.lt k hk).1)
  have hv : ∃ A2 c2, v' = .slice A2 (n + m) c2 := by
    rcases hown'.2 with ⟨rfl, h0⟩ | ⟨g, cap, cur, rfl, _⟩
    · exact ⟨none, 0, by rw [h0]⟩
    · exact ⟨_, cap, rfl⟩
  obtain ⟨A2, c2, rfl⟩ := hv
  have hat' : (Value.slice A2 n c).ownBlock = (Value.slice A n c).ownBlock ∨ (Value.slice A2 n c).ownBlock = some w.heap.size := by
    cases A2 with
    | none => exact hat
    | some y => exact hat
  exact hK _ _ (h A2 c2 w' hown' hbel hg hat')
end Go.Proofs.YtlkgoljpjeieiaaGreatDoor
