/-
  Rows of the call's own: appends in a region that draws; the front of a row.
-/
import Derived.Test.YtlkgoljpjeieiaaGreatDoorOwnR
set_option linter.unusedVariables false
set_option linter.unusedSimpArgs false
namespace Go.Proofs.YtlkgoljpjeieiaaGreatDoor
open Go.RowKit

/-- The same in a region that draws its order. -/
theorem step_app_at {P : Program} {w : World} {ops : Array Oper} {o : Oper} {a : Act} {K : Act → World → Prop} {Q : Exit → Act → World → Prop} {E : Prop} (hw : Region.wanted o (yielded ops a.tmps) = true) (s x : Operand) (t : TypeId)
    (ho : o.op = .call { callee := .builtin .append, args := #[s, x], argTypes := #[t, t] })
    (base : Nat) (e : TypeId) (z : Value) (size bytes : Nat) (ht : P.underlying t = some (.slice e)) (hi : (P.info? e).map (fun i => (i.zero, i.size, i.bytes)) = some (some z, size, bytes))
    (hzs : z.cells.size = size) (hsz : 0 < size)
    (A : Option Addr) (n c : Nat) (xs : List Value) (hs : a.eval s = .slice A n c) (hown : Own w base e size A n c xs)
    (B : Nat) (A' : Option Addr) (m c' : Nat) (news : List Value) (hx : a.eval x = .slice A' m c') (hr : Reads w B size A' m news) (h1 : ∀ u ∈ news, u.oneCell' = true)
    (h63 : n + m ≤ maxLen) (hbytes : (n + m) * bytes ≤ 140737488355328) (hbase : base ≤ w.heap.size)
    (h : ∀ A2 c2 w', Own w' base e size A2 (n + m) c2 (xs ++ news) → Below base w w' → w.grownBy w' (Value.slice A n c).ownBlock → K (a.put o.dst (.slice A2 (n + m) c2)) w') :
    if Region.wanted o (yielded ops a.tmps) = true then Oper.wp P o a w K Q else E := by
  obtain ⟨i0, hi0, hz, hz1, hz2⟩ := info_parts hi
  rw [if_pos hw]
  refine wp_append_any w s x t ho base e i0 z size bytes ht hi0 hz hz1 hz2 hzs hsz _ n xs hs hown B A' m c' news hx hr h1 h63 hbytes hbase fun v' w' hown' hg hat => ?_
  have hbel : Below base w w' := (Below.refl _ _).grown hg hbase (fun k hk => (hown.lt k hk).1)
  have hv : ∃ A2 c2, v' = .slice A2 (n + m) c2 := by
    rcases hown'.2 with ⟨rfl, h0⟩ | ⟨g, cap, cur, rfl, _⟩
    · exact ⟨none, 0, by rw [h0]⟩
    · exact ⟨_, cap, rfl⟩
  obtain ⟨A2, c2, rfl⟩ := hv
  exact h A2 c2 w' hown' hbel hg
theorem step_app0_at {P : Program} {w : World} {ops : Array Oper} {o : Oper} {a : Act} {K : Act → World → Prop} {Q : Exit → Act → World → Prop} {E : Prop} (hw : Region.wanted o (yielded ops a.tmps) = true) (s x : Operand) (t : TypeId)
    (ho : o.op = .call { callee := .builtin .append, args := #[s, x], argTypes := #[t, t] })
    (base : Nat) (e : TypeId) (z : Value) (size bytes : Nat) (ht : P.underlying t = some (.slice e)) (hi : (P.info? e).map (fun i => (i.zero, i.size, i.bytes)) = some (some z, size, bytes))
    (hzs : z.cells.size = size) (hsz : 0 < size)
    (A : Option Addr) (c : Nat) (hs : a.eval s = .slice A 0 c) (hown : Own w base e size A 0 c [])
    (B : Nat) (A' : Option Addr) (m c' : Nat) (news : List Value) (hx : a.eval x = .slice A' m c') (hr : Reads w B size A' m news) (h1 : ∀ u ∈ news, u.oneCell' = true)
    (h63 : m ≤ maxLen) (hbytes : m * bytes ≤ 140737488355328) (hbase : base ≤ w.heap.size)
    (h : ∀ A2 c2 w', Own w' base e size A2 m c2 news → Below base w w' → w.grownBy w' (Value.slice A 0 c).ownBlock → K (a.put o.dst (.slice A2 m c2)) w') :
    if Region.wanted o (yielded ops a.tmps) = true then Oper.wp P o a w K Q else E :=
  step_app_at hw s x t ho base e z size bytes ht hi hzs hsz A 0 c [] hs hown B A' m c' news hx hr h1 (by omega) (by rw [Nat.zero_add]; exact hbytes) hbase fun A2 c2 w' h2 h3 h4 => by
    have := h A2 c2 w' (by rw [Nat.zero_add] at h2; exact h2) h3 h4
    rw [Nat.zero_add]
    exact this
/-- A row without elements, and room for none. -/
theorem Own.empty {W : World} {q base : Nat} {e : TypeId} {size : Nat} (h : Blk W q e #[]) (hb : base ≤ q) : Own W base e size (some ⟨q, 0, none⟩) 0 0 [] :=
  ⟨by simp, .inr ⟨q, 0, #[], rfl, hb, h, Nat.le_refl _, Nat.zero_le _, by simp, by simp⟩⟩
theorem Own.lower {w : World} {base base' : Nat} {e : TypeId} {size : Nat} {A : Option Addr} {n c : Nat} {xs : List Value} (h : Own w base e size A n c xs) (hB : base' ≤ base) : Own w base' e size A n c xs := by
  refine ⟨h.1, ?_⟩
  rcases h.2 with h2 | ⟨g, cap, cur, hv, hg, r⟩
  · exact .inl h2
  · exact .inr ⟨g, cap, cur, hv, Nat.le_trans hB hg, r⟩
theorem Reads.front {w : World} {B size : Nat} {A : Option Addr} {n k : Nat} {xs : List Value} (h : Reads w B size A n xs) (hk : k ≤ n) : Reads w B size A k (xs.take (k * size)) := by
  refine ⟨by rw [List.length_take, h.1]; exact Nat.min_eq_left (Nat.mul_le_mul_right _ hk), fun hn => ?_⟩
  obtain ⟨ad, hA, hb, hc⟩ := h.2 (by omega)
  exact ⟨ad, hA, hb, fun j u hu => hc j u (by
    rw [List.getElem?_take] at hu
    split at hu
    · exact hu
    · cases hu)⟩
/-- A block of one element as a row. -/
theorem Reads.one {w : World} {g : Nat} {t : TypeId} {cs : Array Value} {size : Nat} (h : Blk w g t cs) (hs : cs.size = size) : Reads w w.heap.size size (some ⟨g, 0, none⟩) 1 cs.toList := by
  refine ⟨by simp [hs], fun _ => ⟨⟨g, 0, none⟩, rfl, h.lt, fun j u hu => ?_⟩⟩
  rw [add_lit, Nat.zero_add, h.cell j]
  simpa using hu
theorem Own.form2 {w : World} {base : Nat} {e : TypeId} {size : Nat} {A : Option Addr} {n c : Nat} {xs : List Value} (h : Own w base e size A n c xs) (hn : 0 < n) : ∃ g, A = some ⟨g, 0, none⟩ ∧ base ≤ g ∧ g < w.heap.size := by
  rcases h.2 with ⟨_, h1⟩ | ⟨g, cap, cur, hv, hg, hh, _⟩
  · omega
  · injection hv with e1
    exact ⟨g, e1, hg, (Array.getElem?_eq_some_iff.1 hh).1⟩
/-- Its cells may be written. -/
theorem Own.thaw {w : World} {base : Nat} {e : TypeId} {size : Nat} {g : Nat} {n c : Nat} {xs : List Value} (h : Own w base e size (some ⟨g, 0, none⟩) n c xs) {k : Nat} (hk : k < n * size) : w.frozen? ⟨g, k, none⟩ = false := by
  rcases h.2 with ⟨hv, h1⟩ | ⟨g', cap, cur, hv, hg, hh, _⟩
  · injection hv with e1
    cases e1
  · injection hv with e1
    injection e1 with e1
    injection e1 with e1
    subst e1
    simp [World.frozen?, hh]
end Go.Proofs.YtlkgoljpjeieiaaGreatDoor
