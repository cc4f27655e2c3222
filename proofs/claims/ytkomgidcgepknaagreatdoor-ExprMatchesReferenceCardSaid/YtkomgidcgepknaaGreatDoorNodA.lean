/-
  Tokens and nodes of expressions in memory.
-/
import Derived.Test.YtkomgidcgepknaaGreatDoorValP
import Derived.Test.YtkomgidcgepknaaGreatDoorLexW
set_option linter.unusedVariables false
set_option linter.unusedSimpArgs false
namespace Go.Proofs.YtkomgidcgepknaaGreatDoor
open Go.RowKit

/-- The cells of nodes; beside them, for each, the address and the capacity of its list of operands. -/
def cellsN : List Nod → List (Option Addr × Nat) → List Value
  | x :: e, k :: ks => .int .i64 x.op :: .int .i64 x.n :: .string x.name :: .slice k.1 x.kids.length k.2 :: cellsN e ks
  | _, _ => []
theorem cellsN_len : ∀ (e : List Nod) (ks : List (Option Addr × Nat)), ks.length = e.length → (cellsN e ks).length = e.length * 4
  | [], _, _ => rfl
  | x :: e, [], h => by simp at h
  | x :: e, k :: ks, h => by
    have := cellsN_len e ks (by simpa using h)
    simp only [cellsN, List.length_cons, this]
    omega
theorem cellsN_snoc (x : Nod) (k : Option Addr × Nat) : ∀ (e : List Nod) (ks : List (Option Addr × Nat)), ks.length = e.length →
    cellsN (e ++ [x]) (ks ++ [k]) = cellsN e ks ++ [.int .i64 x.op, .int .i64 x.n, .string x.name, .slice k.1 x.kids.length k.2]
  | [], [], _ => rfl
  | [], _ :: _, h => by simp at h
  | y :: e, [], h => by simp at h
  | y :: e, l :: ks, h => by
    have := cellsN_snoc x k e ks (by simpa using h)
    simp only [List.cons_append, cellsN, this]
theorem cellsN_get {x : Nod} {k : Option Addr × Nat} : ∀ (e : List Nod) (ks : List (Option Addr × Nat)) (i : Nat), e[i]? = some x → ks[i]? = some k →
    (cellsN e ks)[i * 4]? = some (.int .i64 x.op) ∧ (cellsN e ks)[i * 4 + 1]? = some (.int .i64 x.n) ∧ (cellsN e ks)[i * 4 + 2]? = some (.string x.name) ∧ (cellsN e ks)[i * 4 + 3]? = some (.slice k.1 x.kids.length k.2)
  | [], _, i, h, _ => by simp at h
  | y :: e, [], i, _, h => by simp at h
  | y :: e, l :: ks, 0, h, h' => by
    simp only [List.getElem?_cons_zero, Option.some.injEq] at h h'
    subst h h'
    exact ⟨rfl, rfl, rfl, rfl⟩
  | y :: e, l :: ks, i + 1, h, h' => by
    have := cellsN_get e ks i (by simpa using h) (by simpa using h')
    rw [show (i + 1) * 4 = (i * 4) + 1 + 1 + 1 + 1 from by omega]
    simpa only [cellsN, List.getElem?_cons_succ] using this
theorem cellsN_one : ∀ (e : List Nod) (ks : List (Option Addr × Nat)), ∀ u ∈ cellsN e ks, u.oneCell' = true
  | [], _, u, h => by simp [cellsN] at h
  | y :: e, [], u, h => by simp [cellsN] at h
  | y :: e, l :: ks, u, h => by
    simp only [cellsN, List.mem_cons] at h
    rcases h with rfl | rfl | rfl | rfl | h
    · rfl
    · rfl
    · rfl
    · rfl
    · exact cellsN_one e ks u h

theorem nodAt_get {e : List Nod} {i : Nat} (h : i < e.length) : e[i]? = some (nodAt e i) := by
  unfold nodAt
  rw [List.getD_eq_getElem?_getD, List.getElem?_eq_getElem h]
  rfl

/-- '.slice A n c' reads as the expression e, below block B. -/
def ExprAt (w : World) (B : Nat) (A : Option Addr) (e : List Nod) : Prop :=
  ∃ ks : List (Option Addr × Nat), ks.length = e.length ∧ Reads w B 4 A e.length (cellsN e ks) ∧
    ∀ (i : Nat) (x : Nod) (k : Option Addr × Nat), e[i]? = some x → ks[i]? = some k → RI w B k.1 x.kids.length x.kids
section
variable {w w' : World} {B B' : Nat} {A : Option Addr} {e : List Nod}
theorem ExprAt.keep (h : ExprAt w B A e) (hk : ∀ p : Addr, p.block < B → w'.cell? p = w.cell? p) : ExprAt w' B A e := by
  obtain ⟨ks, h1, h2, h3⟩ := h
  exact ⟨ks, h1, h2.keep hk, fun i x k hx hk' => Reads.keep (h3 i x k hx hk') hk⟩
theorem ExprAt.more (h : ExprAt w B A e) (hB : B ≤ B') : ExprAt w B' A e := by
  obtain ⟨ks, h1, h2, h3⟩ := h
  exact ⟨ks, h1, h2.more hB, fun i x k hx hk' => (h3 i x k hx hk').more hB⟩
theorem ExprAt.below (h : ExprAt w B A e) (hb : Below B w w') : ExprAt w' B A e := h.keep fun _ hp => hb.cell hp
theorem ExprAt.next (h : ExprAt w w.heap.size A e) (hb : Below w.heap.size w w') : ExprAt w' w'.heap.size A e := (h.below hb).more hb.size
theorem ExprAt.drewN (h : ExprAt w B A e) (k : Nat) : ExprAt (w.drewN k) B A e := h
theorem ExprAt.none_ : ExprAt w B A [] := ⟨[], rfl, ⟨rfl, fun h => absurd h (Nat.lt_irrefl _)⟩, fun i x k h => by simp at h⟩
theorem Reads.at4 {n : Nat} {xs : List Value} (h : Reads w B 4 A n xs) (hn : 0 < n) {c0 : Value} (h0 : xs[0]? = some c0) : ∃ b off, A = some ⟨b, off, none⟩ ∧ b < B ∧ ∀ j u, xs[j]? = some u → w.cell? ⟨b, off + j, none⟩ = some u := by
  obtain ⟨ad, hA, hb, hc⟩ := h.2 hn
  obtain ⟨b, off, spot⟩ := ad
  have hsp : spot = none := by
    have := hc 0 _ h0
    simpa [Addr.add] using World.cell?_spot this
  subst hsp
  exact ⟨b, off, hA, hb, fun j u hu => by have := hc j u hu; rwa [add_lit] at this⟩
/-- The fields of node i. -/
theorem ExprAt.at_ (h : ExprAt w B A e) {i : Nat} (hi : i < e.length) : ∃ b off K c, A = some ⟨b, off, none⟩ ∧ b < B ∧ w.cell? ⟨b, off + i * 4, none⟩ = some (.int .i64 (nodAt e i).op) ∧
    w.cell? ⟨b, off + i * 4 + 1, none⟩ = some (.int .i64 (nodAt e i).n) ∧ w.cell? ⟨b, off + i * 4 + 2, none⟩ = some (.string (nodAt e i).name) ∧
    w.cell? ⟨b, off + i * 4 + 3, none⟩ = some (.slice K (nodAt e i).kids.length c) ∧ RI w B K (nodAt e i).kids.length (nodAt e i).kids := by
  obtain ⟨ks, h1, h2, h3⟩ := h
  have hx := nodAt_get hi
  have hk : ks[i]? = some ks[i] := List.getElem?_eq_getElem (by omega)
  obtain ⟨g0, g1, g2, g3⟩ := cellsN_get e ks i hx hk
  have h0 := (cellsN_get e ks 0 (nodAt_get (by omega)) (List.getElem?_eq_getElem (by omega))).1
  obtain ⟨b, off, hA, hb, hc⟩ := h2.at4 (by omega) h0
  exact ⟨b, off, (ks[i]).1, (ks[i]).2, hA, hb, hc _ _ g0, by have := hc _ _ g1; rwa [← Nat.add_assoc] at this, by have := hc _ _ g2; rwa [← Nat.add_assoc] at this, by have := hc _ _ g3; rwa [← Nat.add_assoc] at this, h3 i _ _ hx hk⟩
end

/-- A row of nodes of the call's own, in blocks from base on, the rows of their operands too, in blocks of F. -/
def NodsOwn (w : World) (base : Nat) (A : Option Addr) (c : Nat) (out : List Nod) (F : Nat → Prop) : Prop :=
  ∃ ks : List (Option Addr × Nat), ks.length = out.length ∧ Own w base 56 4 A out.length c (cellsN out ks) ∧
    ∀ (i : Nat) (x : Nod) (k : Option Addr × Nat), out[i]? = some x → ks[i]? = some k → Own w base 3 1 k.1 x.kids.length k.2 (ints x.kids) ∧ ∀ g, (Value.slice k.1 x.kids.length k.2).ownBlock = some g → F g
theorem Own.grown_other {w w' : World} {base base' : Nat} {e e' : TypeId} {size size' : Nat} {A A' : Option Addr} {n n' c c' : Nat} {xs xs' : List Value} (h : Own w base e size A n c xs) (h' : Own w base' e' size' A' n' c' xs') (he : e ≠ e')
    (hg : w.grownBy w' (Value.slice A' n' c').ownBlock) : Own w' base e size A n c xs := by
  refine ⟨h.1, ?_⟩
  rcases h.2 with h2 | ⟨g, cap, cur, hv, hgb, hh, r⟩
  · exact Or.inl h2
  · refine Or.inr ⟨g, cap, cur, hv, hgb, (hg.block g (Array.getElem?_eq_some_iff.1 hh).1 ?_).trans hh, r⟩
    intro hr
    rcases h'.2 with ⟨h2, _⟩ | ⟨g', cap', cur', hv', _, hh', _⟩
    · injection h2 with h2 _ _
      subst h2
      cases hr
    · injection hv' with hA _ _
      subst hA
      have hr' : some g = some g' := hr
      injection hr' with hr'
      subst hr'
      rw [hh] at hh'
      injection hh' with hh'
      injection hh' with _ he' _
      exact he he'
theorem Own.keepB {w w' : World} {base : Nat} {e : TypeId} {size : Nat} {A : Option Addr} {n c : Nat} {xs : List Value} (h : Own w base e size A n c xs) (hk : ∀ g, some g = (Value.slice A n c).ownBlock → w'.heap[g]? = w.heap[g]?) : Own w' base e size A n c xs := by
  refine ⟨h.1, ?_⟩
  rcases h.2 with h2 | ⟨g, cap, cur, hv, hgb, hh, r⟩
  · exact Or.inl h2
  · refine Or.inr ⟨g, cap, cur, hv, hgb, (hk g ?_).trans hh, r⟩
    rw [hv]; rfl
section
variable {w w' : World} {base : Nat} {A : Option Addr} {c : Nat} {out : List Nod} {F : Nat → Prop}
theorem NodsOwn.nil : NodsOwn w base none 0 [] F := ⟨[], rfl, Own.nil _ _ _ _, fun i x k h => by simp at h⟩
theorem NodsOwn.below (h : NodsOwn w base A c out F) (hb : Below w.heap.size w w') : NodsOwn w' base A c out F := by
  obtain ⟨ks, h1, h2, h3⟩ := h
  exact ⟨ks, h1, h2.below hb, fun i x k hx hk => ⟨(h3 i x k hx hk).1.below hb, (h3 i x k hx hk).2⟩⟩
theorem Own.keepC {e : TypeId} {size : Nat} {n : Nat} {xs : List Value} (h : Own w base e size A n c xs) (hk : ∀ g, base ≤ g → (Value.slice A n c).ownBlock = some g → w'.heap[g]? = w.heap[g]?) : Own w' base e size A n c xs := by
  refine ⟨h.1, ?_⟩
  rcases h.2 with h2 | ⟨g, cap, cur, hv, hgb, hh, r⟩
  · exact Or.inl h2
  · exact Or.inr ⟨g, cap, cur, hv, hgb, (hk g hgb (by rw [hv]; rfl)).trans hh, r⟩
theorem NodsOwn.keepC (h : NodsOwn w base A c out F) (hk : ∀ g, base ≤ g → ((Value.slice A out.length c).ownBlock = some g ∨ F g) → w'.heap[g]? = w.heap[g]?) : NodsOwn w' base A c out F := by
  obtain ⟨ks, h1, h2, h3⟩ := h
  exact ⟨ks, h1, h2.keepC (fun g hg hr => hk g hg (.inl hr)), fun i x k hx hk' => ⟨(h3 i x k hx hk').1.keepC (fun g hg hr => hk g hg (.inr ((h3 i x k hx hk').2 g hr))), (h3 i x k hx hk').2⟩⟩
theorem NodsOwn.mono (h : NodsOwn w base A c out F) {F' : Nat → Prop} (hF : ∀ g, F g → F' g) : NodsOwn w base A c out F' := by
  obtain ⟨ks, h1, h2, h3⟩ := h
  exact ⟨ks, h1, h2, fun i x k hx hk => ⟨(h3 i x k hx hk).1, fun g hg => hF g ((h3 i x k hx hk).2 g hg)⟩⟩
theorem NodsOwn.expr (h : NodsOwn w base A c out F) : ExprAt w w.heap.size A out := by
  obtain ⟨ks, h1, h2, h3⟩ := h
  exact ⟨ks, h1, h2.reads, fun i x k hx hk => (h3 i x k hx hk).1.ri⟩
theorem NodsOwn.snoc {A' : Option Addr} {c' : Nat} {x : Nod} {K : Option Addr} {kc : Nat} {ks : List (Option Addr × Nat)} (h1 : ks.length = out.length)
    (h2 : Own w base 56 4 A out.length c (cellsN out ks))
    (h3 : ∀ (i : Nat) (x : Nod) (k : Option Addr × Nat), out[i]? = some x → ks[i]? = some k → Own w base 3 1 k.1 x.kids.length k.2 (ints x.kids) ∧ ∀ g, (Value.slice k.1 x.kids.length k.2).ownBlock = some g → F g)
    (hx : Own w base 3 1 K x.kids.length kc (ints x.kids)) (hg : w.grownBy w' (Value.slice A out.length c).ownBlock)
    (hown : Own w' base 56 4 A' (out.length + 1) c' (cellsN out ks ++ [.int .i64 x.op, .int .i64 x.n, .string x.name, .slice K x.kids.length kc])) :
    NodsOwn w' base A' c' (out ++ [x]) (fun g => F g ∨ (Value.slice K x.kids.length kc).ownBlock = some g) := by
  have hne : 3 ≠ 56 := by decide
  refine ⟨ks ++ [(K, kc)], by simp [h1], ?_, fun i y k hy hk => ?_⟩
  · rw [cellsN_snoc _ _ _ _ h1, List.length_append]
    exact hown
  · by_cases hi : i < out.length
    · rw [List.getElem?_append_left hi] at hy
      rw [List.getElem?_append_left (by omega)] at hk
      exact ⟨(h3 i y k hy hk).1.grown_other h2 hne hg, fun g hg => .inl ((h3 i y k hy hk).2 g hg)⟩
    · have hi2 : i = out.length := by
        have := (List.getElem?_eq_some_iff.1 hy).1
        simp at this; omega
      subst hi2
      rw [List.getElem?_append_right (Nat.le_refl _), Nat.sub_self] at hy
      rw [List.getElem?_append_right (by omega), h1, Nat.sub_self] at hk
      simp only [List.getElem?_cons_zero, Option.some.injEq] at hy hk
      subst hy hk
      exact ⟨hx.grown_other h2 hne hg, fun g hg => .inr hg⟩
end

theorem cellsT_len : ∀ ts : List Tok, (cellsT ts).length = ts.length * 4
  | [] => rfl
  | t :: ts => by
    have := cellsT_len ts
    unfold cellsT at this ⊢
    rw [List.flatMap_cons, List.length_append, this, List.length_cons]
    show 4 + _ = _
    omega
theorem cellsT_get {t : Tok} : ∀ (ts : List Tok) (i : Nat), ts[i]? = some t →
    (cellsT ts)[i * 4]? = some (.int .i64 t.kind) ∧ (cellsT ts)[i * 4 + 1]? = some (.string t.text) ∧ (cellsT ts)[i * 4 + 2]? = some (.int .i64 t.n) ∧ (cellsT ts)[i * 4 + 3]? = some (.int .i64 t.off)
  | [], i, h => by simp at h
  | y :: ts, 0, h => by
    simp only [List.getElem?_cons_zero, Option.some.injEq] at h
    subst h
    exact ⟨rfl, rfl, rfl, rfl⟩
  | y :: ts, i + 1, h => by
    have := cellsT_get ts i (by simpa using h)
    rw [show (i + 1) * 4 = (i * 4) + 1 + 1 + 1 + 1 from by omega]
    unfold cellsT at this ⊢
    simpa only [List.flatMap_cons, Tok.cells, List.cons_append, List.nil_append, List.getElem?_cons_succ] using this
theorem Reads.tok {w : World} {B n : Nat} {A : Option Addr} {ts : List Tok} (h : Reads w B 4 A n (cellsT ts)) {i : Nat} {t : Tok} (hi : ts[i]? = some t) : ∃ b off, A = some ⟨b, off, none⟩ ∧ b < B ∧
    w.cell? ⟨b, off + i * 4, none⟩ = some (.int .i64 t.kind) ∧ w.cell? ⟨b, off + i * 4 + 1, none⟩ = some (.string t.text) ∧ w.cell? ⟨b, off + i * 4 + 2, none⟩ = some (.int .i64 t.n) ∧ w.cell? ⟨b, off + i * 4 + 3, none⟩ = some (.int .i64 t.off) := by
  obtain ⟨g0, g1, g2, g3⟩ := cellsT_get ts i hi
  have hl : i < ts.length := (List.getElem?_eq_some_iff.1 hi).1
  have hn : n = ts.length := by
    have := h.1
    rw [cellsT_len] at this
    omega
  have h0 := (cellsT_get ts 0 (List.getElem?_eq_getElem (by omega))).1
  obtain ⟨b, off, hA, hb, hc⟩ := h.at4 (by omega) h0
  exact ⟨b, off, hA, hb, hc _ _ g0, by have := hc _ _ g1; rwa [← Nat.add_assoc] at this, by have := hc _ _ g2; rwa [← Nat.add_assoc] at this, by have := hc _ _ g3; rwa [← Nat.add_assoc] at this⟩
end Go.Proofs.YtkomgidcgepknaaGreatDoor
