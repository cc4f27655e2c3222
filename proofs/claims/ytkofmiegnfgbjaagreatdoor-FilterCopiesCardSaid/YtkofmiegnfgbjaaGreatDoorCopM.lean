/-
  Chapter 37: FilterCopies.
-/
import Derived.Test.YtkofmiegnfgbjaaGreatDoorAnyM
set_option linter.unusedVariables false
set_option linter.unusedSimpArgs false
namespace Go.Proofs.YtkofmiegnfgbjaaGreatDoor
open Go.RowKit Go.Deep Go.Maps

theorem cellsSb_put (x : Sb) (q : Option Addr × Nat) : ∀ (e : List Sb) (ks : List (Option Addr × Nat)) (k : Nat), ks.length = e.length → k < e.length →
    ((((cellsSb e ks).set (k * 4) (.int .i64 x.prog)).set (k * 4 + 1) (.int .i64 x.tile)).set (k * 4 + 2) (.int .i64 x.filt)).set (k * 4 + 3) (.slice q.1 x.whn.length q.2) = cellsSb (e.set k x) (ks.set k q)
  | [], _, k, _, hk => absurd hk (Nat.not_lt_zero _)
  | y :: e, [], k, h, _ => by simp at h
  | y :: e, z :: ks, 0, h, _ => rfl
  | y :: e, z :: ks, k + 1, h, hk => by
    have ih := cellsSb_put x q e ks k (by simpa using h) (by simpa using hk)
    rw [show (k + 1) * 4 = k * 4 + 1 + 1 + 1 + 1 by omega, show k * 4 + 1 + 1 + 1 + 1 + 1 = (k * 4 + 1) + 1 + 1 + 1 + 1 by omega, show k * 4 + 1 + 1 + 1 + 1 + 2 = (k * 4 + 2) + 1 + 1 + 1 + 1 by omega, show k * 4 + 1 + 1 + 1 + 1 + 3 = (k * 4 + 3) + 1 + 1 + 1 + 1 by omega]
    simp only [cellsSb, List.set_cons_succ, ih]
theorem cellsSb_when (q : Option Addr × Nat) : ∀ (e : List Sb) (ks : List (Option Addr × Nat)) (k : Nat), ks.length = e.length → k < e.length →
    (cellsSb e ks).set (k * 4 + 3) (.slice q.1 (sbAt e k).whn.length q.2) = cellsSb e (ks.set k q)
  | [], _, k, _, hk => absurd hk (Nat.not_lt_zero _)
  | y :: e, [], k, h, _ => by simp at h
  | y :: e, z :: ks, 0, h, _ => rfl
  | y :: e, z :: ks, k + 1, h, hk => by
    have ih := cellsSb_when q e ks k (by simpa using h) (by simpa using hk)
    have e0 : sbAt (y :: e) (k + 1) = sbAt e k := rfl
    rw [show (k + 1) * 4 + 3 = (k * 4 + 3) + 1 + 1 + 1 + 1 by omega]
    simp only [cellsSb, List.set_cons_succ, e0, ih]
theorem cellsSb_zero : ∀ n : Nat, cellsSb (List.replicate n Sb.none_) (List.replicate n (none, 0)) = (List.replicate n [Value.int .i64 0, .int .i64 0, .int .i64 0, .slice none 0 0]).flatten
  | 0 => rfl
  | n + 1 => by
    have := cellsSb_zero n
    simp only [List.replicate_succ, cellsSb, List.flatten_cons, this]
    rfl
theorem flat4 (z : List Value) (hz : z.length = 4) : ∀ (n j : Nat), j < n * 4 → (List.replicate n z).flatten[j]? = z[j % 4]?
  | 0, j, h => absurd h (by omega)
  | n + 1, j, h => by
    rw [List.replicate_succ, List.flatten_cons]
    by_cases h4 : j < 4
    · rw [List.getElem?_append_left (by omega), Nat.mod_eq_of_lt h4]
    · rw [List.getElem?_append_right (by omega), hz, flat4 z hz n (j - 4) (by omega)]
      congr 1
      omega
theorem madeSb (n : Nat) : madeCells #[.int .i64 0, .int .i64 0, .int .i64 0, .slice none 0 0] (n * 4) = (cellsSb (List.replicate n Sb.none_) (List.replicate n (none, 0))).toArray := by
  apply Array.ext
  · rw [size_madeCells]
    simp [cellsSb_len]
  · intro j h1 h2
    rw [size_madeCells] at h1
    have hj := madeCells_get #[Value.int .i64 0, .int .i64 0, .int .i64 0, .slice none 0 0] (n * 4) j h1
    rw [Array.getElem?_eq_getElem (by rw [size_madeCells]; exact h1)] at hj
    injection hj with hj
    rw [hj]
    have h3 := flat4 [Value.int .i64 0, .int .i64 0, .int .i64 0, .slice none 0 0] rfl n j h1
    rw [← cellsSb_zero, List.getElem?_eq_getElem (by simpa using h2)] at h3
    rw [List.getElem_toArray]
    have hm : j % 4 = 0 ∨ j % 4 = 1 ∨ j % 4 = 2 ∨ j % 4 = 3 := by omega
    have e4 : (#[Value.int .i64 0, .int .i64 0, .int .i64 0, .slice none 0 0] : Array Value).size = 4 := rfl
    rw [e4]
    rcases hm with h | h | h | h <;> rw [h] at h3 ⊢ <;> injection h3 with h3 <;> rw [h3] <;> rfl
theorem Reads.of_blk {w : World} {g : Nat} {t : TypeId} {xs : List Value} {size n : Nat} (h : Blk w g t xs.toArray) (hn : xs.length = n * size) : Reads w w.heap.size size (some ⟨g, 0, none⟩) n xs := by
  refine ⟨hn, fun _ => ⟨⟨g, 0, none⟩, rfl, h.lt, fun j u hu => ?_⟩⟩
  rw [add_lit, Nat.zero_add, h.cell j]
  simpa using hu
/-- The copies of the first i subscriptions lie in block g and behind it. -/
def CopI (w : World) (g : Nat) (l : List Sb) (i : Nat) : Prop :=
  ∃ ks : List (Option Addr × Nat), ks.length = l.length ∧ Blk w g 52 (cellsSb (l.take i ++ List.replicate (l.length - i) Sb.none_) ks).toArray ∧
    ∀ (j : Nat) (x : Sb) (k : Option Addr × Nat), j < i → l[j]? = some x → ks[j]? = some k → ExprK w (g + 1) g k.1 k.2 x.whn
theorem takeRep_len (l : List Sb) {i : Nat} (hi : i ≤ l.length) : (l.take i ++ List.replicate (l.length - i) Sb.none_).length = l.length := by
  simp
  omega
theorem takeRep_set (l : List Sb) {i : Nat} (hi : i < l.length) : (l.take i ++ List.replicate (l.length - i) Sb.none_).set i (sbAt l i) = l.take (i + 1) ++ List.replicate (l.length - (i + 1)) Sb.none_ := by
  have e : (l.take i).length = i := by rw [List.length_take]; omega
  rw [List.set_append_right _ _ (by omega), e, Nat.sub_self, sb_take hi, show l.length - i = (l.length - (i + 1)) + 1 by omega, List.replicate_succ, List.set_cons_zero]
  simp
theorem takeRep_at (l : List Sb) {i : Nat} (hi : i < l.length) : sbAt (l.take (i + 1) ++ List.replicate (l.length - (i + 1)) Sb.none_) i = sbAt l i := by
  rw [sbAt_left (by rw [List.length_take]; omega)]
  unfold sbAt
  rw [List.getD_eq_getElem?_getD, List.getD_eq_getElem?_getD, List.getElem?_take, if_pos (by omega)]
theorem sbAt_eq {l : List Sb} {j : Nat} {x : Sb} (h : l[j]? = some x) : sbAt l j = x := by
  unfold sbAt
  rw [List.getD_eq_getElem?_getD, h]
  rfl
theorem copI_step {w w4 w6 : World} {g i : Nat} {l : List Sb} {ks kks : List (Option Addr × Nat)} {K A6 : Option Addr} {kc c6 : Nat} (hi : i < l.length) (hg : g < w.heap.size)
    (hk : ks.length = l.length) (hb : Blk w g 52 (cellsSb (l.take i ++ List.replicate (l.length - i) Sb.none_) ks).toArray)
    (hx : ∀ (j : Nat) (x : Sb) (k : Option Addr × Nat), j < i → l[j]? = some x → ks[j]? = some k → ExprK w (g + 1) g k.1 k.2 x.whn)
    (h4 : w4 = (((w.setCell ⟨g, i * 4, none⟩ (.int .i64 (sbAt l i).prog)).setCell ⟨g, i * 4 + 1, none⟩ (.int .i64 (sbAt l i).tile)).setCell ⟨g, i * 4 + 2, none⟩ (.int .i64 (sbAt l i).filt)).setCell ⟨g, i * 4 + 3, none⟩ (.slice K (sbAt l i).whn.length kc))
    (h46 : Below w4.heap.size w4 w6) (ho : Own w6 w4.heap.size 40 4 A6 (sbAt l i).whn.length c6 (cellsN (sbAt l i).whn kks)) (hkk : kks.length = (sbAt l i).whn.length)
    (hkd : ∀ (j : Nat) (x : Nod) (k : Option Addr × Nat), (sbAt l i).whn[j]? = some x → kks[j]? = some k → RI w g k.1 x.kids.length x.kids) :
    CopI (w6.setCell ⟨g, i * 4 + 3, none⟩ (.slice A6 (sbAt l i).whn.length c6)) g l (i + 1) := by
  have hz4 : w4.heap.size = w.heap.size := by rw [h4]; simp [World.setCell]
  have hb4 : Blk w4 g 52 (cellsSb (l.take (i + 1) ++ List.replicate (l.length - (i + 1)) Sb.none_) (ks.set i (K, kc))).toArray := by
    have h := (((hb.set_ (i * 4) (.int .i64 (sbAt l i).prog)).set_ (i * 4 + 1) (.int .i64 (sbAt l i).tile)).set_ (i * 4 + 2) (.int .i64 (sbAt l i).filt)).set_ (i * 4 + 3) (.slice K (sbAt l i).whn.length kc)
    rw [← h4] at h
    rw [← takeRep_set l hi, ← cellsSb_put (sbAt l i) (K, kc) _ ks i (by rw [takeRep_len l (by omega)]; exact hk) (by rw [takeRep_len l (by omega)]; exact hi)]
    simpa using h
  have hb6 := hb4.below h46 (by omega)
  have far4 : ∀ k, k ≠ g → w4.heap[k]? = w.heap[k]? := fun k hk => by
    rw [h4]
    rw [Below.heap_setCell _ _ _ k hk, Below.heap_setCell _ _ _ k hk, Below.heap_setCell _ _ _ k hk, Below.heap_setCell _ _ _ k hk]
  have far6 : ∀ k, k ≠ g → k < w.heap.size → (w6.setCell ⟨g, i * 4 + 3, none⟩ (.slice A6 (sbAt l i).whn.length c6)).heap[k]? = w.heap[k]? := fun k hk hl => by
    rw [Below.heap_setCell _ _ _ k hk, h46.block k (by omega), far4 k hk]
  have kid6 : ∀ q : Addr, q.block < g → (w6.setCell ⟨g, i * 4 + 3, none⟩ (.slice A6 (sbAt l i).whn.length c6)).cell? q = w.cell? q := fun q hq => World.cell?_of_block (far6 q.block (by omega) (by omega))
  refine ⟨(ks.set i (K, kc)).set i (A6, c6), by simpa using hk, ?_, fun j x k hj hx' hk' => ?_⟩
  · have h := hb6.set_ (i * 4 + 3) (.slice A6 (sbAt l i).whn.length c6)
    have e := cellsSb_when (A6, c6) (l.take (i + 1) ++ List.replicate (l.length - (i + 1)) Sb.none_) (ks.set i (K, kc)) i (by rw [List.length_set, takeRep_len l (by omega)]; exact hk) (by rw [takeRep_len l (by omega)]; exact hi)
    rw [takeRep_at l hi] at e
    rw [← e]
    simpa using h
  · rw [List.set_set] at hk'
    by_cases e : j = i
    · subst e
      rw [List.getElem?_set_self (by omega)] at hk'
      injection hk' with hk'
      subst hk'
      obtain rfl := sbAt_eq hx'
      refine ⟨kks, hkk, ?_, fun m y q h1 h2 => (hkd m y q h1 h2).keep kid6⟩
      refine (ho.lower37 (by omega)).keepC fun g' hg' hr => Below.heap_setCell _ _ _ g' ?_
      show g' ≠ g
      omega
    · rw [List.getElem?_set_ne (fun h => e h.symm)] at hk'
      exact (hx j x k (by omega) hx' hk').keep kid6 (fun g' h1 h2 _ => far6 g' (by omega) h2)
/-- The copies, whatever they hold by now. -/
def CopO (w : World) (g base : Nat) (l : List Sb) (ks : List (Option Addr × Nat)) : Prop :=
  (∃ lw : List Sb, lw.length = l.length ∧ (∀ j, j < l.length → (sbAt lw j).whn.length = (sbAt l j).whn.length) ∧ Blk w g 52 (cellsSb lw ks).toArray) ∧
    ∀ (j : Nat) (x : Sb) (k : Option Addr × Nat), l[j]? = some x → ks[j]? = some k → ∃ xs, Own w (g + 1) 40 4 k.1 x.whn.length k.2 xs ∧ ∀ g', k.1 = some ⟨g', 0, none⟩ → g' < base
theorem OwnE.set {w : World} {base : Nat} {e : TypeId} {size : Nat} {A : Option Addr} {n c : Nat} (h : ∃ xs, Own w base e size A n c xs) (g j : Nat) (u : Value) : ∃ xs, Own (w.setCell ⟨g, j, none⟩ u) base e size A n c xs := by
  obtain ⟨xs, h⟩ := h
  rcases h.2 with ⟨hv, h0⟩ | ⟨g', cap, cur, hv, hg, hh, r⟩
  · exact ⟨xs, h.1, Or.inl ⟨hv, h0⟩⟩
  · injection hv with e1 e2 e3
    subst e1
    by_cases hgg : g' = g
    · subst hgg
      exact ⟨_, h.set j u⟩
    · exact ⟨xs, h.farS hgg u⟩
/-- A store into a copy's nodes. -/
theorem CopO.node {w : World} {g base : Nat} {l : List Sb} {ks : List (Option Addr × Nat)} (h : CopO w g base l ks) {g' : Nat} (hne : g ≠ g') (j : Nat) (u : Value) : CopO (w.setCell ⟨g', j, none⟩ u) g base l ks := by
  obtain ⟨⟨lw, h1, h2, h3⟩, h4⟩ := h
  refine ⟨⟨lw, h1, h2, h3.far hne u⟩, fun j x k hx hk => ?_⟩
  obtain ⟨xs, ho, hb⟩ := h4 j x k hx hk
  obtain ⟨ys, hy⟩ := OwnE.set ⟨xs, ho⟩ g' _ u
  exact ⟨ys, hy, hb⟩
theorem Own.blt {w : World} {base : Nat} {e : TypeId} {size g n c : Nat} {xs : List Value} (h : Own w base e size (some ⟨g, 0, none⟩) n c xs) : g < w.heap.size := by
  rcases h.2 with ⟨hv, _⟩ | ⟨g', cap, cur, hv, hg, hh, r⟩
  · cases hv
  · injection hv with e1 _ _
    injection e1 with e1
    injection e1 with e1 _ _
    subst e1
    exact (Array.getElem?_eq_some_iff.1 hh).1
theorem Own.belowB {w w' : World} {base B : Nat} {e : TypeId} {size n c : Nat} {A : Option Addr} {xs : List Value} (h : Own w base e size A n c xs) (hB : ∀ g, A = some ⟨g, 0, none⟩ → g < B) (hb : Below B w w') : Own w' base e size A n c xs := by
  refine ⟨h.1, ?_⟩
  rcases h.2 with h2 | ⟨g, cap, cur, hv, hg, hh, r⟩
  · exact Or.inl h2
  · injection hv with e1 e2 e3
    exact Or.inr ⟨g, cap, cur, by rw [e1, e3], hg, (hb.block g (hB g e1)).trans hh, r⟩
theorem CopO.below {w w' : World} {g base : Nat} {l : List Sb} {ks : List (Option Addr × Nat)} (h : CopO w g base l ks) (hb : Below base w w') (hg : g < base) : CopO w' g base l ks := by
  obtain ⟨⟨lw, h1, h2, h3⟩, h4⟩ := h
  refine ⟨⟨lw, h1, h2, h3.below hb hg⟩, fun j x k hx hk => ?_⟩
  obtain ⟨xs, ho, hB⟩ := h4 j x k hx hk
  exact ⟨xs, ho.belowB hB hb, hB⟩
theorem CopO.at_ {w : World} {g base : Nat} {l : List Sb} {ks : List (Option Addr × Nat)} (h : CopO w g base l ks) (hkl : ks.length = l.length) {i : Nat} (hi : i < l.length) {k : Option Addr × Nat} (hk : ks[i]? = some k) :
    w.cell? ⟨g, i * 4 + 3, none⟩ = some (.slice k.1 (sbAt l i).whn.length k.2) ∧ (∃ v, w.cell? ⟨g, i * 4 + 1, none⟩ = some v) ∧ (∃ v, w.cell? ⟨g, i * 4 + 2, none⟩ = some v) ∧ w.frozen? ⟨g, i * 4 + 1, none⟩ = false ∧ w.frozen? ⟨g, i * 4 + 2, none⟩ = false := by
  obtain ⟨⟨lw, h1, h2, h3⟩, _⟩ := h
  obtain ⟨q0, q1, q2, q3⟩ := cellsSb_get lw ks i (sbAt_get (by omega)) hk
  rw [h2 i hi] at q3
  refine ⟨?_, ⟨.int .i64 (sbAt lw i).tile, ?_⟩, ⟨.int .i64 (sbAt lw i).filt, ?_⟩, h3.frozen _, h3.frozen _⟩
  · rw [h3.cell]; simpa using q3
  · rw [h3.cell]; simpa using q1
  · rw [h3.cell]; simpa using q2
theorem CopO.spot {w : World} {g base : Nat} {l : List Sb} {ks : List (Option Addr × Nat)} (h : CopO w g base l ks) {i m : Nat} (hi : i < l.length) {k : Option Addr × Nat} (hk : ks[i]? = some k) (hm : m < (sbAt l i).whn.length) :
    ∃ g', k.1 = some ⟨g', 0, none⟩ ∧ g < g' ∧ g' < base ∧ ∀ j, j < (sbAt l i).whn.length * 4 → (∃ v, w.cell? ⟨g', j, none⟩ = some v) ∧ w.frozen? ⟨g', j, none⟩ = false := by
  obtain ⟨xs, ho, hB⟩ := h.2 i _ k (sbAt_get hi) hk
  obtain ⟨g', e, h1, h2, hc⟩ := ho.spot (by omega)
  refine ⟨g', e, h1, hB g' e, fun j hj => ?_⟩
  obtain ⟨e1, e2⟩ := hc j hj
  exact ⟨⟨_, by rw [e1]; exact List.getElem?_eq_getElem (by rw [ho.len]; exact hj)⟩, e2⟩
/-- Stores into a copy's Tile and Filter. -/
theorem CopO.top {w : World} {g base : Nat} {l : List Sb} {ks : List (Option Addr × Nat)} (hkl : ks.length = l.length) (h : CopO w g base l ks) {i : Nat} (hi : i < l.length) (y z : Int) :
    CopO ((w.setCell ⟨g, i * 4 + 1, none⟩ (.int .i64 y)).setCell ⟨g, i * 4 + 2, none⟩ (.int .i64 z)) g base l ks := by
  obtain ⟨⟨lw, h1, h2, h3⟩, h4⟩ := h
  obtain ⟨_, e1, _⟩ := cellsSb_set y lw ks i (by omega) (by omega)
  have hl1 : (lw.set i { sbAt lw i with tile := y }).length = lw.length := List.length_set ..
  obtain ⟨_, _, e2⟩ := cellsSb_set z (lw.set i { sbAt lw i with tile := y }) ks i (by omega) (by omega)
  have hs : sbAt (lw.set i { sbAt lw i with tile := y }) i = { sbAt lw i with tile := y } := by rw [sbAt_set (by omega), if_pos rfl]
  refine ⟨⟨(lw.set i { sbAt lw i with tile := y }).set i { sbAt (lw.set i { sbAt lw i with tile := y }) i with filt := z }, by simpa using h1, fun j hj => ?_, ?_⟩, fun j x k hx hk => ?_⟩
  · rw [hs, List.set_set, sbAt_set (by omega)]
    by_cases e : i = j
    · subst e
      rw [if_pos rfl]
      exact h2 i hj
    · rw [if_neg e]
      exact h2 j hj
  · have h := (h3.set_ (i * 4 + 1) (.int .i64 y)).set_ (i * 4 + 2) (.int .i64 z)
    rw [← e2, ← e1]
    simpa using h
  · obtain ⟨xs, ho, hb⟩ := h4 j x k hx hk
    obtain ⟨ys, hy⟩ := OwnE.set (OwnE.set ⟨xs, ho⟩ g (i * 4 + 1) (.int .i64 y)) g (i * 4 + 2) (.int .i64 z)
    exact ⟨ys, hy, hb⟩
/-- What the changes leave. -/
structure KpC (g base : Nat) (w w' : World) : Prop where
  bel : Below g w w'
  far : ∀ b, base ≤ b → w'.heap[b]? = w.heap[b]?
  size : w'.heap.size = w.heap.size
theorem KpC.refl (g base : Nat) (w : World) : KpC g base w w := ⟨Below.refl _ _, fun _ _ => rfl, rfl⟩
theorem KpC.set {g base : Nat} {w w' : World} (h : KpC g base w w') {b : Nat} (h1 : g ≤ b) (h2 : b < base) (j : Nat) (u : Value) : KpC g base w (w'.setCell ⟨b, j, none⟩ u) :=
  ⟨h.bel.setCell h1 u, fun k hk => (Below.heap_setCell w' ⟨b, j, none⟩ u k (by show k ≠ b; omega)).trans (h.far k hk), by simpa [World.setCell] using h.size⟩
/-- What an index answers. -/
def imF (l : List Sb) (a : Al) : List Int × Int × Int := if alValid a = true then (matchL l a, ((catL37 l a).length : Int), 0) else ([], 0, 1)
theorem imF_any (p : Nat) (a : Al) (l : List Sb) (base kb : Nat) (w : World) (hi : IxAt w base kb p l) (hkb : kb ≤ w.heap.size) (hok : SbsOk l) (hl : l.length ≤ 64) :
    Calls Tryz.prog 37 #[.pointer (some ⟨p, 0, none⟩), .agg a.cells] w fun e w' =>
      ∃ A c, e = .returned (.tuple #[.slice A (imF l a).1.length c, .int .i64 (imF l a).2.1, .int .i64 (imF l a).2.2]) ∧ Own w' w.heap.size 3 1 A (imF l a).1.length c (ints (imF l a).1) ∧ Below w.heap.size w w' := by
  unfold imF
  cases ha : alValid a
  · refine (imatch_bad p a w ha).mono ?_
    rintro e w' ⟨rfl, hb⟩
    exact ⟨none, 0, rfl, Own.nil _ _ _ _, hb⟩
  · refine (imatch_own p a l base kb w hi hkb ha hok hl).mono ?_
    rintro e w' ⟨A, c, rfl, ho, hb⟩
    exact ⟨A, c, rfl, ho, hb⟩
theorem imF_len (l : List Sb) (a : Al) : (imF l a).1.length ≤ l.length := by
  unfold imF
  cases ha : alValid a
  · exact Nat.zero_le _
  · rw [if_pos rfl]
    show (matchL l a).length ≤ _
    rw [matchL_sel ha]
    exact selL_len _ _
set_option maxRecDepth 100000 in
set_option maxHeartbeats 8000000 in
theorem fcopies_any (A : Option Addr) (c : Nat) (l : List Sb) (a : Al) (w : World) (h : SubsAt w w.heap.size A l) (ho : SbsOk l) (hn : l.length ≤ maxLen) :
    Calls Tryz.prog 10 #[.slice A l.length c, .agg a.cells] w fun e w' => e = .returned (.bool true) ∧ Below w.heap.size w w' := by
  have HO := hide ho
  have hb0 : Below w.heap.size w (w.alloc (Obj.cells a.cells 54)) := (Below.refl _ _).alloc (Nat.le_refl _) _
  have hq0 : Blk (w.alloc (Obj.cells a.cells 54)) w.heap.size 54 a.cells := Blk.new _ _ _
  have H := hide (h.next hb0)
  have HN := hide hn
  have HB0 := hide hb0
  have HQ0 := hide hq0
  clear h ho hn hb0 hq0
  go_enter Tryz.func10, Tryz.ntmps10
  go_wp2_with fail
  generalize w.alloc (Obj.cells a.cells 54) = w0 at H HB0 HQ0 ⊢
  obtain ⟨q, hq⟩ : ∃ q, q = w.heap.size := ⟨_, rfl⟩
  rw [← hq] at HQ0 ⊢
  clear hq
  refine (head37_any w0).mono ?_
  rintro e w1 ⟨rfl, hb1⟩
  have HB1 := hide (HB0.out.trans (hb1.mono HB0.out.size))
  have H1 := hide (H.out.next hb1)
  have HQ1 := hide (HQ0.out.below hb1 HQ0.out.lt)
  clear hb1 H HB0 HQ0
  go_wp2_with fail
  refine (lfew37_any A c l w1 H1.out HO.out HN.out).mono ?_
  rintro e w1' ⟨rfl, rfl⟩
  cases hf : few37 l
  · clear hf
    go_wp2
    go_ret
    exact ⟨rfl, HB1.out⟩
  have HL := hide (few37_len hf)
  have HFA := hide (few37_all hf)
  clear hf
  have hll : l.length ≤ 65 := HL.out
  have hmk := fun (w : World) => make_runS (P := Tryz.prog) 50 52 (.agg #[.int .i64 0, .int .i64 0, .int .i64 0, .slice none 0 0]) 4 48 Tryz.underlying50 sub_info l.length (by omega) (by omega) w
  have HI0 : Hid (CopI (w1.alloc (Obj.cells (madeCells #[.int .i64 0, .int .i64 0, .int .i64 0, .slice none 0 0] (l.length * 4)) 52)) w1.heap.size l 0) := hide ⟨List.replicate l.length (none, 0), by simp, by
    have h := Blk.new w1 52 (madeCells #[.int .i64 0, .int .i64 0, .int .i64 0, .slice none 0 0] (l.length * 4))
    rw [madeSb] at h ⊢
    simpa using h, fun j x k hj => absurd hj (Nat.not_lt_zero _)⟩
  have HB2 : Hid (Below w1.heap.size w1 (w1.alloc (Obj.cells (madeCells #[.int .i64 0, .int .i64 0, .int .i64 0, .slice none 0 0] (l.length * 4)) 52))) := hide ((Below.refl _ _).alloc (Nat.le_refl _) _)
  obtain ⟨g, hg⟩ : ∃ g, g = w1.heap.size := ⟨_, rfl⟩
  go_wp2_with fail
  generalize w1.alloc (Obj.cells (madeCells #[.int .i64 0, .int .i64 0, .int .i64 0, .slice none 0 0] (l.length * 4)) 52) = w2 at HI0 HB2 ⊢
  clear hmk
  have HG1 : Hid (Below g w1 w2) := hide (by rw [hg]; exact HB2.out)
  have HG2 : Hid (CopI w2 g l 0) := hide (by rw [hg]; exact HI0.out)
  have HG3 : Hid (SubsAt w1 g A l) := hide (by rw [hg]; exact H1.out)
  have HG4 : Hid (w.heap.size ≤ g) := hide (by rw [hg]; exact HB1.out.size)
  have HG5 : Hid (q < g) := hide (by rw [hg]; exact HQ1.out.lt)
  rw [← hg]
  clear hg HI0 HB2 H1
  go_loopw [7] (fun t7 wr => ∃ i : Nat, i ≤ l.length ∧ t7 = .int .i64 i ∧ CopI wr g l i ∧ Below g w1 wr) (fun t7 _ => l.length - (intOf t7).toNat)
  case atStart => exact ⟨0, Nat.zero_le _, rfl, HG2.out, HG1.out⟩
  case round =>
    obtain ⟨i, hi, rfl, hci, hbi⟩ := hrel
    have HCI := hide hci
    have HBI := hide hbi
    clear hci hbi HG2 HG1
    by_cases hin : i < l.length
    · have hin' : (i : Int) < (l.length : Int) := Int.ofNat_lt.2 hin
      have i0 : (0 : Int) ≤ (i : Int) := Int.natCast_nonneg i
      obtain ⟨ks, hk1, hk2, hk3⟩ := HCI.out
      obtain ⟨b, off, K, kc, rfl, hbb, g0, g1, g2, g3, hex⟩ := (HG3.out.below HBI.out).at_ hin
      have HEX := hide hex
      have HK1 := hide hk1
      have HK2 := hide hk2
      have HK3 := hide hk3
      have hc : ∀ j, j < 4 → ∃ v, wr.cell? ⟨g, i * 4 + j, none⟩ = some v := fun j hj => by
        rw [hk2.cell]
        exact ⟨_, Array.getElem?_eq_getElem (by simp; rw [cellsSb_len _ _ (by rw [takeRep_len l hi]; exact hk1), takeRep_len l hi]; omega)⟩
      obtain ⟨v0, d0⟩ := hc 0 (by omega)
      obtain ⟨v1, d1⟩ := hc 1 (by omega)
      obtain ⟨v2, d2⟩ := hc 2 (by omega)
      obtain ⟨v3, d3⟩ := hc 3 (by omega)
      rw [Nat.add_zero] at d0
      have f0 := hk2.frozen (i * 4)
      have f1 := hk2.frozen (i * 4 + 1)
      have f2 := hk2.frozen (i * 4 + 2)
      have f3 := hk2.frozen (i * 4 + 3)
      have hbg : ¬ b = g := by omega
      have hgb : ¬ g = b := fun e => hbg e.symm
      have HGW : Hid (g < wr.heap.size) := hide hk2.lt
      clear hc hk1 hk2 hk3 hex
      go_upto_region 9 with (fail)
      obtain ⟨w4, hw4⟩ : ∃ w4, w4 = (((wr.setCell ⟨g, i * 4, none⟩ (.int .i64 (sbAt l i).prog)).setCell ⟨g, i * 4 + 1, none⟩ (.int .i64 (sbAt l i).tile)).setCell ⟨g, i * 4 + 2, none⟩ (.int .i64 (sbAt l i).filt)).setCell ⟨g, i * 4 + 3, none⟩ (.slice K (sbAt l i).whn.length kc) := ⟨_, rfl⟩
      rw [← hw4]
      have hr4 : Below g wr w4 := by rw [hw4]; exact ((((Below.refl g wr).setCell (Nat.le_refl _) _).setCell (Nat.le_refl _) _).setCell (Nat.le_refl _) _).setCell (Nat.le_refl _) _
      have hz4 : w4.heap.size = wr.heap.size := by rw [hw4]; simp [World.setCell]
      have G3 : w4.cell? ⟨b, off + i * 4 + 3, none⟩ = some (.slice K (sbAt l i).whn.length kc) := (hr4.cell (p := ⟨b, off + i * 4 + 3, none⟩) hbb).trans g3
      have hb4 := (((HK2.out.set_ (i * 4) (.int .i64 (sbAt l i).prog)).set_ (i * 4 + 1) (.int .i64 (sbAt l i).tile)).set_ (i * 4 + 2) (.int .i64 (sbAt l i).filt)).set_ (i * 4 + 3) (.slice K (sbAt l i).whn.length kc)
      rw [← hw4] at hb4
      have hcl : ∃ v, w4.cell? ⟨g, i * 4 + 3, none⟩ = some v := by
        rw [hb4.cell]
        exact ⟨_, Array.getElem?_eq_getElem (by simp; rw [cellsSb_len _ _ (by rw [takeRep_len l hi]; exact HK1.out), takeRep_len l hi]; omega)⟩
      obtain ⟨v4, hv4⟩ := hcl
      have HCF : Hid (∀ w6, Below w4.heap.size w4 w6 → w6.cell? ⟨g, i * 4 + 3, none⟩ = some v4 ∧ w6.frozen? ⟨g, i * 4 + 3, none⟩ = false) := hide (fun w6 h6 => by
        have h := hb4.below h6 (by rw [hz4]; exact HGW.out)
        exact ⟨(h6.cell (p := ⟨g, i * 4 + 3, none⟩) (by show g < _; rw [hz4]; exact HGW.out)).trans hv4, h.frozen _⟩)
      obtain ⟨kks, hkk, hrd, hkd⟩ := HEX.out
      have HKK := hide hkk
      have hgw4 : g ≤ w4.heap.size := by rw [hz4]; exact Nat.le_of_lt HGW.out
      have HRD := hide ((hrd.below hr4).more hgw4)
      have HKD := hide hkd
      have HW4 := hide hw4
      have HR4 := hide hr4
      have HSL : Hid ((sbAt l i).whn.length ≤ 30) := hide (HFA.out _ (sbAt_mem hin)).1
      have HB4 := hide (HBI.out.trans hr4)
      have HZ4 := hide hz4
      have HO5 : Hid (Own (w4.alloc (Obj.cells #[] 40)) w4.heap.size 40 4 (some ⟨w4.heap.size, 0, none⟩) 0 0 []) := hide (World.ownsRow_made w4 #[] 0 (Nat.le_refl _) (Nat.zero_le _) rfl)
      have HB5 : Hid (Below w4.heap.size w4 (w4.alloc (Obj.cells #[] 40))) := hide ((Below.refl _ _).alloc (Nat.le_refl _) _)
      have HR5 := hide (HRD.out.alloc (Nat.le_refl _) (Obj.cells #[] 40))
      have hp0 : 0 + (sbAt l i).whn.length ≤ maxLen := by have := HSL.out; unfold maxLen; omega
      have hp1 : (0 + (sbAt l i).whn.length) * 56 ≤ 140737488355328 := by have := HSL.out; omega
      have hb5s := HB5.out.size
      have G5 : (w4.alloc (Obj.cells #[] 40)).cell? ⟨b, off + i * 4 + 3, none⟩ = some (.slice K (sbAt l i).whn.length kc) := (World.cell?_alloc_lt w4 _ ⟨b, off + i * 4 + 3, none⟩ (by show b < _; exact Nat.lt_of_lt_of_le hbb hgw4)).trans G3
      clear hgw4
      clear hw4 hr4 hz4 hb4 hv4 hkk hrd hkd g0 g1 g2 g3 d0 d1 d2 d3 f0 f1 f2 f3 HCI HEX
      go_wp2_with (first
        | (at_builtin; refine wpList_app_own (by rfl) (.tmp 41) (.tmp 46) 23 rfl w4.heap.size 40 (.agg #[.int .i64 0, .int .i64 0, .string ByteArray.empty, .slice none 0 0]) 4 56 Tryz.underlying23 nod_info rfl (by omega) (some ⟨w4.heap.size, 0, none⟩) 0 0 [] rfl HO5.out _ _ (sbAt l i).whn.length _ (cellsN (sbAt l i).whn kks) rfl HR5.out (cellsN_one _ _) hp0 hp1 hb5s ?_; intro A6 c6 w6 hown6 hb6; rw [Nat.zero_add, List.nil_append] at hown6; rw [Nat.zero_add]; have HO6 := hide hown6; have HB6 := hide (HB5.out.trans hb6); obtain ⟨x6, y6⟩ := HCF.out w6 HB6.out; clear hown6 hb6))
      go_roundw
      case rel => exact ⟨i + 1, by omega, by go_num, copI_step hin HGW.out HK1.out HK2.out HK3.out HW4.out HB6.out HO6.out HKK.out HKD.out, (HB4.out.trans (HB6.out.mono (by rw [HZ4.out]; exact Nat.le_of_lt HGW.out))).setCell (Nat.le_refl _) _⟩
      case measure => simp [intOf]; omega
    · obtain rfl : i = l.length := by omega
      obtain ⟨ks, hk1, hk2, hk3⟩ := HCI.out
      rw [Nat.sub_self, List.replicate_zero, List.append_nil, List.take_length] at hk2
      have hgw : g < wr.heap.size := hk2.lt
      have HK1 := hide hk1
      have SK : Hid (SubsK wr wr.heap.size g (some ⟨g, 0, none⟩) l) := hide ⟨ks, hk1, Reads.of_blk hk2 (cellsSb_len _ _ hk1), fun j x k hx hk => by
        obtain ⟨kks, e1, e2, e3⟩ := hk3 j x k (List.getElem?_eq_some_iff.1 hx).1 hx hk
        exact ⟨kks, e1, e2.reads, e3⟩⟩
      obtain ⟨base, hbase⟩ : ∃ base, base = wr.heap.size := ⟨_, rfl⟩
      have CO : Hid (CopO wr g base l ks) := hide ⟨⟨l, rfl, fun _ _ => rfl, hk2⟩, fun j x k hx hk => by
        obtain ⟨kks, e1, e2, e3⟩ := hk3 j x k (List.getElem?_eq_some_iff.1 hx).1 hx hk
        exact ⟨_, e2, fun g' hg' => by rw [hg'] at e2; rw [hbase]; exact e2.blt⟩⟩
      have HGB : Hid (g < base) := hide (by rw [hbase]; exact hgw)
      have hgl : g ≤ wr.heap.size := Nat.le_of_lt hgw
      clear hk1 hk2 hk3 HCI
      go_wp2_with fail
      refine (fnew_any (some ⟨g, 0, none⟩) l.length l g wr SK.out hgl HO.out HN.out).mono ?_
      rintro e w5 ⟨hp, hb5⟩
      have HB5 := hide (HBI.out.trans (hb5.mono hgl))
      have CO5 := hide (CO.out.below (by rw [hbase]; exact hb5) HGB.out)
      have HBS : Hid (base ≤ w5.heap.size) := hide (by rw [hbase]; exact hb5.size)
      have HBX := hide (HB1.out.trans (HB5.out.mono HG4.out))
      clear CO SK hb5 HBI hgw hgl
      cases hv : sbsValid l
      · rw [if_neg (by rw [hv]; decide)] at hp
        subst hp
        clear hv
        go_wp2
        go_ret
        exact ⟨rfl, HBX.out⟩
      · rw [if_pos hv] at hp
        obtain ⟨p, rfl, hix⟩ := hp
        rw [← hbase] at hix
        have HIX := hide hix
        have HV := hide (sbs_len hv)
        have HQ5 := hide (HQ1.out.below HB5.out HG5.out)
        clear hix hv hbase
        obtain ⟨c0, c1, c2, c3, c4⟩ := al_hold HQ5.out
        have HGS : Hid (g ≤ w5.heap.size) := hide (by have := HGB.out; have := HBS.out; omega)
        go_wp2_with fail
        refine (imF_any p a l base g w5 HIX.out HGS.out HO.out HV.out).mono ?_
        rintro e w6 ⟨A1, cc1, rfl, ho1, hb6⟩
        have HIX6 := hide (HIX.out.below hb6 HGS.out)
        have HO1 := hide ho1
        have CO6 := hide (CO5.out.below (hb6.mono HBS.out) HGB.out)
        have HB6 := hide (HB5.out.trans (hb6.mono HGS.out))
        have HGS6 : Hid (g ≤ w6.heap.size) := hide (Nat.le_trans HGS.out hb6.size)
        have HML : Hid ((imF l a).1.length ≤ 65) := hide (Nat.le_trans (imF_len l a) HL.out)
        have HIM : Hid (∀ w, IxAt w base g p l → g ≤ w.heap.size → Calls Tryz.prog 37 #[.pointer (some ⟨p, 0, none⟩), .agg a.cells] w fun e w' =>
          ∃ A c, e = .returned (.tuple #[.slice A (imF l a).1.length c, .int .i64 (imF l a).2.1, .int .i64 (imF l a).2.2]) ∧ Own w' w.heap.size 3 1 A (imF l a).1.length c (ints (imF l a).1) ∧ Below w.heap.size w w') := hide (fun w h1 h2 => imF_any p a l base g w h1 h2 HO.out HV.out)
        clear ho1 hb6 HIX CO5 HB5 HQ5 c0 c1 c2 c3 c4 HBX
        generalize imF l a = r at HO1 HML HIM ⊢
        obtain ⟨mm, cnt, err⟩ := r
        dsimp only at HO1 HML HIM ⊢
        go_wp2_with fail
        go_loopw [13, 14] (fun t13 t14 wz => ∃ i : Nat, i ≤ l.length ∧ t13 = .int .i64 i ∧ CopO wz g base l ks ∧ KpC g base w6 wz) (fun t13 _ _ => l.length - (intOf t13).toNat)
        case atStart => exact ⟨0, Nat.zero_le _, rfl, CO6.out, KpC.refl _ _ _⟩
        case round =>
          obtain ⟨i, hi, rfl, hco, hkp⟩ := hrel
          have HCO := hide hco
          have HKP := hide hkp
          clear hco hkp CO6
          by_cases hin : i < l.length
          · have hin' : (i : Int) < (l.length : Int) := Int.ofNat_lt.2 hin
            have i0 : (0 : Int) ≤ (i : Int) := Int.natCast_nonneg i
            have hs30 : (sbAt l i).whn.length ≤ 30 := (HFA.out _ (sbAt_mem hin)).1
            obtain ⟨kk, hkk⟩ : ∃ kk, ks[i]? = some kk := ⟨_, List.getElem?_eq_getElem (by rw [HK1.out]; exact hin)⟩
            have HKI := hide hkk
            obtain ⟨wo, hwo⟩ : ∃ wo : World, wo = wr := ⟨_, rfl⟩
            subst hwo
            obtain ⟨kA, kC⟩ := kk
            clear hkk
            go_wp2_with fail
            go_loopw [14] (fun t14 wy => ∃ m : Nat, m ≤ (sbAt l i).whn.length ∧ t14 = .int .i64 m ∧ CopO wy g base l ks ∧ KpC g base w6 wy) (fun t14 _ => (sbAt l i).whn.length - (intOf t14).toNat)
            case atStart => exact ⟨0, Nat.zero_le _, rfl, HCO.out, HKP.out⟩
            case round =>
              obtain ⟨m, hm, rfl, hco, hkp⟩ := hrel
              have HCO2 := hide hco
              have HKP2 := hide hkp
              clear hco hkp HCO HKP
              obtain ⟨p3, ⟨v1, p1⟩, ⟨v2, p2⟩, f1, f2⟩ := HCO2.out.at_ HK1.out hin HKI.out
              dsimp only at p3
              have m0 : (0 : Int) ≤ (m : Int) := Int.natCast_nonneg m
              by_cases hmm : m < (sbAt l i).whn.length
              · obtain ⟨g', rfl, hg1, hg2, hc⟩ := HCO2.out.spot hin HKI.out hmm
                obtain ⟨⟨y0, d0⟩, e0⟩ := hc (m * 4) (by omega)
                obtain ⟨⟨y1, d1⟩, e1⟩ := hc (m * 4 + 1) (by omega)
                obtain ⟨⟨y2, d2⟩, e2⟩ := hc (m * 4 + 2) (by omega)
                obtain ⟨⟨y3, d3⟩, e3⟩ := hc (m * 4 + 3) (by omega)
                have hmm' : (m : Int) < ((sbAt l i).whn.length : Int) := Int.ofNat_lt.2 hmm
                have HG1 := hide hg1
                have HG2 := hide hg2
                have hgne : ¬ g = g' := by omega
                have hgne' : ¬ g' = g := by omega
                clear hc hg1 hg2 p1 p2 f1 f2
                go_wp2_with fail
                go_roundw
                case rel => exact ⟨m + 1, by omega, by go_num, (((HCO2.out.node hgne _ _).node hgne _ _).node hgne _ _).node hgne _ _, (((HKP2.out.set (Nat.le_of_lt HG1.out) HG2.out _ _).set (Nat.le_of_lt HG1.out) HG2.out _ _).set (Nat.le_of_lt HG1.out) HG2.out _ _).set (Nat.le_of_lt HG1.out) HG2.out _ _⟩
                case measure => simp [intOf]; omega
              · obtain rfl : m = (sbAt l i).whn.length := by omega
                go_wp2_with fail
                go_roundw
                case rel => exact ⟨i + 1, by omega, by go_num, HCO2.out.top HK1.out hin 3 3, (HKP2.out.set (Nat.le_refl _) HGB.out _ _).set (Nat.le_refl _) HGB.out _ _⟩
                case measure => simp [intOf]; omega
          · obtain rfl : i = l.length := by omega
            have HIXZ : Hid (IxAt wr base g p l) := hide (HIX6.out.keep (fun q hq => World.cell?_of_block (HKP.out.bel.block q.block hq)) (fun b hb _ => HKP.out.far b hb))
            have HOZ : Hid (Own wr w5.heap.size 3 1 A1 mm.length cc1 (ints mm)) := hide (HO1.out.keepC (fun b hb _ => HKP.out.far b (Nat.le_trans HBS.out hb)))
            have hgz : g ≤ wr.heap.size := by rw [HKP.out.size]; exact HGS6.out
            have HBZ := hide (HB6.out.trans HKP.out.bel)
            have HQZ := hide (HQ1.out.below HBZ.out HG5.out)
            obtain ⟨c0, c1, c2, c3, c4⟩ := al_hold HQZ.out
            clear HIX6 HO1 HKP HCO
            go_wp2_with fail
            refine (HIM.out wr HIXZ.out hgz).mono ?_
            rintro e w7 ⟨A2, cc2, rfl, ho2, hb7⟩
            have HR1 : Hid (RI w7 w7.heap.size A1 mm.length mm) := hide (Own.ri (HOZ.out.below hb7))
            have HR2 : Hid (RI w7 w7.heap.size A2 mm.length mm) := hide (Own.ri ho2)
            have HB7 := hide (HB1.out.trans ((HBZ.out.trans (hb7.mono hgz)).mono HG4.out))
            clear ho2 hb7 HOZ HIXZ HQZ HBZ c0 c1 c2 c3 c4
            have hmx : mm.length ≤ 100000 := by have := HML.out; omega
            have be : (err == err) = true := beq_self_eq_true _
            have bc : (cnt == cnt) = true := beq_self_eq_true _
            go_wp2_with fail
            refine (ints37_any A1 cc1 mm A2 cc2 mm w7 HR1.out HR2.out hmx hmx).mono ?_
            rintro e wz ⟨rfl, nz, rfl⟩
            rw [decide_eq_true rfl]
            have HBF := hide (below_drewN HB7.out nz)
            generalize w7.drewN nz = wz at HBF ⊢
            go_wp2
            go_ret
            exact ⟨rfl, HBF.out⟩
theorem fcopies_walk (A : Option Addr) (c : Nat) (l : List Sb) (a : Al) (w : World) (h : SubsAt w w.heap.size A l) (ho : SbsOk l) (hn : l.length ≤ maxLen) (hc : l.length ≤ c) (hc2 : c ≤ maxLen)
    (_ : (Lit.int .i64 a.tile).wf = true ∧ (Lit.int .i64 a.cell).wf = true ∧ (Lit.int .i64 a.filt).wf = true ∧ (Lit.int .i64 a.val).wf = true ∧ (Lit.int .i64 a.mom).wf = true) :
    Calls Tryz.prog 10 #[.slice A l.length c, .agg a.cells] w fun e w' => e = .returned (.bool true) ∧ Below w.heap.size w w' :=
  fcopies_any A c l a w h ho hn
end Go.Proofs.YtkofmiegnfgbjaaGreatDoor
