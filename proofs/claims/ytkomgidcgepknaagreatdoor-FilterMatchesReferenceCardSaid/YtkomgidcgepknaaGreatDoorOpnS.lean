/-
  From arguments that are subscriptions and alerts, as the row reads them, to what the walks ask of them.
-/
import Derived.Test.YtkomgidcgepknaaGreatDoorOpnV
import Derived.Test.YtkomgidcgepknaaGreatDoorFall
set_option linter.unusedVariables false
set_option linter.unusedSimpArgs false
namespace Go.Proofs.YtkomgidcgepknaaGreatDoor
open Go.RowKit Go.ChangeShapes Go.WideShapes Go.Deep

instance : Inhabited Sb := ⟨Sb.none_⟩
theorem array5 {α : Type} {cs : Array α} (h : cs.size = 5) : ∃ c0 c1 c2 c3 c4, cs = #[c0, c1, c2, c3, c4] := by
  obtain ⟨l⟩ := cs
  match l, h with
  | [c0, c1, c2, c3, c4], _ => exact ⟨c0, c1, c2, c3, c4, rfl⟩
section
variable {H : Type} {enc : TypeId × Value → H} {P : Program} {w : World} {base : Nat} {spare : Nat → Bool} {held : Bool}
theorem trod_struct5 {t : TypeId} {f0 f1 f2 f3 f4 : Field} {fuel : Nat} {cs : List Value} {x : DataW H × List MemPlace} (ht : P.underlying t = some (.struct #[f0, f1, f2, f3, f4])) (h : DataW.trod enc P w base spare held fuel t cs = some x) :
    ∃ y0 y1 y2 y3 y4 n, cs.length = P.cellsOf t ∧ DataW.trod enc P w base spare held n f0.type ((cs.drop f0.offset).take (P.cellsOf f0.type)) = some y0 ∧
      DataW.trod enc P w base spare held n f1.type ((cs.drop f1.offset).take (P.cellsOf f1.type)) = some y1 ∧ DataW.trod enc P w base spare held n f2.type ((cs.drop f2.offset).take (P.cellsOf f2.type)) = some y2 ∧
      DataW.trod enc P w base spare held n f3.type ((cs.drop f3.offset).take (P.cellsOf f3.type)) = some y3 ∧ DataW.trod enc P w base spare held n f4.type ((cs.drop f4.offset).take (P.cellsOf f4.type)) = some y4 := by
  obtain ⟨xs, n, _, rfl, hl, hlen, hf⟩ := DataW.trod_struct ht h
  match xs, hlen with
  | [y0, y1, y2, y3, y4], _ => exact ⟨y0, y1, y2, y3, y4, n, hl, by simpa using hf 0 f0 rfl, by simpa using hf 1 f1 rfl, by simpa using hf 2 f2 rfl, by simpa using hf 3 f3 rfl, by simpa using hf 4 f4 rfl⟩
/-- An argument of type 'Alert'. -/
theorem al_of_val {r : Reach} {b0 : Nat} {t : TypeId} {f0 f1 f2 f3 f4 : Field} {v : Value} {d : DataW H} {p : List MemPlace} (hs : P.underlying t = some (.struct #[f0, f1, f2, f3, f4])) (hone : oneCellFields P #[f0, f1, f2, f3, f4] = true) (hC : P.cellsOf t = 5)
    (u0 : P.underlying f0.type = some (.int .i64)) (u1 : P.underlying f1.type = some (.int .i64)) (u2 : P.underlying f2.type = some (.int .i64)) (u3 : P.underlying f3.type = some (.int .i64)) (u4 : P.underlying f4.type = some (.int .i64))
    (hv : Value.okWide P w r b0 t v) (h : DataW.Trod enc P w base spare held t v d p) :
    ∃ a : Al, v = .agg a.cells ∧ (Lit.int .i64 a.tile).wf = true ∧ (Lit.int .i64 a.cell).wf = true ∧ (Lit.int .i64 a.filt).wf = true ∧ (Lit.int .i64 a.val).wf = true ∧ (Lit.int .i64 a.mom).wf = true := by
  obtain ⟨cs, rfl, hsz⟩ := okWide_struct hs hv
  obtain ⟨c0, c1, c2, c3, c4, rfl⟩ := array5 (hsz.trans hC)
  obtain ⟨fuel, hf⟩ := h
  obtain ⟨y0, y1, y2, y3, y4, n, _, g0, g1, g2, g3, g4⟩ := trod_struct5 hs hf
  obtain ⟨o0, k0⟩ := hone_of hone 0 f0 rfl
  obtain ⟨o1, k1⟩ := hone_of hone 1 f1 rfl
  obtain ⟨o2, k2⟩ := hone_of hone 2 f2 rfl
  obtain ⟨o3, k3⟩ := hone_of hone 3 f3 rfl
  obtain ⟨o4, k4⟩ := hone_of hone 4 f4 rfl
  obtain ⟨n0, e0, _, h0⟩ := DataW.trod_int u0 g0
  obtain ⟨n1, e1, _, h1⟩ := DataW.trod_int u1 g1
  obtain ⟨n2, e2, _, h2⟩ := DataW.trod_int u2 g2
  obtain ⟨n3, e3, _, h3⟩ := DataW.trod_int u3 g3
  obtain ⟨n4, e4, _, h4⟩ := DataW.trod_int u4 g4
  refine ⟨⟨n0, n1, n2, n3, n4⟩, ?_, h0, h1, h2, h3, h4⟩
  simp [Value.cells, o0, k0] at e0
  simp [Value.cells, o1, k1] at e1
  simp [Value.cells, o2, k2] at e2
  simp [Value.cells, o3, k3] at e3
  simp [Value.cells, o4, k4] at e4
  rw [e0, e1, e2, e3, e4]
  rfl
/-- A reading of cells of type 'Expr'. -/
theorem expr_of_trod {t e ek : TypeId} {f0 f1 f2 f3 : Field} {fuel : Nat} {cs : List Value} {x : DataW H × List MemPlace}
    (ht : P.underlying t = some (.slice e)) (he : P.underlying e = some (.struct #[f0, f1, f2, f3])) (ce : P.cellsOf e = 4) (o0 : f0.offset = 0) (o1 : f1.offset = 1) (o2 : f2.offset = 2) (o3 : f3.offset = 3)
    (c0 : P.cellsOf f0.type = 1) (c1 : P.cellsOf f1.type = 1) (c2 : P.cellsOf f2.type = 1) (c3 : P.cellsOf f3.type = 1)
    (u0 : P.underlying f0.type = some (.int .i64)) (u1 : P.underlying f1.type = some (.int .i64)) (u2 : P.underlying f2.type = some .string) (u3 : P.underlying f3.type = some (.slice ek)) (uk : P.underlying ek = some (.int .i64)) (ck : P.cellsOf ek = 1)
    (hf : DataW.trod enc P w base spare held fuel t cs = some x) :
    ∃ A c es, cs = [.slice A es.length c] ∧ ExprAt w w.heap.size A es ∧ es.length ≤ maxLen ∧ ∀ x ∈ es, x.name.size ≤ maxLen ∧ x.kids.length ≤ maxLen ∧ (Lit.int .i64 x.op).wf = true ∧ (Lit.int .i64 x.n).wf = true ∧ ∀ k ∈ x.kids, (Lit.int .i64 k).wf = true := by
  have hcs : ∃ A n c, cs = [.slice A n c] := by
    rcases open_slice ht hf with ⟨hcs, _⟩ | ⟨x, l, c, m, n, D, Pl, hcs, _⟩
    · exact ⟨none, 0, 0, hcs⟩
    · exact ⟨some x, l, c, hcs⟩
  obtain ⟨A, n, c, rfl⟩ := hcs
  have hT : DataW.Trod enc P w base spare held t (.slice A n c) x.1 x.2 := ⟨fuel, by simpa [Value.cells] using hf⟩
  obtain ⟨es, rfl, h1, h2, h3⟩ := expr_of_arg ht he ce o0 o1 o2 o3 c0 c1 c2 c3 u0 u1 u2 u3 uk ck hT
  exact ⟨A, c, es, rfl, h1, h2, h3⟩

/-- An argument of type '[]Subscription'. -/
theorem subs_of_arg {t e : TypeId} {s0 s1 s2 s3 : Field} {ee ek : TypeId} {f0 f1 f2 f3 : Field} {a : Option Addr} {len cap : Nat} {d : DataW H} {p : List MemPlace}
    (ht : P.underlying t = some (.slice e)) (he : P.underlying e = some (.struct #[s0, s1, s2, s3])) (ce : P.cellsOf e = 4) (o0 : s0.offset = 0) (o1 : s1.offset = 1) (o2 : s2.offset = 2) (o3 : s3.offset = 3)
    (c0 : P.cellsOf s0.type = 1) (c1 : P.cellsOf s1.type = 1) (c2 : P.cellsOf s2.type = 1) (c3 : P.cellsOf s3.type = 1)
    (u0 : P.underlying s0.type = some (.int .i64)) (u1 : P.underlying s1.type = some (.int .i64)) (u2 : P.underlying s2.type = some (.int .i64))
    (ht' : P.underlying s3.type = some (.slice ee)) (he' : P.underlying ee = some (.struct #[f0, f1, f2, f3])) (ce' : P.cellsOf ee = 4) (o0' : f0.offset = 0) (o1' : f1.offset = 1) (o2' : f2.offset = 2) (o3' : f3.offset = 3)
    (c0' : P.cellsOf f0.type = 1) (c1' : P.cellsOf f1.type = 1) (c2' : P.cellsOf f2.type = 1) (c3' : P.cellsOf f3.type = 1)
    (u0' : P.underlying f0.type = some (.int .i64)) (u1' : P.underlying f1.type = some (.int .i64)) (u2' : P.underlying f2.type = some .string) (u3' : P.underlying f3.type = some (.slice ek)) (uk : P.underlying ek = some (.int .i64)) (ck : P.cellsOf ek = 1)
    (h : DataW.Trod enc P w base spare held t (.slice a len cap) d p) :
    ∃ l : List Sb, l.length = len ∧ SubsAt w w.heap.size a l ∧ SbsOk l ∧ len ≤ maxLen ∧ len ≤ cap ∧ cap ≤ maxLen := by
  obtain ⟨fuel, hf⟩ := h
  rcases open_slice ht hf with ⟨hcs, _⟩ | ⟨x, l, c, m, n, D, Pl, hcs, _, hl, hm, hmm, _, hx⟩
  · simp [Value.cells] at hcs
    obtain ⟨rfl, rfl, rfl⟩ := hcs
    exact ⟨[], rfl, SubsAt.none_, fun s hs => by simp at hs, Nat.zero_le _, Nat.le_refl _, Nat.zero_le _⟩
  · simp [Value.cells] at hcs
    obtain ⟨rfl, rfl, rfl⟩ := hcs
    have hlm : len ≤ m := by rw [hmm]; split <;> omega
    have each : ∀ i, i < len → ∃ y : Sb × (Option Addr × Nat), (w.cell? (x.add (i * 4)) = some (.int .i64 y.1.prog) ∧ w.cell? (x.add (i * 4 + 1)) = some (.int .i64 y.1.tile) ∧ w.cell? (x.add (i * 4 + 2)) = some (.int .i64 y.1.filt) ∧ w.cell? (x.add (i * 4 + 3)) = some (.slice y.2.1 y.1.whn.length y.2.2)) ∧
        ExprAt w w.heap.size y.2.1 y.1.whn ∧ ((∀ z ∈ y.1.whn, z.name.size ≤ maxLen) ∧ y.1.whn.length ≤ maxLen ∧ ∀ z ∈ y.1.whn, z.kids.length ≤ maxLen) := by
      intro i hi
      obtain ⟨cs', h1, h2⟩ := hx i (by omega)
      rw [ce] at h1
      obtain ⟨_, hlen, hcell⟩ := World.cells?_some h1
      obtain ⟨y0, y1, y2, y3, k, _, _, g0, g1, g2, g3⟩ := Go.Joins.trod_struct4 he h2
      rw [o0, c0] at g0
      rw [o1, c1] at g1
      rw [o2, c2] at g2
      rw [o3, c3] at g3
      obtain ⟨n0, e0, _, _⟩ := DataW.trod_int u0 g0
      obtain ⟨n1, e1, _, _⟩ := DataW.trod_int u1 g1
      obtain ⟨n2, e2, _, _⟩ := DataW.trod_int u2 g2
      obtain ⟨A, ck', zs, e3, hex, hnk, hall⟩ := expr_of_trod ht' he' ce' o0' o1' o2' o3' c0' c1' c2' c3' u0' u1' u2' u3' uk ck g3
      have k0 := hcell 0 (by omega)
      have k1 := hcell 1 (by omega)
      have k2 := hcell 2 (by omega)
      have k3 := hcell 3 (by omega)
      rw [add_of_add] at k0 k1 k2 k3
      exact ⟨(⟨n0, n1, n2, zs⟩, (A, ck')), ⟨k0.trans (cells_one e0), k1.trans (cells_one e1), k2.trans (cells_one e2), k3.trans (cells_one e3)⟩, hex, fun z hz => (hall z hz).1, hnk, fun z hz => (hall z hz).2.1⟩
    haveI : Inhabited (Sb × (Option Addr × Nat)) := ⟨(Sb.none_, (none, 0))⟩
    obtain ⟨q, hq⟩ := choose_lt each
    have hget : ∀ i, i < len → ((List.range len).map fun i => (q i).1)[i]? = some (q i).1 := fun i hi => by
      rw [List.getElem?_map, List.getElem?_range hi]; rfl
    have hgetk : ∀ i, i < len → ((List.range len).map fun i => (q i).2)[i]? = some (q i).2 := fun i hi => by
      rw [List.getElem?_map, List.getElem?_range hi]; rfl
    have hle : ((List.range len).map fun i => (q i).1).length = len := by rw [List.length_map, List.length_range]
    refine ⟨(List.range len).map fun i => (q i).1, hle, ⟨(List.range len).map fun i => (q i).2, by simp, ?_, fun i y k hy hk => ?_⟩, fun r hr => ?_, by omega, hl, hm⟩
    · rw [hle]
      refine ⟨by rw [cellsSb_len _ _ (by simp), hle], fun hn => ⟨x, rfl, ?_, fun j u hu => ?_⟩⟩
      · have := World.block_lt_of_cell? w (x.add (0 * 4)) (hq 0 hn).1.1
        rwa [block_of_add] at this
      · have hj : j < len * 4 := by
          have := (List.getElem?_eq_some_iff.1 hu).1
          rwa [cellsSb_len _ _ (by simp), hle] at this
        have hi : j / 4 < len := by omega
        obtain ⟨g0, g1, g2, g3⟩ := cellsSb_get _ _ (j / 4) (hget _ hi) (hgetk _ hi)
        obtain ⟨⟨k0, k1, k2, k3⟩, _⟩ := hq _ hi
        have hj3 : j = j / 4 * 4 ∨ j = j / 4 * 4 + 1 ∨ j = j / 4 * 4 + 2 ∨ j = j / 4 * 4 + 3 := by omega
        rcases hj3 with e | e | e | e
        · rw [← e] at g0 k0
          exact k0.trans (g0.symm.trans hu)
        · rw [← e] at g1 k1
          exact k1.trans (g1.symm.trans hu)
        · rw [← e] at g2 k2
          exact k2.trans (g2.symm.trans hu)
        · rw [← e] at g3 k3
          exact k3.trans (g3.symm.trans hu)
    · have hi : i < len := by
        have := (List.getElem?_eq_some_iff.1 hy).1
        rwa [hle] at this
      have e1 := (hget i hi).symm.trans hy
      have e2 := (hgetk i hi).symm.trans hk
      injection e1 with e1
      injection e2 with e2
      subst e1 e2
      exact (hq i hi).2.1
    · obtain ⟨i, hi, rfl⟩ := List.mem_map.1 hr
      exact (hq i (List.mem_range.1 hi)).2.2
end
end Go.Proofs.YtkomgidcgepknaaGreatDoor
