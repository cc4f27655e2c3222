/-
  From arguments that are expressions and variables, as the row reads them, to what the walks ask of them.
-/
import Derived.Test.YtkomgidcgepknaaGreatDoorMeM
import Derived.Test.YtkomgidcgepknaaGreatDoorNodA
import Derived.ProofKit
import Derived.OpenShut
import Derived.Deep.Slices
import Derived.Deep.Strs
import Derived.ChangeSame
import Derived.Lib.SmallJoins
set_option linter.unusedVariables false
set_option linter.unusedSimpArgs false
namespace Go.Proofs.YtkomgidcgepknaaGreatDoor
open Go.RowKit Go.ChangeShapes Go.WideShapes Go.Deep

instance : Inhabited Vr := ⟨⟨ByteArray.empty, 0⟩⟩
theorem one_of {x : List Value} {v : Value} (h : x = [v]) : x[0]? = some v := by rw [h]; rfl
theorem cells_one {cs : List Value} {k : Nat} {v : Value} (h : (cs.drop k).take 1 = [v]) : cs[k]? = some v := by
  have := one_of h
  rw [List.getElem?_take, if_pos (by decide), List.getElem?_drop] at this
  simpa using this
section
variable {H : Type} {enc : TypeId × Value → H} {P : Program} {w : World} {base : Nat} {spare : Nat → Bool} {held : Bool}
theorem ri_of_trod {t e : TypeId} {fuel : Nat} {cs : List Value} {x : DataW H × List MemPlace}
    (ht : P.underlying t = some (.slice e)) (he : P.underlying e = some (.int .i64)) (hc : P.cellsOf e = 1) (hf : DataW.trod enc P w base spare held fuel t cs = some x) :
    ∃ A n c zs, cs = [.slice A n c] ∧ RI w w.heap.size A n zs ∧ n ≤ maxLen ∧ ∀ z ∈ zs, (Lit.int .i64 z).wf = true := by
  rcases open_ints ht he hc hf with ⟨hcs, _⟩ | ⟨x, l, c, zs, hcs, _, hl, hm, hz, _, hcell, hwz⟩
  · exact ⟨none, 0, 0, [], hcs, RI.none_, Nat.zero_le _, by simp⟩
  · have hlen : l ≤ zs.length := by rw [hz]; split <;> omega
    refine ⟨some x, l, c, zs.take l, hcs, ⟨by simp; omega, fun hn => ⟨x, rfl, ?_, fun j u hu => ?_⟩⟩, by omega, fun z hzm => hwz z (List.mem_of_mem_take hzm)⟩
    · have := World.block_lt_of_cell? w (x.add 0) (hcell 0 (by omega))
      rwa [block_of_add] at this
    · have hj : j < l := by
        have := (List.getElem?_eq_some_iff.1 hu).1
        simp at this; omega
      rw [hcell j (by omega)]
      simp only [ints, List.map_take, List.getElem?_take, hj, if_true, List.getElem?_map] at hu
      rw [List.getElem?_eq_getElem (by omega : j < zs.length)] at hu
      simpa [List.getElem?_eq_getElem (by omega : j < zs.length)] using hu

/-- An argument of type '[]Var'. -/
theorem vr_of_arg {t e : TypeId} {f0 f1 : Field} {a : Option Addr} {len cap : Nat} {d : DataW H} {p : List MemPlace}
    (ht : P.underlying t = some (.slice e)) (he : P.underlying e = some (.struct #[f0, f1])) (ce : P.cellsOf e = 2) (o0 : f0.offset = 0) (o1 : f1.offset = 1)
    (c0 : P.cellsOf f0.type = 1) (c1 : P.cellsOf f1.type = 1)
    (u0 : P.underlying f0.type = some .string) (u1 : P.underlying f1.type = some (.int .i64))
    (h : DataW.Trod enc P w base spare held t (.slice a len cap) d p) :
    ∃ rs : List Vr, RVr w w.heap.size a len rs ∧ len ≤ maxLen ∧ ∀ r ∈ rs, r.name.size ≤ maxLen ∧ (Lit.int .i64 r.val).wf = true := by
  obtain ⟨fuel, hf⟩ := h
  rcases open_slice ht hf with ⟨hcs, _⟩ | ⟨x, l, c, m, n, D, Pl, hcs, _, hl, hm, hmm, _, hx⟩
  · simp [Value.cells] at hcs
    obtain ⟨rfl, rfl, rfl⟩ := hcs
    exact ⟨[], ⟨rfl, fun h => absurd h (Nat.lt_irrefl _)⟩, Nat.zero_le _, by simp⟩
  · simp [Value.cells] at hcs
    obtain ⟨rfl, rfl, rfl⟩ := hcs
    have hlm : len ≤ m := by rw [hmm]; split <;> omega
    have each : ∀ i, i < len → ∃ r : Vr, (w.cell? (x.add (i * 2)) = some (.string r.name) ∧ w.cell? (x.add (i * 2 + 1)) = some (.int .i64 r.val)) ∧
        r.name.size ≤ maxLen ∧ (Lit.int .i64 r.val).wf = true := by
      intro i hi
      obtain ⟨cs', h1, h2⟩ := hx i (by omega)
      rw [ce] at h1
      obtain ⟨_, hlen, hcell⟩ := World.cells?_some h1
      obtain ⟨y0, y1, k, _, _, g0, g1⟩ := trod_struct2 he h2
      rw [o0, c0] at g0
      rw [o1, c1] at g1
      obtain ⟨s, e0, _, hs⟩ := DataW.trod_string u0 g0
      obtain ⟨n1, e1, _, hn1⟩ := DataW.trod_int u1 g1
      have k0 := hcell 0 (by omega)
      have k1 := hcell 1 (by omega)
      rw [add_of_add] at k0 k1
      exact ⟨⟨s, n1⟩, ⟨k0.trans (cells_one e0), k1.trans (cells_one e1)⟩, hs, hn1⟩
    obtain ⟨q, hq⟩ := choose_lt each
    have hget : ∀ i, i < len → ((List.range len).map q)[i]? = some (q i) := fun i hi => by
      rw [List.getElem?_map, List.getElem?_range hi]; rfl
    refine ⟨(List.range len).map q, ⟨by rw [cellsV_len, List.length_map, List.length_range], fun hn => ⟨x, rfl, ?_, fun j u hu => ?_⟩⟩, by omega, fun r hr => ?_⟩
    · have := World.block_lt_of_cell? w (x.add (0 * 2)) (hq 0 hn).1.1
      rwa [block_of_add] at this
    · have hj : j < len * 2 := by
        have := (List.getElem?_eq_some_iff.1 hu).1
        rwa [cellsV_len, List.length_map, List.length_range] at this
      have hi : j / 2 < len := by omega
      obtain ⟨g0, g1⟩ := cellsV_get _ (j / 2) (hget _ hi)
      obtain ⟨⟨k0, k1⟩, _⟩ := hq _ hi
      have hj3 : j = j / 2 * 2 ∨ j = j / 2 * 2 + 1 := by omega
      rcases hj3 with e | e
      · rw [← e] at g0 k0
        exact k0.trans (g0.symm.trans hu)
      · rw [← e] at g1 k1
        exact k1.trans (g1.symm.trans hu)
    · obtain ⟨i, hi, rfl⟩ := List.mem_map.1 hr
      exact (hq i (List.mem_range.1 hi)).2

/-- An argument of type 'Expr', '[]Node'. -/
theorem expr_of_arg {t e ek : TypeId} {f0 f1 f2 f3 : Field} {a : Option Addr} {len cap : Nat} {d : DataW H} {p : List MemPlace}
    (ht : P.underlying t = some (.slice e)) (he : P.underlying e = some (.struct #[f0, f1, f2, f3])) (ce : P.cellsOf e = 4) (o0 : f0.offset = 0) (o1 : f1.offset = 1) (o2 : f2.offset = 2) (o3 : f3.offset = 3)
    (c0 : P.cellsOf f0.type = 1) (c1 : P.cellsOf f1.type = 1) (c2 : P.cellsOf f2.type = 1) (c3 : P.cellsOf f3.type = 1)
    (u0 : P.underlying f0.type = some (.int .i64)) (u1 : P.underlying f1.type = some (.int .i64)) (u2 : P.underlying f2.type = some .string) (u3 : P.underlying f3.type = some (.slice ek)) (uk : P.underlying ek = some (.int .i64)) (ck : P.cellsOf ek = 1)
    (h : DataW.Trod enc P w base spare held t (.slice a len cap) d p) :
    ∃ es : List Nod, es.length = len ∧ ExprAt w w.heap.size a es ∧ len ≤ maxLen ∧ ∀ x ∈ es, x.name.size ≤ maxLen ∧ x.kids.length ≤ maxLen ∧ (Lit.int .i64 x.op).wf = true ∧ (Lit.int .i64 x.n).wf = true ∧ ∀ k ∈ x.kids, (Lit.int .i64 k).wf = true := by
  obtain ⟨fuel, hf⟩ := h
  rcases open_slice ht hf with ⟨hcs, _⟩ | ⟨x, l, c, m, n, D, Pl, hcs, _, hl, hm, hmm, _, hx⟩
  · simp [Value.cells] at hcs
    obtain ⟨rfl, rfl, rfl⟩ := hcs
    exact ⟨[], rfl, ExprAt.none_, Nat.zero_le _, by simp⟩
  · simp [Value.cells] at hcs
    obtain ⟨rfl, rfl, rfl⟩ := hcs
    have hlm : len ≤ m := by rw [hmm]; split <;> omega
    have each : ∀ i, i < len → ∃ y : Nod × (Option Addr × Nat), (w.cell? (x.add (i * 4)) = some (.int .i64 y.1.op) ∧ w.cell? (x.add (i * 4 + 1)) = some (.int .i64 y.1.n) ∧ w.cell? (x.add (i * 4 + 2)) = some (.string y.1.name) ∧ w.cell? (x.add (i * 4 + 3)) = some (.slice y.2.1 y.1.kids.length y.2.2)) ∧
        RI w w.heap.size y.2.1 y.1.kids.length y.1.kids ∧ (y.1.name.size ≤ maxLen ∧ y.1.kids.length ≤ maxLen ∧ (Lit.int .i64 y.1.op).wf = true ∧ (Lit.int .i64 y.1.n).wf = true ∧ ∀ k ∈ y.1.kids, (Lit.int .i64 k).wf = true) := by
      intro i hi
      obtain ⟨cs', h1, h2⟩ := hx i (by omega)
      rw [ce] at h1
      obtain ⟨_, hlen, hcell⟩ := World.cells?_some h1
      obtain ⟨y0, y1, y2, y3, k, _, _, g0, g1, g2, g3⟩ := Go.Joins.trod_struct4 he h2
      rw [o0, c0] at g0
      rw [o1, c1] at g1
      rw [o2, c2] at g2
      rw [o3, c3] at g3
      obtain ⟨n0, e0, _, hn0⟩ := DataW.trod_int u0 g0
      obtain ⟨n1, e1, _, hn1⟩ := DataW.trod_int u1 g1
      obtain ⟨s, e2, _, hs⟩ := DataW.trod_string u2 g2
      obtain ⟨A, nk, ck', zs, e3, hri, hnk, hwf⟩ := ri_of_trod u3 uk ck g3
      have hzl : zs.length = nk := hri.len
      subst hzl
      have k0 := hcell 0 (by omega)
      have k1 := hcell 1 (by omega)
      have k2 := hcell 2 (by omega)
      have k3 := hcell 3 (by omega)
      rw [add_of_add] at k0 k1 k2 k3
      exact ⟨(⟨n0, n1, s, zs⟩, (A, ck')), ⟨k0.trans (cells_one e0), k1.trans (cells_one e1), k2.trans (cells_one e2), k3.trans (cells_one e3)⟩, hri, hs, hnk, hn0, hn1, hwf⟩
    haveI : Inhabited (Nod × (Option Addr × Nat)) := ⟨(⟨0, 0, ByteArray.empty, []⟩, (none, 0))⟩
    obtain ⟨q, hq⟩ := choose_lt each
    have hget : ∀ i, i < len → ((List.range len).map fun i => (q i).1)[i]? = some (q i).1 := fun i hi => by
      rw [List.getElem?_map, List.getElem?_range hi]; rfl
    have hgetk : ∀ i, i < len → ((List.range len).map fun i => (q i).2)[i]? = some (q i).2 := fun i hi => by
      rw [List.getElem?_map, List.getElem?_range hi]; rfl
    have hle : ((List.range len).map fun i => (q i).1).length = len := by rw [List.length_map, List.length_range]
    refine ⟨(List.range len).map fun i => (q i).1, hle, ⟨(List.range len).map fun i => (q i).2, by simp, ?_, fun i y k hy hk => ?_⟩, by omega, fun r hr => ?_⟩
    · rw [hle]
      refine ⟨by rw [cellsN_len _ _ (by simp), hle], fun hn => ⟨x, rfl, ?_, fun j u hu => ?_⟩⟩
      · have := World.block_lt_of_cell? w (x.add (0 * 4)) (hq 0 hn).1.1
        rwa [block_of_add] at this
      · have hj : j < len * 4 := by
          have := (List.getElem?_eq_some_iff.1 hu).1
          rwa [cellsN_len _ _ (by simp), hle] at this
        have hi : j / 4 < len := by omega
        obtain ⟨g0, g1, g2, g3⟩ := cellsN_get _ _ (j / 4) (hget _ hi) (hgetk _ hi)
        obtain ⟨⟨k0, k1, k2, k3⟩, _⟩ := hq _ hi
        have hj3 : j = j / 4 * 4 ∨ j = j / 4 * 4 + 1 ∨ j = j / 4 * 4 + 2 ∨ j = j / 4 * 4 + 3 := by omega
        rcases hj3 with e | e | e | e
        · rw [← e] at g0 k0
          exact k0.trans (g0.symm.trans hu)
        · rw [← e] at g1 k1
          exact k1.trans (g1.symm.trans hu)
        · rw [← e] at g2 k2
          exact k2.trans (g2.symm.trans hu)
        · rw [← e] at g3 k3
          exact k3.trans (g3.symm.trans hu)
    · have hi : i < len := by
        have := (List.getElem?_eq_some_iff.1 hy).1
        rwa [hle] at this
      have e1 := (hget i hi).symm.trans hy
      have e2 := (hgetk i hi).symm.trans hk
      injection e1 with e1
      injection e2 with e2
      subst e1 e2
      exact (hq i hi).2.1
    · obtain ⟨i, hi, rfl⟩ := List.mem_map.1 hr
      exact (hq i (List.mem_range.1 hi)).2.2
/-- A slice of an argument takes no more bytes than the reading does. -/
theorem reach_of {t e : TypeId} {a : Option Addr} {len cap : Nat} {d : DataW H} {p : List MemPlace} {ts : List TypeId} {ds : List (DataW H)} {j : Nat} (hsz : (DataW.weightsEach P ts ds).all (· ≤ reachBytes) = true) (hj : ts[j]? = some t) (hd : ds[j]? = some d)
    (ht : P.underlying t = some (.slice e)) (h : DataW.Trod enc P w base spare held t (.slice a len cap) d p) : len * P.bytesOf e ≤ 140737488351232 := by
  obtain ⟨fuel, hf⟩ := h
  rcases open_slice ht hf with ⟨hcs, _⟩ | ⟨x, l, c, m, n, D, Pl, hcs, _, hl, hm, hmm, hx, _⟩
  · simp [Value.cells] at hcs
    obtain ⟨rfl, rfl, rfl⟩ := hcs
    omega
  · simp [Value.cells] at hcs
    obtain ⟨rfl, rfl, rfl⟩ := hcs
    injection hx with hx _
    subst hx
    have := sized_slice hsz hj hd ht
    simp only [List.length_map, List.length_range, reachBytes, Nat.add_mul] at this
    omega
/-- An argument of type 'Var'. -/
theorem vr_of_val {r : Reach} {b0 : Nat} {t : TypeId} {f0 f1 : Field} {v : Value} {d : DataW H} {p : List MemPlace} (hs : P.underlying t = some (.struct #[f0, f1])) (hone : oneCellFields P #[f0, f1] = true) (hC : P.cellsOf t = 2)
    (u0 : P.underlying f0.type = some .string) (u1 : P.underlying f1.type = some (.int .i64)) (hv : Value.okWide P w r b0 t v) (h : DataW.Trod enc P w base spare held t v d p) :
    ∃ x : Vr, v = .agg #[.string x.name, .int .i64 x.val] ∧ x.name.size ≤ maxLen ∧ (Lit.int .i64 x.val).wf = true := by
  obtain ⟨v0, v1, y0, y1, n, rfl, _, _, g0, g1⟩ := Go.Joins.open_agg2 hs hone hC hv h
  obtain ⟨s, e0, _, hs0⟩ := DataW.trod_string u0 g0
  obtain ⟨n1, e1, _, h1⟩ := DataW.trod_int u1 g1
  injection e0 with e0
  injection e1 with e1
  exact ⟨⟨s, n1⟩, by rw [e0, e1], hs0, h1⟩
end
end Go.Proofs.YtkomgidcgepknaaGreatDoor
