/-
  Chapter 54: from arguments that are slices of texts, of flags and of steps, as the row reads them, to what the walks ask of them.
-/
import Derived.Test.YtnoihbbfodkejaaHead
import Derived.ProofKit
import Derived.OpenShut
import Derived.SliceStrings
import Derived.Deep.Grids
import Derived.Deep.Slices
import Derived.Deep.Fields
import Derived.ChangeSame
namespace Go.Proofs.Ytnoihbbfodkejaa
open Go.RowKit Go.ChangeShapes Go.WideShapes Go.Deep

/-- The list of flags as cells. -/
def bools (xs : List Bool) : List Value := xs.map Value.bool
def RB (w : World) (B : Nat) (A : Option Addr) (n : Nat) (xs : List Bool) : Prop := Reads w B 1 A n (bools xs)
section
variable {w w' : World} {B B' n : Nat} {A : Option Addr} {xs : List Bool}
theorem RB.len (h : RB w B A n xs) : xs.length = n := by have := h.1; simpa [bools] using this
theorem RB.at_ {k : Nat} (h : RB w B A n xs) (hk : k < n) : ∃ b off, A = some ⟨b, off, none⟩ ∧ b < B ∧ w.cell? ⟨b, off + k, none⟩ = some (.bool (xs.getD k false)) := by
  obtain ⟨ad, e, hb, hc⟩ := h.2 (by omega)
  have hg : ∀ k, k < n → (bools xs)[k]? = some (.bool (xs.getD k false)) := by
    intro k hk
    have : k < xs.length := by rw [h.len]; exact hk
    simp [bools, List.getElem?_eq_getElem this]
  have h0 := hc k _ (hg k hk)
  obtain ⟨b, off, spot⟩ := ad
  have hsp : spot = none := by
    have := hc 0 _ (hg 0 (by omega))
    simpa [Addr.add] using World.cell?_spot this
  subst hsp
  rw [add_lit] at h0
  exact ⟨b, off, e, hb, h0⟩
theorem RB.next (h : RB w w.heap.size A n xs) (hb : Below w.heap.size w w') : RB w' w'.heap.size A n xs := (Reads.below h hb).more hb.size
end

theorem rs_of_arg {H : Type} {enc : TypeId × Value → H} {P : Program} {w : World} {base : Nat} {spare : Nat → Bool} {held : Bool} {t e : TypeId} {a : Option Addr} {len cap : Nat} {d : DataW H} {p : List MemPlace}
    (ht : P.underlying t = some (.slice e)) (he : P.underlying e = some .string) (hc : P.cellsOf e = 1) (h : DataW.Trod enc P w base spare held t (.slice a len cap) d p) :
    ∃ ss : List ByteArray, RS w w.heap.size a len ss ∧ len ≤ maxLen ∧ ∀ s ∈ ss, s.size ≤ maxLen := by
  obtain ⟨fuel, hf⟩ := h
  rcases open_strings ht he hc hf with ⟨hcs, _⟩ | ⟨x, l, c, ss, hcs, _, hl, hm, hz, _, hcell, hsz⟩
  · simp [Value.cells] at hcs
    obtain ⟨rfl, rfl, rfl⟩ := hcs
    exact ⟨[], RS.none_, Nat.zero_le _, by simp⟩
  · simp [Value.cells] at hcs
    obtain ⟨rfl, rfl, rfl⟩ := hcs
    have hlen : len ≤ ss.length := by rw [hz]; split <;> omega
    refine ⟨ss.take len, ⟨by simp [strs_length]; omega, fun hn => ⟨x, rfl, ?_, fun j u hu => ?_⟩⟩, by omega, fun s hs => hsz s (List.mem_of_mem_take hs)⟩
    · have := World.block_lt_of_cell? w (x.add 0) (hcell 0 (by omega))
      rwa [block_of_add] at this
    · have hj : j < len := by
        have := (List.getElem?_eq_some_iff.1 hu).1
        rw [strs_length, List.length_take] at this; omega
      rw [hcell j (by omega)]
      simp only [Go.Proofs.Ytnoihbbfodkejaa.strs, List.map_take, List.getElem?_take, hj, if_true, List.getElem?_map] at hu
      rw [List.getElem?_eq_getElem (by omega : j < ss.length)] at hu
      simpa [List.getElem?_eq_getElem (by omega : j < ss.length)] using hu

theorem rsc_of_arg {H : Type} {enc : TypeId × Value → H} {P : Program} {w : World} {base : Nat} {spare : Nat → Bool} {held : Bool} {t e : TypeId} {a : Option Addr} {len cap : Nat} {d : DataW H} {p : List MemPlace}
    (ht : P.underlying t = some (.slice e)) (he : P.underlying e = some .string) (hc : P.cellsOf e = 1) (h : DataW.Trod enc P w base spare held t (.slice a len cap) d p) :
    ∃ ss : List ByteArray, RS w w.heap.size a len ss ∧ len ≤ maxLen ∧ (∀ s ∈ ss, s.size ≤ maxLen) ∧ len ≤ cap := by
  obtain ⟨fuel, hf⟩ := h
  rcases open_strings ht he hc hf with ⟨hcs, _⟩ | ⟨x, l, c, ss, hcs, _, hl, hm, hz, _, hcell, hsz⟩
  · simp [Value.cells] at hcs
    obtain ⟨rfl, rfl, rfl⟩ := hcs
    exact ⟨[], RS.none_, Nat.zero_le _, by simp, Nat.zero_le _⟩
  · simp [Value.cells] at hcs
    obtain ⟨rfl, rfl, rfl⟩ := hcs
    have hlen : len ≤ ss.length := by rw [hz]; split <;> omega
    refine ⟨ss.take len, ⟨by simp [strs_length]; omega, fun hn => ⟨x, rfl, ?_, fun j u hu => ?_⟩⟩, by omega, fun s hs => hsz s (List.mem_of_mem_take hs), by omega⟩
    · have := World.block_lt_of_cell? w (x.add 0) (hcell 0 (by omega))
      rwa [block_of_add] at this
    · have hj : j < len := by
        have := (List.getElem?_eq_some_iff.1 hu).1
        rw [strs_length, List.length_take] at this; omega
      rw [hcell j (by omega)]
      simp only [Go.Proofs.Ytnoihbbfodkejaa.strs, List.map_take, List.getElem?_take, hj, if_true, List.getElem?_map] at hu
      rw [List.getElem?_eq_getElem (by omega : j < ss.length)] at hu
      simpa [List.getElem?_eq_getElem (by omega : j < ss.length)] using hu

theorem rb_of_arg {H : Type} {enc : TypeId × Value → H} {P : Program} {w : World} {base : Nat} {held : Bool} {t e : TypeId} {a : Option Addr} {len cap : Nat} {d : DataW H} {p : List MemPlace}
    (ht : P.underlying t = some (.slice e)) (he : P.underlying e = some .bool) (hc : P.cellsOf e = 1) (h : DataW.Trod enc P w base (fun _ => true) held t (.slice a len cap) d p) :
    ∃ bs : List Bool, RB w w.heap.size a len bs ∧ len ≤ maxLen := by
  obtain ⟨fuel, hf⟩ := h
  rcases open_bools ht he hc hf with ⟨hcs, _⟩ | ⟨x, l, c, B, hcs, _, hl, hm, _, hcell⟩
  · simp [Value.cells] at hcs
    obtain ⟨rfl, rfl, rfl⟩ := hcs
    exact ⟨[], Reads.none_, Nat.zero_le _⟩
  · simp [Value.cells] at hcs
    obtain ⟨rfl, rfl, rfl⟩ := hcs
    refine ⟨(List.range len).map B, ⟨by simp [bools], fun hn => ⟨x, rfl, ?_, fun j u hu => ?_⟩⟩, by omega⟩
    · have := World.block_lt_of_cell? w (x.add 0) (hcell 0 (by omega))
      rwa [block_of_add] at this
    · have hj : j < len := by
        have := (List.getElem?_eq_some_iff.1 hu).1
        simpa [bools] using this
      rw [hcell j (by omega)]
      simpa [bools, hj] using hu

section
variable {H : Type} {enc : TypeId × Value → H} {P : Program} {w : World} {base : Nat} {spare : Nat → Bool} {held : Bool}
theorem open_slice_fields {t e : TypeId} {fs : Array Field} {fuel : Nat} {cs : List Value} {x : DataW H × List MemPlace} (ht : P.underlying t = some (.slice e)) (he : P.underlying e = some (.struct fs))
    (hone : oneCellFields P fs = true) (hC : P.cellsOf e = fs.size) (h : DataW.trod enc P w base spare held fuel t cs = some x) :
    (cs = [.slice none 0 0] ∧ x = (.nil, [])) ∨
    ∃ (a : Addr) (len cap m : Nat) (D : Nat → DataW H) (Pl : Nat → List MemPlace), cs = [.slice (some a) len cap] ∧ base ≤ a.block ∧ len ≤ cap ∧ cap ≤ maxLen ∧ m = (if spare a.block then cap else len) ∧
      x = (.slice ((List.range len).map D) ((List.range (m - len)).map fun j => D (len + j)), MemPlace.row a (m * fs.size) ++ (List.range m).flatMap Pl) ∧
      ∀ i, i < m → ∃ (ys : List (DataW H × List MemPlace)) (n : Nat), D i = .agg (ys.map (·.1)) ∧ Pl i = ys.flatMap (·.2) ∧ ys.length = fs.size ∧
        ∀ (j : Nat) (f : Field), fs[j]? = some f → ∃ (v : Value) (y : DataW H × List MemPlace), w.cell? (a.add (i * fs.size + j)) = some v ∧ ys[j]? = some y ∧ DataW.trod enc P w base spare held n f.type [v] = some y := by
  rcases open_slice ht h with h0 | ⟨a, len, cap, m, n, D, Pl, hcs, hb, hl, hm, hmm, hx, hi⟩
  · exact .inl h0
  · refine .inr ⟨a, len, cap, m, D, Pl, hcs, hb, hl, hm, hmm, by rw [hC] at hx; exact hx, fun i him => ?_⟩
    obtain ⟨cs', hc, ht'⟩ := hi i him
    rw [hC] at hc
    obtain ⟨ys, n', hn', hy, hlen, hyl, hf⟩ := DataW.trod_struct he ht'
    obtain ⟨_, hcl, hat⟩ := World.cells?_some hc
    simp only [Prod.mk.injEq] at hy
    refine ⟨ys, n', hy.1, hy.2, hyl, fun j f hj => ?_⟩
    obtain ⟨ho, hk⟩ := hone_of hone j f hj
    have hjl : j < fs.size := (Array.getElem?_eq_some_iff.1 hj).1
    have hcell := hat j hjl
    have hv : cs'[j]? = some (cs'[j]'(by omega)) := List.getElem?_eq_getElem (by omega)
    have h1 := hf j f hj
    rw [ho, hk] at h1
    have hone' : (cs'.drop j).take 1 = [cs'[j]'(by omega)] := by
      rw [List.drop_eq_getElem_cons (by omega)]
      rfl
    rw [hone'] at h1
    have hys : ys[j]? = some (ys[j]'(by omega)) := List.getElem?_eq_getElem (by omega)
    refine ⟨_, _, ?_, hys, h1.trans hys⟩
    rw [← Go.Deep.add_add, hcell, hv]
end

theorem choose_below {α : Type} [Inhabited α] {p : Nat → α → Prop} (n : Nat) (h : ∀ i, i < n → ∃ x, p i x) : ∃ f : Nat → α, ∀ i, i < n → p i (f i) := by
  induction n with
  | zero => exact ⟨fun _ => default, fun i hi => absurd hi (by omega)⟩
  | succ n ih =>
    obtain ⟨f, hf⟩ := ih (fun i hi => h i (by omega))
    obtain ⟨x, hx⟩ := h n (by omega)
    refine ⟨fun i => if i = n then x else f i, fun i hi => ?_⟩
    by_cases e : i = n
    · subst e; simpa using hx
    · simp only [e, if_false]; exact hf i (by omega)

/-- The fields of a step that Go can hold. -/
def St.wf (x : St) : Prop := (Lit.int .i64 x.kind).wf = true ∧ (Lit.int .i64 x.a).wf = true ∧ (Lit.int .i64 x.b).wf = true ∧ (Lit.int .i64 x.n).wf = true ∧ x.text.size ≤ maxLen
instance : Inhabited St := ⟨St.none_⟩

theorem rst_of_arg {H : Type} {enc : TypeId × Value → H} {w : World} {base : Nat} {spare : Nat → Bool} {held : Bool} {a : Option Addr} {len cap : Nat} {d : DataW H} {p : List MemPlace}
    (h : DataW.Trod enc Try.prog w base spare held 37 (.slice a len cap) d p) :
    ∃ xs : List St, RSt w w.heap.size a len xs ∧ len ≤ maxLen ∧ ∀ x ∈ xs, x.wf := by
  obtain ⟨fuel, hf⟩ := h
  rcases open_slice_fields Try.underlying37 Try.underlying46 (by kernel_rfl) (by kernel_rfl) hf with ⟨hcs, _⟩ | ⟨x, l, c, m, D, Pl, hcs, _, hl, hm, hmm, _, hi⟩
  · simp [Value.cells] at hcs
    obtain ⟨rfl, rfl, rfl⟩ := hcs
    exact ⟨[], Reads.none_, Nat.zero_le _, by simp⟩
  · simp [Value.cells] at hcs
    obtain ⟨rfl, rfl, rfl⟩ := hcs
    have hlen : len ≤ m := by rw [hmm]; split <;> omega
    have each : ∀ i, i < len → ∃ s : St, s.wf ∧ ∀ j, j < 7 → w.cell? (x.add (i * 7 + j)) = s.cells[j]? := by
      intro i hi'
      obtain ⟨ys, n, _, _, _, hfs⟩ := hi i (by omega)
      obtain ⟨u0, y0, c0, _, t0⟩ := hfs 0 _ rfl
      obtain ⟨u1, y1, c1, _, t1⟩ := hfs 1 _ rfl
      obtain ⟨u2, y2, c2, _, t2⟩ := hfs 2 _ rfl
      obtain ⟨u3, y3, c3, _, t3⟩ := hfs 3 _ rfl
      obtain ⟨u4, y4, c4, _, t4⟩ := hfs 4 _ rfl
      obtain ⟨u5, y5, c5, _, t5⟩ := hfs 5 _ rfl
      obtain ⟨u6, y6, c6, _, t6⟩ := hfs 6 _ rfl
      obtain ⟨m0, e0, _, w0⟩ := DataW.trod_int Try.underlying3 t0
      obtain ⟨m1, e1, _, w1⟩ := DataW.trod_int Try.underlying3 t1
      obtain ⟨m2, e2, _, w2⟩ := DataW.trod_int Try.underlying3 t2
      obtain ⟨m3, e3, _, w3⟩ := DataW.trod_int Try.underlying3 t3
      obtain ⟨m4, e4, _, w4⟩ := DataW.trod_string Try.underlying9 t4
      obtain ⟨m5, e5, _⟩ := DataW.trod_bool Try.underlying4 t5
      obtain ⟨m6, e6, _⟩ := DataW.trod_bool Try.underlying4 t6
      simp only [List.cons.injEq, and_true] at e0 e1 e2 e3 e4 e5 e6
      subst e0 e1 e2 e3 e4 e5 e6
      refine ⟨⟨m0, m1, m2, m3, m4, m5, m6⟩, ⟨w0, w1, w2, w3, w4⟩, fun j hj => ?_⟩
      match j, hj with
      | 0, _ => exact c0
      | 1, _ => exact c1
      | 2, _ => exact c2
      | 3, _ => exact c3
      | 4, _ => exact c4
      | 5, _ => exact c5
      | 6, _ => exact c6
    obtain ⟨f, hf⟩ := choose_below len each
    have hxl : ((List.range len).map f).length = len := by simp
    refine ⟨(List.range len).map f, ⟨by rw [steps_length, hxl], fun hn => ⟨x, rfl, ?_, fun j u hu => ?_⟩⟩, by omega, fun s hs => ?_⟩
    · have := (hf 0 (by omega)).2 0 (by omega)
      have := World.block_lt_of_cell? w (x.add (0 * 7 + 0)) (this.trans rfl)
      rwa [block_of_add] at this
    · have hj : j < len * 7 := by
        have := (List.getElem?_eq_some_iff.1 hu).1
        rw [steps_length, hxl] at this
        exact this
      have e : j = j / 7 * 7 + j % 7 := by omega
      rw [e] at hu ⊢
      rw [steps_get _ _ _ (by rw [hxl]; omega) (by omega)] at hu
      rw [(hf (j / 7) (by omega)).2 (j % 7) (by omega), ← hu]
      have : stp ((List.range len).map f) (j / 7) = f (j / 7) := by
        unfold stp
        rw [List.getD_eq_getElem?_getD, List.getElem?_map, List.getElem?_range (by omega)]
        rfl
      rw [this]
    · obtain ⟨i, hi1, rfl⟩ := List.mem_map.1 hs
      exact (hf i (by simpa using hi1)).1
end Go.Proofs.Ytnoihbbfodkejaa
