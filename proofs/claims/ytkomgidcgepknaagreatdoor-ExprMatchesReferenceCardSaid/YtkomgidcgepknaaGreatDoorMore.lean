/-
  More plain helper lemmas: what functions of lists leave; slices of other kinds of integers; make of wide elements; rows by index. No program.
-/
import Derived.Test.YtkomgidcgepknaaGreatDoorBase
import Derived.Deep.OwnRows
set_option linter.unusedVariables false
set_option linter.unusedSimpArgs false
namespace Go.Proofs.YtkomgidcgepknaaGreatDoor
open Go.RowKit

/-- What a function that returns numbers and an error leaves. -/
def RetLE (w : World) (zs : List Int) (err : Int) (e : Ending) (w' : World) : Prop :=
  ∃ A c, e = .returned (.tuple #[.slice A zs.length c, .int .i64 err]) ∧ RI w' w'.heap.size A zs.length zs ∧ Below w.heap.size w w'
theorem RetLE.none_ {w w' : World} {err : Int} (h : Below w.heap.size w w') : RetLE w [] err (.returned (.tuple #[.slice none 0 0, .int .i64 err])) w' := ⟨none, 0, rfl, RI.none_, h⟩
/-- What a function that returns numbers leaves. -/
def RetL (w : World) (zs : List Int) (e : Ending) (w' : World) : Prop :=
  ∃ A c, e = .returned (.slice A zs.length c) ∧ RI w' w'.heap.size A zs.length zs ∧ Below w.heap.size w w'
/-- What a function that returns a number and numbers leaves. -/
def RetNL (w : World) (x : Int) (zs : List Int) (e : Ending) (w' : World) : Prop :=
  ∃ A c, e = .returned (.tuple #[.int .i64 x, .slice A zs.length c]) ∧ RI w' w'.heap.size A zs.length zs ∧ Below w.heap.size w w'

/-- Numbers of kind k as cells. -/
def intsK (k : IntKind) (xs : List Int) : List Value := xs.map (Value.int k)
theorem intsK_length (k : IntKind) (xs : List Int) : (intsK k xs).length = xs.length := by simp [intsK]
theorem intsK_get {k : IntKind} {xs : List Int} {i : Nat} (h : i < xs.length) : (intsK k xs)[i]? = some (.int k (nth xs i)) := by
  simp [intsK, nth, List.getElem?_eq_getElem h]
/-- '.slice A n c' reads as the numbers xs of kind k, below block B. -/
def RK (k : IntKind) (w : World) (B : Nat) (A : Option Addr) (n : Nat) (xs : List Int) : Prop := Reads w B 1 A n (intsK k xs)
section
variable {k : IntKind} {w w' : World} {B B' n : Nat} {A : Option Addr} {xs : List Int}
theorem RK.len (h : RK k w B A n xs) : xs.length = n := by simpa [intsK_length] using h.1
theorem RK.at_ {i : Nat} (h : RK k w B A n xs) (hk : i < n) : ∃ b off, A = some ⟨b, off, none⟩ ∧ b < B ∧ w.cell? ⟨b, off + i, none⟩ = some (.int k (nth xs i)) := by
  obtain ⟨ad, e, hb, hc⟩ := h.2 (by omega)
  have h0 := hc i _ (intsK_get (by rw [h.len]; exact hk))
  obtain ⟨b, off, spot⟩ := ad
  have hsp : spot = none := by
    have := hc 0 _ (intsK_get (by rw [h.len]; omega))
    simpa [Addr.add] using World.cell?_spot this
  subst hsp
  rw [add_lit] at h0
  exact ⟨b, off, e, hb, h0⟩
theorem RK.none_ : RK k w B A 0 [] := Reads.none_
theorem RK.more (h : RK k w B A n xs) (hB : B ≤ B') : RK k w B' A n xs := Reads.more h hB
theorem RK.below (h : RK k w B A n xs) (hb : Below B w w') : RK k w' B A n xs := Reads.below h hb
theorem RK.next (h : RK k w w.heap.size A n xs) (hb : Below w.heap.size w w') : RK k w' w'.heap.size A n xs := (Reads.below h hb).more hb.size
end

theorem madeCells_get (z : Array Value) (m j : Nat) (h : j < m) : (madeCells z m)[j]? = some (z[j % z.size]!) := by
  simp [madeCells, h]
/-- 'make([]T, n)', T of any number of cells. -/
theorem make_runS {P : Program} (t e : TypeId) (z : Value) (size bytes : Nat) (ht : P.underlying t = some (.slice e)) (hi : (P.info? e).map (fun i => (i.zero, i.size, i.bytes)) = some (some z, size, bytes))
    (n : Nat) (hn : bytes * n ≤ 281474976710656) (hm : n ≤ 9223372036854775807) (w : World) :
    (Instr.makeSlice t (.int .i64 (n : Int)) (.int .i64 (n : Int))).run P w = .ok (.slice (some ⟨w.heap.size, 0, none⟩) n n) (w.alloc (.cells (madeCells z.cells (n * size)) e)) := by
  obtain ⟨i0, hi0, hz, h1, h2⟩ := info_parts hi
  have hb : (i0.bytes : Int) * (n : Int) ≤ 281474976710656 := by
    have h : ((i0.bytes * n : Nat) : Int) ≤ 281474976710656 := by rw [h2]; omega
    rwa [Int.natCast_mul] at h
  rw [run_make (P := P) w t e i0 z ht hi0 hz .i64 .i64 (n : Int) (n : Int) (by omega) (by omega) hb (by omega), h1]
  simp only [Int.toNat_natCast]
theorem rowIs_madeS (w : World) (z : Array Value) (m : Nat) (t : TypeId) (f : Nat → Value) (h : ∀ j, j < m → z[j % z.size]! = f j) : (w.alloc (.cells (madeCells z m) t)).rowIs w.heap.size t m f :=
  ⟨_, heap_alloc_new w _, size_madeCells z m, fun j hj => by rw [madeCells_get z m j hj, h j hj]⟩
theorem rowIs_below {w w' : World} {b B : Nat} {t : TypeId} {n : Nat} {f : Nat → Value} (h : w.rowIs b t n f) (hb : Below B w w') (hB : b < B) : w'.rowIs b t n f := h.of_block (hb.block b hB)
theorem rowIs_reads {w : World} {b : Nat} {t : TypeId} {n : Nat} {xs : List Int} (h : w.rowIs b t n fun j => .int .i64 (nth xs j)) (hl : xs.length = n) : RI w w.heap.size (some ⟨b, 0, none⟩) n xs := by
  refine ⟨by simp [hl], fun _ => ⟨⟨b, 0, none⟩, rfl, h.lt, fun j u hu => ?_⟩⟩
  have hj : j < xs.length := by have := (List.getElem?_eq_some_iff.1 hu).1; simpa using this
  rw [ints_get hj] at hu
  rw [add_lit, Nat.zero_add, h.cell (by omega)]
  exact hu
end Go.Proofs.YtkomgidcgepknaaGreatDoor
