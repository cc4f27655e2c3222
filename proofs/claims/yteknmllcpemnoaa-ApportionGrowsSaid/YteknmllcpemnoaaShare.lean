/-
  Chapter 28: Share.
-/
import Derived.Test.YteknmllcpemnoaaLeaf
import Derived.Test.YteknmllcpemnoaaMore
namespace Go.Proofs.Yteknmllcpemnoaa
open Go.RowKit Go.Deep

theorem int_info : (Try.prog.info? 3).map (fun i => (i.zero, i.size, i.bytes)) = some (some (.int .i64 0), 1, 8) := by kernel_rfl
theorem party_info : (Try.prog.info? 42).map (fun i => (i.zero, i.size, i.bytes)) = some (some (.agg #[.int .i64 0, .int .i64 0]), 2, 16) := by kernel_rfl

theorem nth_range (n k : Nat) (f : Nat → Int) (h : k < n) : nth ((List.range n).map f) k = f k := by
  simp [nth, h]
/-- The first i weights, 0 for the rest. -/
def part (ws : List Int) (i : Nat) : List Int := (List.range ws.length).map fun k => if k < i then nth ws k else 0
theorem part_len (ws : List Int) (i : Nat) : (part ws i).length = ws.length := by simp [part]
theorem part_nth (ws : List Int) (i k : Nat) (h : k < ws.length) : nth (part ws i) k = if k < i then nth ws k else 0 := nth_range _ _ _ h
theorem list_ext {xs ys : List Int} (h : xs.length = ys.length) (e : ∀ k, k < xs.length → nth xs k = nth ys k) : xs = ys := by
  apply List.ext_getElem h
  intro i h1 h2
  have := e i h1
  rwa [nth_eq h1, nth_eq h2] at this
theorem part_all (ws : List Int) : part ws ws.length = ws :=
  list_ext (part_len _ _) fun k hk => by rw [part_len] at hk; rw [part_nth _ _ _ hk, if_pos hk]
theorem part_set (ws : List Int) (i : Nat) (h : i < ws.length) : (part ws i).set i (nth ws i) = part ws (i + 1) :=
  list_ext (by simp [part_len]) fun k hk => by
    simp only [List.length_set, part_len] at hk
    rw [nth_set' (by rw [part_len]; exact h), part_nth _ _ _ hk, part_nth _ _ _ hk]
    by_cases e : i = k
    · subst e; rw [if_pos rfl, if_pos (by omega)]
    · rw [if_neg e]
      by_cases e2 : k < i
      · rw [if_pos e2, if_pos (by omega)]
      · rw [if_neg e2, if_neg (by omega)]

theorem Parties.setW {W : World} {g : Nat} {w s : List Int} (h : Parties W g w s) {i : Nat} (hi : i < w.length) (v : Int) : Parties (W.setCell ⟨g, i * 2, none⟩ (.int .i64 v)) g (w.set i v) s := by
  unfold Parties
  rw [List.length_set]
  refine (World.rowIs.set h (i * 2) (.int .i64 v)).congr fun j hj => ?_
  rw [nth_set' hi]
  by_cases e : j = i * 2
  · subst e; rw [if_pos rfl, if_pos (by omega), if_pos (by omega)]
  · rw [if_neg e]
    by_cases e2 : j % 2 = 0
    · rw [if_pos e2, if_pos e2, if_neg (by omega)]
    · rw [if_neg e2, if_neg e2]
theorem Parties.setS {W : World} {g : Nat} {w s : List Int} (h : Parties W g w s) (hs : s.length = w.length) {i : Nat} (hi : i < w.length) (v : Int) : Parties (W.setCell ⟨g, i * 2 + 1, none⟩ (.int .i64 v)) g w (s.set i v) := by
  refine (World.rowIs.set h (i * 2 + 1) (.int .i64 v)).congr fun j hj => ?_
  rw [nth_set' (by omega)]
  by_cases e : j = i * 2 + 1
  · subst e; rw [if_pos rfl, if_neg (by omega), if_pos (by omega)]
  · rw [if_neg e]
    by_cases e2 : j % 2 = 0
    · rw [if_pos e2, if_pos e2]
    · rw [if_neg e2, if_neg e2, if_neg (by omega)]
theorem Parties.made (W : World) (ws : List Int) (n : Nat) (h : ws.length = n) : Parties (W.alloc (.cells (madeCells #[.int .i64 0, .int .i64 0] (n * 2)) 42)) W.heap.size (part ws 0) (List.replicate n 0) := by
  unfold Parties
  rw [part_len, h, Nat.mul_comm 2 n]
  refine rowIs_madeS W _ _ _ _ fun j hj => ?_
  rw [nth_rep]
  have h2 : j % 2 < 2 := Nat.mod_lt _ (by omega)
  have e : (#[Value.int .i64 0, Value.int .i64 0])[j % 2]! = Value.int .i64 0 := by
    rcases Nat.lt_or_ge (j % 2) 1 with h1 | h1
    · rw [show j % 2 = 0 by omega]; rfl
    · rw [show j % 2 = 1 by omega]; rfl
  show (#[Value.int .i64 0, Value.int .i64 0])[j % 2]! = _
  rw [e, part_nth _ _ _ (by omega)]
  simp
theorem Parties.alloc {W : World} {g : Nat} {w s : List Int} (h : Parties W g w s) (o : Obj) : Parties (W.alloc o) g w s := World.rowIs.alloc h o
theorem Parties.frozen {W : World} {g : Nat} {w s : List Int} (h : Parties W g w s) (i : Nat) : W.frozen? ⟨g, i, none⟩ = false := World.rowIs.frozen h i

theorem Parties.far {W : World} {g : Nat} {w s : List Int} (h : Parties W g w s) {a : Addr} (ha : g ≠ a.block) (v : Value) : Parties (W.setCell a v) g w s := World.rowIs.setOther h ha v
/-- A row of numbers that is filled from the left. -/
theorem row_put {W : World} {g n j : Nat} {t : TypeId} {ss : List Int} (h : W.rowIs g t n fun i => .int .i64 (nth (part ss j) i)) (hl : ss.length = n) (hj : j < n) (o : Obj) :
    ((W.setCell ⟨g, j, none⟩ (.int .i64 (nth ss j))).alloc o).rowIs g t n fun i => .int .i64 (nth (part ss (j + 1)) i) := by
  refine World.rowIs.alloc ((World.rowIs.set h j _).congr fun i hi => ?_) o
  rw [part_nth _ _ _ (by omega), part_nth _ _ _ (by omega)]
  by_cases e : i = j
  · subst e; rw [if_pos rfl, if_pos (by omega)]
  · rw [if_neg e]
    by_cases e2 : i < j
    · rw [if_pos e2, if_pos (by omega)]
    · rw [if_neg e2, if_neg (by omega)]

theorem maxTo_zero {ws : List Int} (hw : badW ws = false) (n : Nat) (hn : ws.length = n) (h0 : 0 < n) : (maxTo ws n == 0) = ws.all (fun x => decide (x = 0)) := by
  have key : ∀ k, 0 ≤ maxTo ws k ∧ (maxTo ws k = 0 → ∀ j, j < k → nth ws j = 0) ∧ ((∀ j, nth ws j = 0) → maxTo ws k = 0) := by
    intro k
    induction k with
    | zero => exact ⟨(badW_nth hw 0).1, by omega, fun h => h 0⟩
    | succ k ih =>
      have hk := badW_nth hw k
      simp only [maxTo]
      refine ⟨by omega, fun h j hj => ?_, fun h => ?_⟩
      · rcases Nat.lt_or_ge j k with hjk | hjk
        · exact ih.2.1 (by omega) j hjk
        · obtain rfl : j = k := by omega
          omega
      · rw [ih.2.2 h, h k]; rfl
  rw [Bool.eq_iff_iff, beq_iff_eq, List.all_eq_true]
  constructor
  · intro h x hx
    obtain ⟨j, hj, rfl⟩ := List.getElem_of_mem hx
    have := (key n).2.1 h j (by omega)
    rw [nth_eq hj] at this
    simp [this]
  · intro h
    refine (key n).2.2 fun j => ?_
    rcases Nat.lt_or_ge j ws.length with hj | hj
    · rw [nth_eq hj]; simpa using h _ (List.getElem_mem hj)
    · simp [nth, List.getElem?_eq_none hj]
end Go.Proofs.Yteknmllcpemnoaa
