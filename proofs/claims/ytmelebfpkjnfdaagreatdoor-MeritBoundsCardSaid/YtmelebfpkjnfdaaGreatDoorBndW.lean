/-
  bound's operators on the bounds of operands.
-/
import Derived.Test.YtmelebfpkjnfdaaGreatDoorBndV
import Derived.Test.YtmelebfpkjnfdaaGreatDoorBndP
set_option linter.unusedVariables false
set_option linter.unusedSimpArgs false
namespace Go.Proofs.YtmelebfpkjnfdaaGreatDoor
open Go.RowKit Go.Deep Go.Maps

/-- The cells of pairs. -/
def cellsS (ss : List (Int × Int)) : List Value := ss.flatMap fun s => [.int .i64 s.1, .int .i64 s.2]
theorem cellsS_snoc (ss : List (Int × Int)) (s : Int × Int) : cellsS (ss ++ [s]) = cellsS ss ++ [.int .i64 s.1, .int .i64 s.2] := by simp [cellsS]
theorem cellsS_len : ∀ ss : List (Int × Int), (cellsS ss).length = ss.length * 2
  | [] => rfl
  | s :: ss => by
    have := cellsS_len ss
    unfold cellsS at this ⊢
    rw [List.flatMap_cons, List.length_append, this]
    simp
    omega
theorem Reads.atN {w : World} {B size : Nat} {A : Option Addr} {n : Nat} {xs : List Value} (h : Reads w B size A n xs) (hn : 0 < n) {c0 : Value} (h0 : xs[0]? = some c0) : ∃ b off, A = some ⟨b, off, none⟩ ∧ b < B ∧ ∀ j u, xs[j]? = some u → w.cell? ⟨b, off + j, none⟩ = some u := by
  obtain ⟨ad, hA, hb, hc⟩ := h.2 hn
  obtain ⟨b, off, spot⟩ := ad
  have hsp : spot = none := by
    have := hc 0 _ h0
    simpa [Addr.add] using World.cell?_spot this
  subst hsp
  exact ⟨b, off, hA, hb, fun j u hu => by have := hc j u hu; rwa [add_lit] at this⟩
theorem cellsS_get {s : Int × Int} : ∀ (ss : List (Int × Int)) (i : Nat), ss[i]? = some s → (cellsS ss)[i * 2]? = some (.int .i64 s.1) ∧ (cellsS ss)[i * 2 + 1]? = some (.int .i64 s.2)
  | [], i, h => by simp at h
  | y :: ss, 0, h => by
    simp only [List.getElem?_cons_zero, Option.some.injEq] at h
    subst h
    exact ⟨rfl, rfl⟩
  | y :: ss, i + 1, h => by
    have := cellsS_get ss i (by simpa using h)
    rw [show (i + 1) * 2 = (i * 2) + 1 + 1 from by omega]
    unfold cellsS at this ⊢
    simpa only [List.flatMap_cons, List.cons_append, List.nil_append, List.getElem?_cons_succ] using this
theorem cellsS_one : ∀ (ss : List (Int × Int)), ∀ u ∈ cellsS ss, u.oneCell' = true := by
  intro ss u hu
  unfold cellsS at hu
  obtain ⟨s, _, hs⟩ := List.mem_flatMap.1 hu
  simp only [List.mem_cons, List.not_mem_nil, or_false] at hs
  rcases hs with rfl | rfl <;> rfl
/-- '.slice A n c' reads as the pairs ss, below block B. -/
def RSp (w : World) (B : Nat) (A : Option Addr) (n : Nat) (ss : List (Int × Int)) : Prop := Reads w B 2 A n (cellsS ss)
theorem RSp.len {w : World} {B : Nat} {A : Option Addr} {n : Nat} {ss : List (Int × Int)} (h : RSp w B A n ss) : ss.length = n := by
  have := h.1
  rw [cellsS_len] at this
  omega
theorem RSp.at_ {w : World} {B : Nat} {A : Option Addr} {n : Nat} {ss : List (Int × Int)} (h : RSp w B A n ss) {i : Nat} (hi : i < n) : ∃ b off, A = some ⟨b, off, none⟩ ∧ b < B ∧
    w.cell? ⟨b, off + i * 2, none⟩ = some (.int .i64 (ss.getD i (0, 0)).1) ∧ w.cell? ⟨b, off + i * 2 + 1, none⟩ = some (.int .i64 (ss.getD i (0, 0)).2) := by
  have hl := h.len
  have hs : ∀ j, j < n → ss[j]? = some (ss.getD j (0, 0)) := fun j hj => by
    rw [List.getD_eq_getElem?_getD, List.getElem?_eq_getElem (by omega)]
    rfl
  have h0 := (cellsS_get ss 0 (hs 0 (by omega))).1
  obtain ⟨b, off, hA, hb, hc⟩ := Reads.atN (A := A) (w := w) (B := B) (xs := cellsS ss) (n := n) h (by omega) h0
  obtain ⟨g0, g1⟩ := cellsS_get ss i (hs i hi)
  exact ⟨b, off, hA, hb, hc _ _ g0, by have := hc _ _ g1; rwa [← Nat.add_assoc] at this⟩
theorem RSp.below {w w' : World} {B B' : Nat} {A : Option Addr} {n : Nat} {ss : List (Int × Int)} (h : RSp w B A n ss) (hb : Below B w w') : RSp w' B A n ss := Reads.below h hb
theorem RSp.drewN {w : World} {B : Nat} {A : Option Addr} {n : Nat} {ss : List (Int × Int)} (h : RSp w B A n ss) (k : Nat) : RSp (w.drewN k) B A n ss := h
/-- The first two (and the third) of some pairs. -/
theorem RSp.two {w : World} {B : Nat} {A : Option Addr} {n : Nat} {x y : Int × Int} {l : List (Int × Int)} (h : RSp w B A n (x :: y :: l)) : ∃ b off, A = some ⟨b, off, none⟩ ∧ b < B ∧
    w.cell? ⟨b, off, none⟩ = some (.int .i64 x.1) ∧ w.cell? ⟨b, off + 1, none⟩ = some (.int .i64 x.2) ∧ w.cell? ⟨b, off + 2, none⟩ = some (.int .i64 y.1) ∧ w.cell? ⟨b, off + 2 + 1, none⟩ = some (.int .i64 y.2) ∧ w.cell? ⟨b, off + 3, none⟩ = some (.int .i64 y.2) := by
  have hl := h.len
  simp at hl
  obtain ⟨b, off, hA, hb, a0, a1⟩ := h.at_ (i := 0) (by omega)
  obtain ⟨b', off', hA', hb', b0, b1⟩ := h.at_ (i := 1) (by omega)
  rw [hA] at hA'
  injection hA' with hA'
  injection hA' with e1 e2
  subst e1 e2
  exact ⟨b, off, hA, hb, a0, a1, b0, b1, b1⟩

/-- A result of two numbers, in memory. -/
theorem span_put {w w1 : World} {g : Nat} {v0 v1 : Value} {a b : Int} (h : Blk w1 g 88 #[v0, v1]) (hb : Below w.heap.size w w1) (hg : w.heap.size ≤ g) :
    Blk ((w1.setCell ⟨g, 0, none⟩ (.int .i64 a)).setCell ⟨g, 1, none⟩ (.int .i64 b)) g 88 #[.int .i64 a, .int .i64 b] ∧ Below w.heap.size w ((w1.setCell ⟨g, 0, none⟩ (.int .i64 a)).setCell ⟨g, 1, none⟩ (.int .i64 b)) :=
  ⟨Blk.set_ (Blk.set_ h 0 _) 1 _, (hb.setCell (p := ⟨g, 0, none⟩) hg _).setCell (p := ⟨g, 1, none⟩) hg _⟩

set_option maxHeartbeats 1000000 in
set_option maxRecDepth 20000 in
theorem add_any (A : Option Addr) (n c : Nat) (x y : Int × Int) (w : World) (h : RSp w w.heap.size A n [x, y]) (hx : inS x) (hy : inS y) :
    Calls Tryz.prog 44 #[.slice A n c] w fun e w' => e = .returned (spanV (nodeB 3 x y (0, 0))) ∧ Below w.heap.size w w' := by
  obtain rfl : 2 = n := h.len
  obtain ⟨b, off, rfl, hb, a0, a1, b0, _, b1⟩ := h.two
  obtain ⟨x1, x2⟩ := x
  obtain ⟨y1, y2⟩ := y
  obtain ⟨⟨p1, p2⟩, p3, p4⟩ := hx
  obtain ⟨⟨q1, q2⟩, q3, q4⟩ := hy
  dsimp only at a0 a1 b0 b1 p1 p2 p3 p4 q1 q2 q3 q4 ⊢
  have hb0 : Below w.heap.size w (w.alloc (Obj.cells #[.int .i64 0, .int .i64 0] 88)) := (Below.refl _ _).alloc (Nat.le_refl _) _
  have n0 := Blk.new w 88 #[.int .i64 0, .int .i64 0]
  go_enter Tryz.func44, Tryz.ntmps44
  go_upto_region 1 with (fail)
  generalize w.alloc (Obj.cells #[.int .i64 0, .int .i64 0] 88) = w0 at hb0 n0 ⊢
  have e0 : w0.cell? ⟨b, off, none⟩ = some (.int .i64 x1) := (hb0.cell (p := ⟨b, off, none⟩) hb).trans a0
  have e1 : w0.cell? ⟨b, off + 1, none⟩ = some (.int .i64 x2) := (hb0.cell (p := ⟨b, off + 1, none⟩) hb).trans a1
  have e2 : w0.cell? ⟨b, off + 2, none⟩ = some (.int .i64 y1) := (hb0.cell (p := ⟨b, off + 2, none⟩) hb).trans b0
  have e3 : w0.cell? ⟨b, off + 3, none⟩ = some (.int .i64 y2) := (hb0.cell (p := ⟨b, off + 3, none⟩) hb).trans b1
  have c0 : w0.cell? ⟨w.heap.size, 0, none⟩ = some (.int .i64 0) := n0.cell 0
  have c1 : w0.cell? ⟨w.heap.size, 1, none⟩ = some (.int .i64 0) := n0.cell 1
  have f0 := n0.frozen 0
  have f1 := n0.frozen 1
  have N0 := hide n0
  clear n0 a0 a1 b0 b1 h
  go_still_tail 19, (by kernel_rfl)
  change wpList _ _ _ _ _ w0.drew
  go_wp2
  obtain ⟨r2', rb'⟩ := span_put (a := x1 + y1) (b := x2 + y2) N0.out hb0 (Nat.le_refl _)
  have r2 := r2'.drew
  have rb := rb'.drew
  clear r2' rb'
  generalize ((w0.setCell ⟨w.heap.size, 0, none⟩ (.int .i64 (x1 + y1))).setCell ⟨w.heap.size, 1, none⟩ (.int .i64 (x2 + y2))).drew = w5 at r2 rb ⊢
  have d0 : w5.cell? ⟨w.heap.size, 0, none⟩ = some (.int .i64 (x1 + y1)) := r2.cell 0
  have d1 : w5.cell? ⟨w.heap.size, 1, none⟩ = some (.int .i64 (x2 + y2)) := r2.cell 1
  exact bodyPost_ret (v := .agg #[.int .i64 (x1 + y1), .int .i64 (x2 + y2)]) (by simp [results, Tryz.results44, go_sem, d0, d1]) rfl ⟨rfl, rb⟩

set_option maxHeartbeats 1000000 in
set_option maxRecDepth 20000 in
theorem sub_any (A : Option Addr) (n c : Nat) (x y : Int × Int) (w : World) (h : RSp w w.heap.size A n [x, y]) (hx : inS x) (hy : inS y) :
    Calls Tryz.prog 45 #[.slice A n c] w fun e w' => e = .returned (spanV (nodeB 4 x y (0, 0))) ∧ Below w.heap.size w w' := by
  obtain rfl : 2 = n := h.len
  obtain ⟨b, off, rfl, hb, a0, a1, b0, _, b1⟩ := h.two
  obtain ⟨x1, x2⟩ := x
  obtain ⟨y1, y2⟩ := y
  obtain ⟨⟨p1, p2⟩, p3, p4⟩ := hx
  obtain ⟨⟨q1, q2⟩, q3, q4⟩ := hy
  dsimp only at a0 a1 b0 b1 p1 p2 p3 p4 q1 q2 q3 q4 ⊢
  have hb0 : Below w.heap.size w (w.alloc (Obj.cells #[.int .i64 0, .int .i64 0] 88)) := (Below.refl _ _).alloc (Nat.le_refl _) _
  have n0 := Blk.new w 88 #[.int .i64 0, .int .i64 0]
  go_enter Tryz.func45, Tryz.ntmps45
  go_upto_region 1 with (fail)
  generalize w.alloc (Obj.cells #[.int .i64 0, .int .i64 0] 88) = w0 at hb0 n0 ⊢
  have e0 : w0.cell? ⟨b, off, none⟩ = some (.int .i64 x1) := (hb0.cell (p := ⟨b, off, none⟩) hb).trans a0
  have e1 : w0.cell? ⟨b, off + 1, none⟩ = some (.int .i64 x2) := (hb0.cell (p := ⟨b, off + 1, none⟩) hb).trans a1
  have e2 : w0.cell? ⟨b, off + 2, none⟩ = some (.int .i64 y1) := (hb0.cell (p := ⟨b, off + 2, none⟩) hb).trans b0
  have e3 : w0.cell? ⟨b, off + 3, none⟩ = some (.int .i64 y2) := (hb0.cell (p := ⟨b, off + 3, none⟩) hb).trans b1
  have c0 : w0.cell? ⟨w.heap.size, 0, none⟩ = some (.int .i64 0) := n0.cell 0
  have c1 : w0.cell? ⟨w.heap.size, 1, none⟩ = some (.int .i64 0) := n0.cell 1
  have f0 := n0.frozen 0
  have f1 := n0.frozen 1
  have N0 := hide n0
  clear n0 a0 a1 b0 b1 h
  go_still_tail 19, (by kernel_rfl)
  change wpList _ _ _ _ _ w0.drew
  go_wp2
  obtain ⟨r2', rb'⟩ := span_put (a := x1 - y2) (b := x2 - y1) N0.out hb0 (Nat.le_refl _)
  have r2 := r2'.drew
  have rb := rb'.drew
  clear r2' rb'
  generalize ((w0.setCell ⟨w.heap.size, 0, none⟩ (.int .i64 (x1 - y2))).setCell ⟨w.heap.size, 1, none⟩ (.int .i64 (x2 - y1))).drew = w5 at r2 rb ⊢
  have d0 : w5.cell? ⟨w.heap.size, 0, none⟩ = some (.int .i64 (x1 - y2)) := r2.cell 0
  have d1 : w5.cell? ⟨w.heap.size, 1, none⟩ = some (.int .i64 (x2 - y1)) := r2.cell 1
  exact bodyPost_ret (v := .agg #[.int .i64 (x1 - y2), .int .i64 (x2 - y1)]) (by simp [results, Tryz.results45, go_sem, d0, d1]) rfl ⟨rfl, rb⟩

set_option maxHeartbeats 1000000 in
set_option maxRecDepth 20000 in
theorem min_any (A : Option Addr) (n c : Nat) (x y : Int × Int) (w : World) (h : RSp w w.heap.size A n [x, y]) (hx : inS x) (hy : inS y) :
    Calls Tryz.prog 48 #[.slice A n c] w fun e w' => e = .returned (spanV (nodeB 7 x y (0, 0))) ∧ Below w.heap.size w w' := by
  obtain rfl : 2 = n := h.len
  obtain ⟨b, off, rfl, hb, a0, a1, b0, _, b1⟩ := h.two
  obtain ⟨x1, x2⟩ := x
  obtain ⟨y1, y2⟩ := y
  obtain ⟨⟨p1, p2⟩, p3, p4⟩ := hx
  obtain ⟨⟨q1, q2⟩, q3, q4⟩ := hy
  dsimp only at a0 a1 b0 b1 p1 p2 p3 p4 q1 q2 q3 q4 ⊢
  have hb0 : Below w.heap.size w (w.alloc (Obj.cells #[.int .i64 0, .int .i64 0] 88)) := (Below.refl _ _).alloc (Nat.le_refl _) _
  have n0 := Blk.new w 88 #[.int .i64 0, .int .i64 0]
  go_enter Tryz.func48, Tryz.ntmps48
  go_upto_region 1 with (fail)
  generalize w.alloc (Obj.cells #[.int .i64 0, .int .i64 0] 88) = w0 at hb0 n0 ⊢
  have e0 : w0.cell? ⟨b, off, none⟩ = some (.int .i64 x1) := (hb0.cell (p := ⟨b, off, none⟩) hb).trans a0
  have e1 : w0.cell? ⟨b, off + 1, none⟩ = some (.int .i64 x2) := (hb0.cell (p := ⟨b, off + 1, none⟩) hb).trans a1
  have e2 : w0.cell? ⟨b, off + 2, none⟩ = some (.int .i64 y1) := (hb0.cell (p := ⟨b, off + 2, none⟩) hb).trans b0
  have e3 : w0.cell? ⟨b, off + 3, none⟩ = some (.int .i64 y2) := (hb0.cell (p := ⟨b, off + 3, none⟩) hb).trans b1
  have c0 : w0.cell? ⟨w.heap.size, 0, none⟩ = some (.int .i64 0) := n0.cell 0
  have c1 : w0.cell? ⟨w.heap.size, 1, none⟩ = some (.int .i64 0) := n0.cell 1
  have f0 := n0.frozen 0
  have f1 := n0.frozen 1
  have N0 := hide n0
  clear n0 a0 a1 b0 b1 h
  go_still_tail 19, (by kernel_rfl)
  change wpList _ _ _ _ _ w0.drew
  go_wp2
  obtain ⟨r2', rb'⟩ := span_put (a := min x1 y1) (b := min x2 y2) N0.out hb0 (Nat.le_refl _)
  have r2 := r2'.drew
  have rb := rb'.drew
  clear r2' rb'
  generalize ((w0.setCell ⟨w.heap.size, 0, none⟩ (.int .i64 (min x1 y1))).setCell ⟨w.heap.size, 1, none⟩ (.int .i64 (min x2 y2))).drew = w5 at r2 rb ⊢
  have d0 : w5.cell? ⟨w.heap.size, 0, none⟩ = some (.int .i64 (min x1 y1)) := r2.cell 0
  have d1 : w5.cell? ⟨w.heap.size, 1, none⟩ = some (.int .i64 (min x2 y2)) := r2.cell 1
  exact bodyPost_ret (v := .agg #[.int .i64 (min x1 y1), .int .i64 (min x2 y2)]) (by simp [results, Tryz.results48, go_sem, d0, d1]) rfl ⟨rfl, rb⟩

set_option maxHeartbeats 1000000 in
set_option maxRecDepth 20000 in
theorem max_any (A : Option Addr) (n c : Nat) (x y : Int × Int) (w : World) (h : RSp w w.heap.size A n [x, y]) (hx : inS x) (hy : inS y) :
    Calls Tryz.prog 49 #[.slice A n c] w fun e w' => e = .returned (spanV (nodeB 8 x y (0, 0))) ∧ Below w.heap.size w w' := by
  obtain rfl : 2 = n := h.len
  obtain ⟨b, off, rfl, hb, a0, a1, b0, _, b1⟩ := h.two
  obtain ⟨x1, x2⟩ := x
  obtain ⟨y1, y2⟩ := y
  obtain ⟨⟨p1, p2⟩, p3, p4⟩ := hx
  obtain ⟨⟨q1, q2⟩, q3, q4⟩ := hy
  dsimp only at a0 a1 b0 b1 p1 p2 p3 p4 q1 q2 q3 q4 ⊢
  have hb0 : Below w.heap.size w (w.alloc (Obj.cells #[.int .i64 0, .int .i64 0] 88)) := (Below.refl _ _).alloc (Nat.le_refl _) _
  have n0 := Blk.new w 88 #[.int .i64 0, .int .i64 0]
  go_enter Tryz.func49, Tryz.ntmps49
  go_upto_region 1 with (fail)
  generalize w.alloc (Obj.cells #[.int .i64 0, .int .i64 0] 88) = w0 at hb0 n0 ⊢
  have e0 : w0.cell? ⟨b, off, none⟩ = some (.int .i64 x1) := (hb0.cell (p := ⟨b, off, none⟩) hb).trans a0
  have e1 : w0.cell? ⟨b, off + 1, none⟩ = some (.int .i64 x2) := (hb0.cell (p := ⟨b, off + 1, none⟩) hb).trans a1
  have e2 : w0.cell? ⟨b, off + 2, none⟩ = some (.int .i64 y1) := (hb0.cell (p := ⟨b, off + 2, none⟩) hb).trans b0
  have e3 : w0.cell? ⟨b, off + 3, none⟩ = some (.int .i64 y2) := (hb0.cell (p := ⟨b, off + 3, none⟩) hb).trans b1
  have c0 : w0.cell? ⟨w.heap.size, 0, none⟩ = some (.int .i64 0) := n0.cell 0
  have c1 : w0.cell? ⟨w.heap.size, 1, none⟩ = some (.int .i64 0) := n0.cell 1
  have f0 := n0.frozen 0
  have f1 := n0.frozen 1
  have N0 := hide n0
  clear n0 a0 a1 b0 b1 h
  go_still_tail 19, (by kernel_rfl)
  change wpList _ _ _ _ _ w0.drew
  go_wp2
  obtain ⟨r2', rb'⟩ := span_put (a := max x1 y1) (b := max x2 y2) N0.out hb0 (Nat.le_refl _)
  have r2 := r2'.drew
  have rb := rb'.drew
  clear r2' rb'
  generalize ((w0.setCell ⟨w.heap.size, 0, none⟩ (.int .i64 (max x1 y1))).setCell ⟨w.heap.size, 1, none⟩ (.int .i64 (max x2 y2))).drew = w5 at r2 rb ⊢
  have d0 : w5.cell? ⟨w.heap.size, 0, none⟩ = some (.int .i64 (max x1 y1)) := r2.cell 0
  have d1 : w5.cell? ⟨w.heap.size, 1, none⟩ = some (.int .i64 (max x2 y2)) := r2.cell 1
  exact bodyPost_ret (v := .agg #[.int .i64 (max x1 y1), .int .i64 (max x2 y2)]) (by simp [results, Tryz.results49, go_sem, d0, d1]) rfl ⟨rfl, rb⟩

set_option maxHeartbeats 1000000 in
set_option maxRecDepth 20000 in
theorem neg_any (A : Option Addr) (n c : Nat) (x : Int × Int) (w : World) (h : RSp w w.heap.size A n [x]) (hx : inS x) :
    Calls Tryz.prog 53 #[.slice A n c] w fun e w' => e = .returned (spanV (nodeB 12 x (0, 0) (0, 0))) ∧ Below w.heap.size w w' := by
  obtain rfl : 1 = n := h.len
  obtain ⟨b, off, rfl, hb, a0, a1⟩ := h.at_ (i := 0) (by omega)
  rw [Nat.zero_mul, Nat.add_zero] at a0 a1
  obtain ⟨x1, x2⟩ := x
  obtain ⟨⟨p1, p2⟩, p3, p4⟩ := hx
  change w.cell? ⟨b, off, none⟩ = some (.int .i64 x1) at a0
  change w.cell? ⟨b, off + 1, none⟩ = some (.int .i64 x2) at a1
  dsimp only at p1 p2 p3 p4 ⊢
  have hb0 : Below w.heap.size w (w.alloc (Obj.cells #[.int .i64 0, .int .i64 0] 88)) := (Below.refl _ _).alloc (Nat.le_refl _) _
  have n0 := Blk.new w 88 #[.int .i64 0, .int .i64 0]
  go_enter Tryz.func53, Tryz.ntmps53
  go_upto_region 1 with (fail)
  generalize w.alloc (Obj.cells #[.int .i64 0, .int .i64 0] 88) = w0 at hb0 n0 ⊢
  have e0 : w0.cell? ⟨b, off, none⟩ = some (.int .i64 x1) := (hb0.cell (p := ⟨b, off, none⟩) hb).trans a0
  have e1 : w0.cell? ⟨b, off + 1, none⟩ = some (.int .i64 x2) := (hb0.cell (p := ⟨b, off + 1, none⟩) hb).trans a1
  have c0 : w0.cell? ⟨w.heap.size, 0, none⟩ = some (.int .i64 0) := n0.cell 0
  have c1 : w0.cell? ⟨w.heap.size, 1, none⟩ = some (.int .i64 0) := n0.cell 1
  have f0 := n0.frozen 0
  have f1 := n0.frozen 1
  have N0 := hide n0
  clear n0 a0 a1 h
  go_still_tail 11, (by kernel_rfl)
  change wpList _ _ _ _ _ w0.drew
  go_wp2
  obtain ⟨r2', rb'⟩ := span_put (a := -x2) (b := -x1) N0.out hb0 (Nat.le_refl _)
  have r2 := r2'.drew
  have rb := rb'.drew
  clear r2' rb'
  generalize ((w0.setCell ⟨w.heap.size, 0, none⟩ (.int .i64 (-x2))).setCell ⟨w.heap.size, 1, none⟩ (.int .i64 (-x1))).drew = w5 at r2 rb ⊢
  have d0 : w5.cell? ⟨w.heap.size, 0, none⟩ = some (.int .i64 (-x2)) := r2.cell 0
  have d1 : w5.cell? ⟨w.heap.size, 1, none⟩ = some (.int .i64 (-x1)) := r2.cell 1
  exact bodyPost_ret (v := .agg #[.int .i64 (-x2), .int .i64 (-x1)]) (by simp [results, Tryz.results53, go_sem, d0, d1]) rfl ⟨rfl, rb⟩

end Go.Proofs.YtmelebfpkjnfdaaGreatDoor
