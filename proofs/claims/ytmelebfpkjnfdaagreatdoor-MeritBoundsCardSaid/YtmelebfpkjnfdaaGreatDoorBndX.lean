/-
  bound's operators on the bounds of operands: less, equal, mul, choose.
-/
import Derived.Test.YtmelebfpkjnfdaaGreatDoorBndW
set_option linter.unusedVariables false
set_option linter.unusedSimpArgs false
namespace Go.Proofs.YtmelebfpkjnfdaaGreatDoor
open Go.RowKit Go.Deep Go.Maps

set_option maxHeartbeats 1000000 in
set_option maxRecDepth 20000 in
theorem less_any (A : Option Addr) (n c : Nat) (x y : Int × Int) (w : World) (h : RSp w w.heap.size A n [x, y]) (hx : inS x) (hy : inS y) :
    Calls Tryz.prog 51 #[.slice A n c] w fun e w' => e = .returned (spanV (nodeB 10 x y (0, 0))) ∧ Below w.heap.size w w' := by
  obtain rfl : 2 = n := h.len
  obtain ⟨b, off, rfl, hb, a0, a1, b0, _, b1⟩ := h.two
  obtain ⟨x1, x2⟩ := x
  obtain ⟨y1, y2⟩ := y
  obtain ⟨⟨p1, p2⟩, p3, p4⟩ := hx
  obtain ⟨⟨q1, q2⟩, q3, q4⟩ := hy
  dsimp only at a0 a1 b0 b1 p1 p2 p3 p4 q1 q2 q3 q4 ⊢
  have hb0 : Below w.heap.size w (w.alloc (Obj.cells #[.int .i64 0, .int .i64 0] 88)) := (Below.refl _ _).alloc (Nat.le_refl _) _
  have n0 := Blk.new w 88 #[.int .i64 0, .int .i64 0]
  obtain ⟨res, hres⟩ : ∃ res, nodeB 10 (x1, x2) (y1, y2) (0, 0) = res := ⟨_, rfl⟩
  rw [hres]
  have HR : Hid (flagsL (decide (x1 < y2)) (decide (y1 ≤ x2)) = res) := hres
  clear hres
  go_enter Tryz.func51, Tryz.ntmps51
  go_upto_region 1 with (fail)
  generalize w.alloc (Obj.cells #[.int .i64 0, .int .i64 0] 88) = w0 at hb0 n0 ⊢
  have e0 : w0.cell? ⟨b, off, none⟩ = some (.int .i64 x1) := (hb0.cell (p := ⟨b, off, none⟩) hb).trans a0
  have e1 : w0.cell? ⟨b, off + 1, none⟩ = some (.int .i64 x2) := (hb0.cell (p := ⟨b, off + 1, none⟩) hb).trans a1
  have e2 : w0.cell? ⟨b, off + 2, none⟩ = some (.int .i64 y1) := (hb0.cell (p := ⟨b, off + 2, none⟩) hb).trans b0
  have e3 : w0.cell? ⟨b, off + 3, none⟩ = some (.int .i64 y2) := (hb0.cell (p := ⟨b, off + 3, none⟩) hb).trans b1
  have c0 : w0.cell? ⟨w.heap.size, 0, none⟩ = some (.int .i64 0) := n0.cell 0
  have c1 : w0.cell? ⟨w.heap.size, 1, none⟩ = some (.int .i64 0) := n0.cell 1
  have f0 := n0.frozen 0
  have f1 := n0.frozen 1
  have N0 := hide n0
  have hg0 := n0.lt
  clear n0 a0 a1 b0 b1 h
  go_still_tail 18, (by kernel_rfl)
  change wpList _ _ _ _ _ w0.drew
  go_wp2_with fail
  refine (flags_any _ _ _).mono ?_
  rintro e w2 ⟨rfl, hb2⟩
  rw [HR.out]
  have n2 := N0.out.drew.below hb2 hg0
  have HB3 : Below w.heap.size w w2 := (hb0.drew).trans (hb2.mono hb0.size)
  clear c0 c1 f0 f1 hb2
  have hb3 : Below w.heap.size w w2 := HB3
  have c0' : w2.cell? ⟨w.heap.size, 0, none⟩ = some (.int .i64 0) := n2.cell 0
  have c1' : w2.cell? ⟨w.heap.size, 1, none⟩ = some (.int .i64 0) := n2.cell 1
  have f0' := n2.frozen 0
  have f1' := n2.frozen 1
  have N2 := hide n2
  clear n2
  go_wp2
  obtain ⟨r2, rb⟩ := span_put (a := res.1) (b := res.2) N2.out hb3 (Nat.le_refl _)
  generalize (w2.setCell ⟨w.heap.size, 0, none⟩ (.int .i64 res.1)).setCell ⟨w.heap.size, 1, none⟩ (.int .i64 res.2) = w5 at r2 rb ⊢
  have d0 : w5.cell? ⟨w.heap.size, 0, none⟩ = some (.int .i64 res.1) := r2.cell 0
  have d1 : w5.cell? ⟨w.heap.size, 1, none⟩ = some (.int .i64 res.2) := r2.cell 1
  exact bodyPost_ret (v := spanV res) (by simp [results, Tryz.results51, go_sem, d0, d1]) rfl ⟨rfl, rb⟩

theorem bne_dec (a b : Int) : (a != b) = decide (a ≠ b) := by
  by_cases h : a = b
  · rw [decide_eq_false (by simpa using h)]; simp [h]
  · rw [decide_eq_true h]; simp [h]
set_option maxHeartbeats 2000000 in
set_option maxRecDepth 20000 in
theorem equal_any (A : Option Addr) (n c : Nat) (x y : Int × Int) (w : World) (h : RSp w w.heap.size A n [x, y]) (hx : inS x) (hy : inS y) :
    Calls Tryz.prog 52 #[.slice A n c] w fun e w' => e = .returned (spanV (nodeB 11 x y (0, 0))) ∧ Below w.heap.size w w' := by
  obtain rfl : 2 = n := h.len
  obtain ⟨b, off, rfl, hb, a0, a1, b0, _, b1⟩ := h.two
  obtain ⟨x1, x2⟩ := x
  obtain ⟨y1, y2⟩ := y
  obtain ⟨⟨p1, p2⟩, p3, p4⟩ := hx
  obtain ⟨⟨q1, q2⟩, q3, q4⟩ := hy
  dsimp only at a0 a1 b0 b1 p1 p2 p3 p4 q1 q2 q3 q4 ⊢
  obtain ⟨res, hres⟩ : ∃ res, nodeB 11 (x1, x2) (y1, y2) (0, 0) = res := ⟨_, rfl⟩
  rw [hres]
  have HR := hide hres
  clear hres
  have hb0 : Below w.heap.size w (w.alloc (Obj.cells #[.int .i64 0, .int .i64 0] 88)) := (Below.refl _ _).alloc (Nat.le_refl _) _
  have n0 := Blk.new w 88 #[.int .i64 0, .int .i64 0]
  go_enter Tryz.func52, Tryz.ntmps52
  go_upto_region 1 with (fail)
  have hz0 : (w.alloc (Obj.cells #[.int .i64 0, .int .i64 0] 88)).heap.size = w.heap.size + 1 := by simp
  generalize w.alloc (Obj.cells #[.int .i64 0, .int .i64 0] 88) = w0 at hb0 n0 hz0 ⊢
  have e0 : w0.cell? ⟨b, off, none⟩ = some (.int .i64 x1) := (hb0.cell (p := ⟨b, off, none⟩) hb).trans a0
  have e1 : w0.cell? ⟨b, off + 1, none⟩ = some (.int .i64 x2) := (hb0.cell (p := ⟨b, off + 1, none⟩) hb).trans a1
  have e2 : w0.cell? ⟨b, off + 2, none⟩ = some (.int .i64 y1) := (hb0.cell (p := ⟨b, off + 2, none⟩) hb).trans b0
  have e3 : w0.cell? ⟨b, off + 3, none⟩ = some (.int .i64 y2) := (hb0.cell (p := ⟨b, off + 3, none⟩) hb).trans b1
  have HZ := hide hz0
  have hbl : b < w0.heap.size := by omega
  clear a0 a1 b0 b1 h hz0
  have hA : ∀ (o : Obj) (bb off : Nat), bb < w0.heap.size → (w0.alloc o).cell? ⟨bb, off, none⟩ = w0.cell? ⟨bb, off, none⟩ := fun o bb off h => World.cell?_alloc_lt w0 o ⟨bb, off, none⟩ h
  have hB : ∀ (o o' : Obj) (bb off : Nat), bb < w0.heap.size → ((w0.alloc o).alloc o').cell? ⟨bb, off, none⟩ = w0.cell? ⟨bb, off, none⟩ := fun o o' bb off h => (World.cell?_alloc_lt (w0.alloc o) o' ⟨bb, off, none⟩ (by simp; omega)).trans (hA o bb off h)
  go_region
  · have kx : Blk ((w0.alloc (Obj.cells #[.int .i64 x1, .int .i64 x2] 88)).alloc (Obj.cells #[.int .i64 y1, .int .i64 y2] 88)).drew w0.heap.size 88 #[.int .i64 x1, .int .i64 x2] := (Blk.new _ _ _).alloc _
    have ky : Blk ((w0.alloc (Obj.cells #[.int .i64 x1, .int .i64 x2] 88)).alloc (Obj.cells #[.int .i64 y1, .int .i64 y2] 88)).drew (w0.heap.size + 1) 88 #[.int .i64 y1, .int .i64 y2] := by
      have := Blk.new (w0.alloc (Obj.cells #[.int .i64 x1, .int .i64 x2] 88)) 88 #[.int .i64 y1, .int .i64 y2]
      rw [show (w0.alloc (Obj.cells #[.int .i64 x1, .int .i64 x2] 88)).heap.size = w0.heap.size + 1 from by simp] at this
      exact this
    have kn : Blk ((w0.alloc (Obj.cells #[.int .i64 x1, .int .i64 x2] 88)).alloc (Obj.cells #[.int .i64 y1, .int .i64 y2] 88)).drew w.heap.size 88 #[.int .i64 0, .int .i64 0] := (n0.alloc _).alloc _
    have kb : Below w.heap.size w ((w0.alloc (Obj.cells #[.int .i64 x1, .int .i64 x2] 88)).alloc (Obj.cells #[.int .i64 y1, .int .i64 y2] 88)).drew := ((hb0.alloc hb0.size _).alloc (by have := hb0.size; simp; omega) _).drew
    generalize ((w0.alloc (Obj.cells #[.int .i64 x1, .int .i64 x2] 88)).alloc (Obj.cells #[.int .i64 y1, .int .i64 y2] 88)).drew = w1 at kx ky kn kb ⊢
    generalize w0.heap.size + 1 = gy at ky ⊢
    generalize w0.heap.size = gx at kx ⊢
    clear hA hB e0 e1 e2 e3 HZ hbl hb0 n0
    have c0 : w1.cell? ⟨gx, 0, none⟩ = some (.int .i64 x1) := kx.cell 0
    have c1 : w1.cell? ⟨gx, 1, none⟩ = some (.int .i64 x2) := kx.cell 1
    have c2 : w1.cell? ⟨gy, 0, none⟩ = some (.int .i64 y1) := ky.cell 0
    have c3 : w1.cell? ⟨gy, 1, none⟩ = some (.int .i64 y2) := ky.cell 1
    have hg1 := kn.lt
    have hgx := kx.lt
    have hgy := ky.lt
    have KN := hide kn
    clear kn kx ky
    have HR2 : Hid (flagsL (decide (max x1 y1 ≤ min x2 y2)) (x1 != x2 || y1 != y2 || x1 != y1) = res) := by
      show _ = _
      rw [← HR.out, bne_dec, bne_dec, bne_dec]
      rfl
    clear HR
    cases t1 : (x1 != x2)
    all_goals cases t2 : (y1 != y2)
    all_goals cases t3 : (x1 != y1)
    all_goals
      rw [t1, t2, t3] at HR2
      go_wp2_with fail
      refine (flags_any _ _ _).mono ?_
      rintro e w2 ⟨rfl, hb2⟩
      first | rw [show flagsL (decide (max x1 y1 ≤ min x2 y2)) true = res from HR2.out] | rw [show flagsL (decide (max x1 y1 ≤ min x2 y2)) false = res from HR2.out]
      have HB3 : Below w.heap.size w w2 := kb.trans (hb2.mono kb.size)
      have n2 := KN.out.below hb2 hg1
      have c0' : w2.cell? ⟨w.heap.size, 0, none⟩ = some (.int .i64 0) := n2.cell 0
      have c1' : w2.cell? ⟨w.heap.size, 1, none⟩ = some (.int .i64 0) := n2.cell 1
      have f0' := n2.frozen 0
      have f1' := n2.frozen 1
      have N2 := hide n2
      clear n2 hb2
      go_wp2
      obtain ⟨r2, rb⟩ := span_put (a := res.1) (b := res.2) N2.out HB3 (Nat.le_refl _)
      generalize (w2.setCell ⟨w.heap.size, 0, none⟩ (.int .i64 res.1)).setCell ⟨w.heap.size, 1, none⟩ (.int .i64 res.2) = w5 at r2 rb ⊢
      have d0 : w5.cell? ⟨w.heap.size, 0, none⟩ = some (.int .i64 res.1) := r2.cell 0
      have d1 : w5.cell? ⟨w.heap.size, 1, none⟩ = some (.int .i64 res.2) := r2.cell 1
      exact bodyPost_ret (v := spanV res) (by simp [results, Tryz.results52, go_sem, d0, d1]) rfl ⟨rfl, rb⟩
  · have ky : Blk ((w0.alloc (Obj.cells #[.int .i64 y1, .int .i64 y2] 88)).alloc (Obj.cells #[.int .i64 x1, .int .i64 x2] 88)).drew w0.heap.size 88 #[.int .i64 y1, .int .i64 y2] := (Blk.new _ _ _).alloc _
    have kx : Blk ((w0.alloc (Obj.cells #[.int .i64 y1, .int .i64 y2] 88)).alloc (Obj.cells #[.int .i64 x1, .int .i64 x2] 88)).drew (w0.heap.size + 1) 88 #[.int .i64 x1, .int .i64 x2] := by
      have := Blk.new (w0.alloc (Obj.cells #[.int .i64 y1, .int .i64 y2] 88)) 88 #[.int .i64 x1, .int .i64 x2]
      rw [show (w0.alloc (Obj.cells #[.int .i64 y1, .int .i64 y2] 88)).heap.size = w0.heap.size + 1 from by simp] at this
      exact this
    have kn : Blk ((w0.alloc (Obj.cells #[.int .i64 y1, .int .i64 y2] 88)).alloc (Obj.cells #[.int .i64 x1, .int .i64 x2] 88)).drew w.heap.size 88 #[.int .i64 0, .int .i64 0] := (n0.alloc _).alloc _
    have kb : Below w.heap.size w ((w0.alloc (Obj.cells #[.int .i64 y1, .int .i64 y2] 88)).alloc (Obj.cells #[.int .i64 x1, .int .i64 x2] 88)).drew := ((hb0.alloc hb0.size _).alloc (by have := hb0.size; simp; omega) _).drew
    generalize ((w0.alloc (Obj.cells #[.int .i64 y1, .int .i64 y2] 88)).alloc (Obj.cells #[.int .i64 x1, .int .i64 x2] 88)).drew = w1 at kx ky kn kb ⊢
    generalize w0.heap.size + 1 = gx at kx ⊢
    generalize w0.heap.size = gy at ky ⊢
    clear hA hB e0 e1 e2 e3 HZ hbl hb0 n0
    have c0 : w1.cell? ⟨gx, 0, none⟩ = some (.int .i64 x1) := kx.cell 0
    have c1 : w1.cell? ⟨gx, 1, none⟩ = some (.int .i64 x2) := kx.cell 1
    have c2 : w1.cell? ⟨gy, 0, none⟩ = some (.int .i64 y1) := ky.cell 0
    have c3 : w1.cell? ⟨gy, 1, none⟩ = some (.int .i64 y2) := ky.cell 1
    have hg1 := kn.lt
    have hgx := kx.lt
    have hgy := ky.lt
    have KN := hide kn
    clear kn kx ky
    have HR2 : Hid (flagsL (decide (max x1 y1 ≤ min x2 y2)) (x1 != x2 || y1 != y2 || x1 != y1) = res) := by
      show _ = _
      rw [← HR.out, bne_dec, bne_dec, bne_dec]
      rfl
    clear HR
    cases t1 : (x1 != x2)
    all_goals cases t2 : (y1 != y2)
    all_goals cases t3 : (x1 != y1)
    all_goals
      rw [t1, t2, t3] at HR2
      go_wp2_with fail
      refine (flags_any _ _ _).mono ?_
      rintro e w2 ⟨rfl, hb2⟩
      first | rw [show flagsL (decide (max x1 y1 ≤ min x2 y2)) true = res from HR2.out] | rw [show flagsL (decide (max x1 y1 ≤ min x2 y2)) false = res from HR2.out]
      have HB3 : Below w.heap.size w w2 := kb.trans (hb2.mono kb.size)
      have n2 := KN.out.below hb2 hg1
      have c0' : w2.cell? ⟨w.heap.size, 0, none⟩ = some (.int .i64 0) := n2.cell 0
      have c1' : w2.cell? ⟨w.heap.size, 1, none⟩ = some (.int .i64 0) := n2.cell 1
      have f0' := n2.frozen 0
      have f1' := n2.frozen 1
      have N2 := hide n2
      clear n2 hb2
      go_wp2
      obtain ⟨r2, rb⟩ := span_put (a := res.1) (b := res.2) N2.out HB3 (Nat.le_refl _)
      generalize (w2.setCell ⟨w.heap.size, 0, none⟩ (.int .i64 res.1)).setCell ⟨w.heap.size, 1, none⟩ (.int .i64 res.2) = w5 at r2 rb ⊢
      have d0 : w5.cell? ⟨w.heap.size, 0, none⟩ = some (.int .i64 res.1) := r2.cell 0
      have d1 : w5.cell? ⟨w.heap.size, 1, none⟩ = some (.int .i64 res.2) := r2.cell 1
      exact bodyPost_ret (v := spanV res) (by simp [results, Tryz.results52, go_sem, d0, d1]) rfl ⟨rfl, rb⟩

end Go.Proofs.YtmelebfpkjnfdaaGreatDoor

/-
  bound's operators on the bounds of operands: mul.
-/
namespace Go.Proofs.YtmelebfpkjnfdaaGreatDoor
open Go.RowKit Go.Deep Go.Maps

set_option maxHeartbeats 2000000 in
set_option maxRecDepth 20000 in
theorem mul_any (A : Option Addr) (n c : Nat) (x y : Int × Int) (w : World) (h : RSp w w.heap.size A n [x, y]) (hx : inS x) (hy : inS y) :
    Calls Tryz.prog 46 #[.slice A n c] w fun e w' => e = .returned (spanV (nodeB 5 x y (0, 0))) ∧ Below w.heap.size w w' := by
  obtain rfl : 2 = n := h.len
  obtain ⟨b, off, rfl, hb, a0, a1, b0, _, b1⟩ := h.two
  obtain ⟨x1, x2⟩ := x
  obtain ⟨y1, y2⟩ := y
  obtain ⟨⟨p1, p2⟩, p3, p4⟩ := hx
  obtain ⟨⟨q1, q2⟩, q3, q4⟩ := hy
  dsimp only at a0 a1 b0 b1 p1 p2 p3 p4 q1 q2 q3 q4 ⊢
  obtain ⟨res, hres⟩ : ∃ res, nodeB 5 (x1, x2) (y1, y2) (0, 0) = res := ⟨_, rfl⟩
  rw [hres]
  have HR := hide hres
  clear hres
  have hb0 : Below w.heap.size w (w.alloc (Obj.cells #[.int .i64 0, .int .i64 0] 88)) := (Below.refl _ _).alloc (Nat.le_refl _) _
  have n0 := Blk.new w 88 #[.int .i64 0, .int .i64 0]
  go_enter Tryz.func46, Tryz.ntmps46
  go_upto_region 1 with (fail)
  have hz0 : (w.alloc (Obj.cells #[.int .i64 0, .int .i64 0] 88)).heap.size = w.heap.size + 1 := by simp
  generalize w.alloc (Obj.cells #[.int .i64 0, .int .i64 0] 88) = w0 at hb0 n0 hz0 ⊢
  have e0 : w0.cell? ⟨b, off, none⟩ = some (.int .i64 x1) := (hb0.cell (p := ⟨b, off, none⟩) hb).trans a0
  have e1 : w0.cell? ⟨b, off + 1, none⟩ = some (.int .i64 x2) := (hb0.cell (p := ⟨b, off + 1, none⟩) hb).trans a1
  have e2 : w0.cell? ⟨b, off + 2, none⟩ = some (.int .i64 y1) := (hb0.cell (p := ⟨b, off + 2, none⟩) hb).trans b0
  have e3 : w0.cell? ⟨b, off + 3, none⟩ = some (.int .i64 y2) := (hb0.cell (p := ⟨b, off + 3, none⟩) hb).trans b1
  have HZ := hide hz0
  have hbl : b < w0.heap.size := by omega
  clear a0 a1 b0 b1 h hz0
  have hA : ∀ (o : Obj) (bb off : Nat), bb < w0.heap.size → (w0.alloc o).cell? ⟨bb, off, none⟩ = w0.cell? ⟨bb, off, none⟩ := fun o bb off h => World.cell?_alloc_lt w0 o ⟨bb, off, none⟩ h
  have hB : ∀ (o o' : Obj) (bb off : Nat), bb < w0.heap.size → ((w0.alloc o).alloc o').cell? ⟨bb, off, none⟩ = w0.cell? ⟨bb, off, none⟩ := fun o o' bb off h => (World.cell?_alloc_lt (w0.alloc o) o' ⟨bb, off, none⟩ (by simp; omega)).trans (hA o bb off h)
  go_region
  · have kx : Blk ((w0.alloc (Obj.cells #[.int .i64 x1, .int .i64 x2] 88)).alloc (Obj.cells #[.int .i64 y1, .int .i64 y2] 88)).drew w0.heap.size 88 #[.int .i64 x1, .int .i64 x2] := (Blk.new _ _ _).alloc _
    have ky : Blk ((w0.alloc (Obj.cells #[.int .i64 x1, .int .i64 x2] 88)).alloc (Obj.cells #[.int .i64 y1, .int .i64 y2] 88)).drew (w0.heap.size + 1) 88 #[.int .i64 y1, .int .i64 y2] := by
      have := Blk.new (w0.alloc (Obj.cells #[.int .i64 x1, .int .i64 x2] 88)) 88 #[.int .i64 y1, .int .i64 y2]
      rw [show (w0.alloc (Obj.cells #[.int .i64 x1, .int .i64 x2] 88)).heap.size = w0.heap.size + 1 from by simp] at this
      exact this
    have kn : Blk ((w0.alloc (Obj.cells #[.int .i64 x1, .int .i64 x2] 88)).alloc (Obj.cells #[.int .i64 y1, .int .i64 y2] 88)).drew w.heap.size 88 #[.int .i64 0, .int .i64 0] := (n0.alloc _).alloc _
    have kb : Below w.heap.size w ((w0.alloc (Obj.cells #[.int .i64 x1, .int .i64 x2] 88)).alloc (Obj.cells #[.int .i64 y1, .int .i64 y2] 88)).drew := ((hb0.alloc hb0.size _).alloc (by have := hb0.size; simp; omega) _).drew
    generalize ((w0.alloc (Obj.cells #[.int .i64 x1, .int .i64 x2] 88)).alloc (Obj.cells #[.int .i64 y1, .int .i64 y2] 88)).drew = w1 at kx ky kn kb ⊢
    generalize w0.heap.size + 1 = gy at ky ⊢
    generalize w0.heap.size = gx at kx ⊢
    clear hA hB e0 e1 e2 e3 HZ hbl hb0 n0
    have c0 : w1.cell? ⟨gx, 0, none⟩ = some (.int .i64 x1) := kx.cell 0
    have c1 : w1.cell? ⟨gx, 1, none⟩ = some (.int .i64 x2) := kx.cell 1
    have c2 : w1.cell? ⟨gy, 0, none⟩ = some (.int .i64 y1) := ky.cell 0
    have c3 : w1.cell? ⟨gy, 1, none⟩ = some (.int .i64 y2) := ky.cell 1
    have hg1 := kn.lt
    have hgx := kx.lt
    have hgy := ky.lt
    have KN := hide kn
    clear kn kx ky
    have HR2 : Hid (hullL [timesL x1 y1, timesL x1 y2, timesL x2 y1, timesL x2 y2] = res) := HR
    clear HR
    go_upto_region 2 with (fail)
    go_still_tail 20, (by kernel_rfl)
    still_call ((times_any x1 y1 _ ⟨p1, p2⟩ ⟨q1, q2⟩).mono fun _ _ ⟨h1, h2⟩ => ⟨h1, h2.symm⟩)
    repeat still_step
    still_call ((times_any x1 y2 _ ⟨p1, p2⟩ ⟨q3, q4⟩).mono fun _ _ ⟨h1, h2⟩ => ⟨h1, h2.symm⟩)
    repeat still_step
    still_call ((times_any x2 y1 _ ⟨p3, p4⟩ ⟨q1, q2⟩).mono fun _ _ ⟨h1, h2⟩ => ⟨h1, h2.symm⟩)
    repeat still_step
    still_call ((times_any x2 y2 _ ⟨p3, p4⟩ ⟨q3, q4⟩).mono fun _ _ ⟨h1, h2⟩ => ⟨h1, h2.symm⟩)
    repeat still_step
    try refine wpStill_nil ?_
    change wpList _ _ _ _ _ w1.drew
    have kb1 : Below w.heap.size w w1.drew := kb.drew
    have KN1 : Hid (Blk w1.drew w.heap.size 88 #[.int .i64 0, .int .i64 0]) := KN
    have hg2 : w.heap.size < w1.drew.heap.size := hg1
    clear c0 c1 c2 c3 hgx hgy KN kb hg1
    generalize w1.drew = w3 at kb1 KN1 hg2 ⊢
    generalize timesL x1 y1 = m1 at HR2 ⊢
    generalize timesL x1 y2 = m2 at HR2 ⊢
    generalize timesL x2 y1 = m3 at HR2 ⊢
    generalize timesL x2 y2 = m4 at HR2 ⊢
    go_wp2_with fail
    have hri : RI (w3.alloc (Obj.cells #[.int .i64 m1, .int .i64 m2, .int .i64 m3, .int .i64 m4] 3)) (w3.alloc (Obj.cells #[.int .i64 m1, .int .i64 m2, .int .i64 m3, .int .i64 m4] 3)).heap.size (some ⟨w3.heap.size, 0, none⟩) 4 [m1, m2, m3, m4] := RI.lit w3 [m1, m2, m3, m4] 4 3 rfl
    have kb : Below w.heap.size w (w3.alloc (Obj.cells #[.int .i64 m1, .int .i64 m2, .int .i64 m3, .int .i64 m4] 3)) := kb1.alloc kb1.size _
    have KN : Hid (Blk (w3.alloc (Obj.cells #[.int .i64 m1, .int .i64 m2, .int .i64 m3, .int .i64 m4] 3)) w.heap.size 88 #[.int .i64 0, .int .i64 0]) := hide (KN1.out.alloc _)
    have hg1 : w.heap.size < (w3.alloc (Obj.cells #[.int .i64 m1, .int .i64 m2, .int .i64 m3, .int .i64 m4] 3)).heap.size := by simp; omega
    generalize w3.alloc (Obj.cells #[.int .i64 m1, .int .i64 m2, .int .i64 m3, .int .i64 m4] 3) = w1 at hri kb KN hg1 ⊢
    refine (hull_any _ 4 4 [m1, m2, m3, m4] w1 hri (by omega) (by unfold maxLen; omega)).mono ?_
    rintro e w2 ⟨rfl, hb2⟩
    rw [HR2.out]
    clear hri kb1 KN1 hg2
    have HB3 : Below w.heap.size w w2 := kb.trans (hb2.mono kb.size)
    have n2 := KN.out.below hb2 hg1
    have c0' : w2.cell? ⟨w.heap.size, 0, none⟩ = some (.int .i64 0) := n2.cell 0
    have c1' : w2.cell? ⟨w.heap.size, 1, none⟩ = some (.int .i64 0) := n2.cell 1
    have f0' := n2.frozen 0
    have f1' := n2.frozen 1
    have N2 := hide n2
    clear n2 hb2
    go_wp2
    obtain ⟨r2, rb⟩ := span_put (a := res.1) (b := res.2) N2.out HB3 (Nat.le_refl _)
    generalize (w2.setCell ⟨w.heap.size, 0, none⟩ (.int .i64 res.1)).setCell ⟨w.heap.size, 1, none⟩ (.int .i64 res.2) = w5 at r2 rb ⊢
    have d0 : w5.cell? ⟨w.heap.size, 0, none⟩ = some (.int .i64 res.1) := r2.cell 0
    have d1 : w5.cell? ⟨w.heap.size, 1, none⟩ = some (.int .i64 res.2) := r2.cell 1
    exact bodyPost_ret (v := spanV res) (by simp [results, Tryz.results46, go_sem, d0, d1]) rfl ⟨rfl, rb⟩
  · have ky : Blk ((w0.alloc (Obj.cells #[.int .i64 y1, .int .i64 y2] 88)).alloc (Obj.cells #[.int .i64 x1, .int .i64 x2] 88)).drew w0.heap.size 88 #[.int .i64 y1, .int .i64 y2] := (Blk.new _ _ _).alloc _
    have kx : Blk ((w0.alloc (Obj.cells #[.int .i64 y1, .int .i64 y2] 88)).alloc (Obj.cells #[.int .i64 x1, .int .i64 x2] 88)).drew (w0.heap.size + 1) 88 #[.int .i64 x1, .int .i64 x2] := by
      have := Blk.new (w0.alloc (Obj.cells #[.int .i64 y1, .int .i64 y2] 88)) 88 #[.int .i64 x1, .int .i64 x2]
      rw [show (w0.alloc (Obj.cells #[.int .i64 y1, .int .i64 y2] 88)).heap.size = w0.heap.size + 1 from by simp] at this
      exact this
    have kn : Blk ((w0.alloc (Obj.cells #[.int .i64 y1, .int .i64 y2] 88)).alloc (Obj.cells #[.int .i64 x1, .int .i64 x2] 88)).drew w.heap.size 88 #[.int .i64 0, .int .i64 0] := (n0.alloc _).alloc _
    have kb : Below w.heap.size w ((w0.alloc (Obj.cells #[.int .i64 y1, .int .i64 y2] 88)).alloc (Obj.cells #[.int .i64 x1, .int .i64 x2] 88)).drew := ((hb0.alloc hb0.size _).alloc (by have := hb0.size; simp; omega) _).drew
    generalize ((w0.alloc (Obj.cells #[.int .i64 y1, .int .i64 y2] 88)).alloc (Obj.cells #[.int .i64 x1, .int .i64 x2] 88)).drew = w1 at kx ky kn kb ⊢
    generalize w0.heap.size + 1 = gx at kx ⊢
    generalize w0.heap.size = gy at ky ⊢
    clear hA hB e0 e1 e2 e3 HZ hbl hb0 n0
    have c0 : w1.cell? ⟨gx, 0, none⟩ = some (.int .i64 x1) := kx.cell 0
    have c1 : w1.cell? ⟨gx, 1, none⟩ = some (.int .i64 x2) := kx.cell 1
    have c2 : w1.cell? ⟨gy, 0, none⟩ = some (.int .i64 y1) := ky.cell 0
    have c3 : w1.cell? ⟨gy, 1, none⟩ = some (.int .i64 y2) := ky.cell 1
    have hg1 := kn.lt
    have hgx := kx.lt
    have hgy := ky.lt
    have KN := hide kn
    clear kn kx ky
    have HR2 : Hid (hullL [timesL x1 y1, timesL x1 y2, timesL x2 y1, timesL x2 y2] = res) := HR
    clear HR
    go_upto_region 2 with (fail)
    go_still_tail 20, (by kernel_rfl)
    still_call ((times_any x1 y1 _ ⟨p1, p2⟩ ⟨q1, q2⟩).mono fun _ _ ⟨h1, h2⟩ => ⟨h1, h2.symm⟩)
    repeat still_step
    still_call ((times_any x1 y2 _ ⟨p1, p2⟩ ⟨q3, q4⟩).mono fun _ _ ⟨h1, h2⟩ => ⟨h1, h2.symm⟩)
    repeat still_step
    still_call ((times_any x2 y1 _ ⟨p3, p4⟩ ⟨q1, q2⟩).mono fun _ _ ⟨h1, h2⟩ => ⟨h1, h2.symm⟩)
    repeat still_step
    still_call ((times_any x2 y2 _ ⟨p3, p4⟩ ⟨q3, q4⟩).mono fun _ _ ⟨h1, h2⟩ => ⟨h1, h2.symm⟩)
    repeat still_step
    try refine wpStill_nil ?_
    change wpList _ _ _ _ _ w1.drew
    have kb1 : Below w.heap.size w w1.drew := kb.drew
    have KN1 : Hid (Blk w1.drew w.heap.size 88 #[.int .i64 0, .int .i64 0]) := KN
    have hg2 : w.heap.size < w1.drew.heap.size := hg1
    clear c0 c1 c2 c3 hgx hgy KN kb hg1
    generalize w1.drew = w3 at kb1 KN1 hg2 ⊢
    generalize timesL x1 y1 = m1 at HR2 ⊢
    generalize timesL x1 y2 = m2 at HR2 ⊢
    generalize timesL x2 y1 = m3 at HR2 ⊢
    generalize timesL x2 y2 = m4 at HR2 ⊢
    go_wp2_with fail
    have hri : RI (w3.alloc (Obj.cells #[.int .i64 m1, .int .i64 m2, .int .i64 m3, .int .i64 m4] 3)) (w3.alloc (Obj.cells #[.int .i64 m1, .int .i64 m2, .int .i64 m3, .int .i64 m4] 3)).heap.size (some ⟨w3.heap.size, 0, none⟩) 4 [m1, m2, m3, m4] := RI.lit w3 [m1, m2, m3, m4] 4 3 rfl
    have kb : Below w.heap.size w (w3.alloc (Obj.cells #[.int .i64 m1, .int .i64 m2, .int .i64 m3, .int .i64 m4] 3)) := kb1.alloc kb1.size _
    have KN : Hid (Blk (w3.alloc (Obj.cells #[.int .i64 m1, .int .i64 m2, .int .i64 m3, .int .i64 m4] 3)) w.heap.size 88 #[.int .i64 0, .int .i64 0]) := hide (KN1.out.alloc _)
    have hg1 : w.heap.size < (w3.alloc (Obj.cells #[.int .i64 m1, .int .i64 m2, .int .i64 m3, .int .i64 m4] 3)).heap.size := by simp; omega
    generalize w3.alloc (Obj.cells #[.int .i64 m1, .int .i64 m2, .int .i64 m3, .int .i64 m4] 3) = w1 at hri kb KN hg1 ⊢
    refine (hull_any _ 4 4 [m1, m2, m3, m4] w1 hri (by omega) (by unfold maxLen; omega)).mono ?_
    rintro e w2 ⟨rfl, hb2⟩
    rw [HR2.out]
    clear hri kb1 KN1 hg2
    have HB3 : Below w.heap.size w w2 := kb.trans (hb2.mono kb.size)
    have n2 := KN.out.below hb2 hg1
    have c0' : w2.cell? ⟨w.heap.size, 0, none⟩ = some (.int .i64 0) := n2.cell 0
    have c1' : w2.cell? ⟨w.heap.size, 1, none⟩ = some (.int .i64 0) := n2.cell 1
    have f0' := n2.frozen 0
    have f1' := n2.frozen 1
    have N2 := hide n2
    clear n2 hb2
    go_wp2
    obtain ⟨r2, rb⟩ := span_put (a := res.1) (b := res.2) N2.out HB3 (Nat.le_refl _)
    generalize (w2.setCell ⟨w.heap.size, 0, none⟩ (.int .i64 res.1)).setCell ⟨w.heap.size, 1, none⟩ (.int .i64 res.2) = w5 at r2 rb ⊢
    have d0 : w5.cell? ⟨w.heap.size, 0, none⟩ = some (.int .i64 res.1) := r2.cell 0
    have d1 : w5.cell? ⟨w.heap.size, 1, none⟩ = some (.int .i64 res.2) := r2.cell 1
    exact bodyPost_ret (v := spanV res) (by simp [results, Tryz.results46, go_sem, d0, d1]) rfl ⟨rfl, rb⟩
end Go.Proofs.YtmelebfpkjnfdaaGreatDoor

/-
  bound's operators on the bounds of operands: choose.
-/
namespace Go.Proofs.YtmelebfpkjnfdaaGreatDoor
open Go.RowKit Go.Deep Go.Maps

theorem RSp.three {w : World} {B : Nat} {A : Option Addr} {n : Nat} {x y z : Int × Int} {l : List (Int × Int)} (h : RSp w B A n (x :: y :: z :: l)) : ∃ b off, A = some ⟨b, off, none⟩ ∧ b < B ∧
    w.cell? ⟨b, off, none⟩ = some (.int .i64 x.1) ∧ w.cell? ⟨b, off + 1, none⟩ = some (.int .i64 x.2) ∧ w.cell? ⟨b, off + 2, none⟩ = some (.int .i64 y.1) ∧ w.cell? ⟨b, off + 3, none⟩ = some (.int .i64 y.2) ∧
    w.cell? ⟨b, off + 4, none⟩ = some (.int .i64 z.1) ∧ w.cell? ⟨b, off + 5, none⟩ = some (.int .i64 z.2) := by
  have hl := h.len
  simp at hl
  obtain ⟨b, off, hA, hb, a0, a1⟩ := h.at_ (i := 0) (by omega)
  obtain ⟨b', off', hA', hb', b0, b1⟩ := h.at_ (i := 1) (by omega)
  obtain ⟨b'', off'', hA'', hb'', c0, c1⟩ := h.at_ (i := 2) (by omega)
  rw [hA] at hA' hA''
  injection hA' with hA'
  injection hA' with e1 e2
  injection hA'' with hA''
  injection hA'' with e3 e4
  subst e1 e2 e3 e4
  exact ⟨b, off, hA, hb, a0, a1, b0, b1, c0, c1⟩

set_option maxHeartbeats 2000000 in
set_option maxRecDepth 20000 in
theorem choose_any (A : Option Addr) (n c : Nat) (x y z : Int × Int) (w : World) (h : RSp w w.heap.size A n [x, y, z]) :
    Calls Tryz.prog 50 #[.slice A n c] w fun e w' => e = .returned (spanV (nodeB 9 x y z)) ∧ Below w.heap.size w w' := by
  obtain rfl : 3 = n := h.len
  obtain ⟨b, off, rfl, hb, a0, a1, a2, a3, a4, a5⟩ := h.three
  obtain ⟨x1, x2⟩ := x
  obtain ⟨y1, y2⟩ := y
  obtain ⟨z1, z2⟩ := z
  dsimp only at a0 a1 a2 a3 a4 a5 ⊢
  obtain ⟨res, hres⟩ : ∃ res, nodeB 9 (x1, x2) (y1, y2) (z1, z2) = res := ⟨_, rfl⟩
  rw [hres]
  have HR : Hid ((if 0 < x1 then (y1, y2) else if x2 ≤ 0 then (z1, z2) else hullL [y1, y2, z1, z2]) = res) := hres
  clear hres
  have hb0 : Below w.heap.size w ((w.alloc (Obj.cells #[.int .i64 0, .int .i64 0] 88)).alloc (Obj.cells #[.int .i64 x1, .int .i64 x2] 88)) := ((Below.refl _ _).alloc (Nat.le_refl _) _).alloc (by simp) _
  have n0 : Blk ((w.alloc (Obj.cells #[.int .i64 0, .int .i64 0] 88)).alloc (Obj.cells #[.int .i64 x1, .int .i64 x2] 88)) w.heap.size 88 #[.int .i64 0, .int .i64 0] := (Blk.new _ _ _).alloc _
  have n1 : Blk ((w.alloc (Obj.cells #[.int .i64 0, .int .i64 0] 88)).alloc (Obj.cells #[.int .i64 x1, .int .i64 x2] 88)) (w.heap.size + 1) 88 #[.int .i64 x1, .int .i64 x2] := by
    have := Blk.new (w.alloc (Obj.cells #[.int .i64 0, .int .i64 0] 88)) 88 #[.int .i64 x1, .int .i64 x2]
    rw [show (w.alloc (Obj.cells #[.int .i64 0, .int .i64 0] 88)).heap.size = w.heap.size + 1 from by simp] at this
    exact this
  have hA : ∀ (o : Obj) (bb off : Nat), bb < w.heap.size → (w.alloc o).cell? ⟨bb, off, none⟩ = w.cell? ⟨bb, off, none⟩ := fun o bb off h => World.cell?_alloc_lt w o ⟨bb, off, none⟩ h
  have HB := hide hb0
  have N0 := hide n0
  have N1 := hide n1
  clear hb0 n0 n1 h
  go_enter Tryz.func50, Tryz.ntmps50
  go_upto_region 2 with (fail)
  generalize (w.alloc (Obj.cells #[.int .i64 0, .int .i64 0] 88)).alloc (Obj.cells #[.int .i64 x1, .int .i64 x2] 88) = w0 at HB N0 N1 ⊢
  have hb0 := HB.out
  have e2 : w0.cell? ⟨b, off + 2, none⟩ = some (.int .i64 y1) := (hb0.cell (p := ⟨b, off + 2, none⟩) hb).trans a2
  have e3 : w0.cell? ⟨b, off + 3, none⟩ = some (.int .i64 y2) := (hb0.cell (p := ⟨b, off + 3, none⟩) hb).trans a3
  have e4 : w0.cell? ⟨b, off + 4, none⟩ = some (.int .i64 z1) := (hb0.cell (p := ⟨b, off + 4, none⟩) hb).trans a4
  have e5 : w0.cell? ⟨b, off + 5, none⟩ = some (.int .i64 z2) := (hb0.cell (p := ⟨b, off + 5, none⟩) hb).trans a5
  have c0 : w0.cell? ⟨w.heap.size, 0, none⟩ = some (.int .i64 0) := N0.out.cell 0
  have c1 : w0.cell? ⟨w.heap.size, 1, none⟩ = some (.int .i64 0) := N0.out.cell 1
  have f0 := N0.out.frozen 0
  have f1 := N0.out.frozen 1
  have d0 : w0.cell? ⟨w.heap.size + 1, 0, none⟩ = some (.int .i64 x1) := N1.out.cell 0
  have d1 : w0.cell? ⟨w.heap.size + 1, 1, none⟩ = some (.int .i64 x2) := N1.out.cell 1
  have hg0 := N0.out.lt
  clear a0 a1 a2 a3 a4 a5 hA hb0
  by_cases hx1 : 0 < x1
  · have hx1' : decide (0 < x1) = true := decide_eq_true hx1
    obtain rfl : (y1, y2) = res := by rw [← HR.out, if_pos hx1]
    clear HR
    go_wp2
    obtain ⟨r2, rb⟩ := span_put (a := y1) (b := y2) N0.out HB.out (Nat.le_refl _)
    generalize (w0.setCell ⟨w.heap.size, 0, none⟩ (.int .i64 y1)).setCell ⟨w.heap.size, 1, none⟩ (.int .i64 y2) = w5 at r2 rb ⊢
    have d0 : w5.cell? ⟨w.heap.size, 0, none⟩ = some (.int .i64 y1) := r2.cell 0
    have d1 : w5.cell? ⟨w.heap.size, 1, none⟩ = some (.int .i64 y2) := r2.cell 1
    exact bodyPost_ret (v := spanV (y1, y2)) (by simp [results, Tryz.results50, go_sem, d0, d1]) rfl ⟨rfl, rb⟩
  · have hx1' : decide (0 < x1) = false := decide_eq_false hx1
    by_cases hx2 : x2 ≤ 0
    · have hx2' : decide (x2 ≤ 0) = true := decide_eq_true hx2
      obtain rfl : (z1, z2) = res := by rw [← HR.out, if_neg hx1, if_pos hx2]
      clear HR
      go_wp2
      obtain ⟨r2, rb⟩ := span_put (a := z1) (b := z2) N0.out HB.out (Nat.le_refl _)
      generalize (w0.setCell ⟨w.heap.size, 0, none⟩ (.int .i64 z1)).setCell ⟨w.heap.size, 1, none⟩ (.int .i64 z2) = w5 at r2 rb ⊢
      have d0 : w5.cell? ⟨w.heap.size, 0, none⟩ = some (.int .i64 z1) := r2.cell 0
      have d1 : w5.cell? ⟨w.heap.size, 1, none⟩ = some (.int .i64 z2) := r2.cell 1
      exact bodyPost_ret (v := spanV (z1, z2)) (by simp [results, Tryz.results50, go_sem, d0, d1]) rfl ⟨rfl, rb⟩
    · have hx2' : decide (x2 ≤ 0) = false := decide_eq_false hx2
      have HR2 : Hid (hullL [y1, y2, z1, z2] = res) := by
        show _ = _
        rw [← HR.out, if_neg hx1, if_neg hx2]
      clear HR
      go_upto_region 6 with (fail)
      go_still_tail 16, (by kernel_rfl)
      change wpList _ _ _ _ _ w0.drew
      have kb1 : Below w.heap.size w w0.drew := HB.out.drew
      have KN1 : Hid (Blk w0.drew w.heap.size 88 #[.int .i64 0, .int .i64 0]) := N0
      have hg2 : w.heap.size < w0.drew.heap.size := hg0
      clear c0 c1 f0 f1 d0 d1 e2 e3 e4 e5 HB N0 N1 hg0
      generalize w0.drew = w3 at kb1 KN1 hg2 ⊢
      go_wp2_with fail
      have hri : RI (w3.alloc (Obj.cells #[.int .i64 y1, .int .i64 y2, .int .i64 z1, .int .i64 z2] 3)) (w3.alloc (Obj.cells #[.int .i64 y1, .int .i64 y2, .int .i64 z1, .int .i64 z2] 3)).heap.size (some ⟨w3.heap.size, 0, none⟩) 4 [y1, y2, z1, z2] := RI.lit w3 [y1, y2, z1, z2] 4 3 rfl
      have kb : Below w.heap.size w (w3.alloc (Obj.cells #[.int .i64 y1, .int .i64 y2, .int .i64 z1, .int .i64 z2] 3)) := kb1.alloc kb1.size _
      have KN : Hid (Blk (w3.alloc (Obj.cells #[.int .i64 y1, .int .i64 y2, .int .i64 z1, .int .i64 z2] 3)) w.heap.size 88 #[.int .i64 0, .int .i64 0]) := hide (KN1.out.alloc _)
      have hg1 : w.heap.size < (w3.alloc (Obj.cells #[.int .i64 y1, .int .i64 y2, .int .i64 z1, .int .i64 z2] 3)).heap.size := by simp; omega
      generalize w3.alloc (Obj.cells #[.int .i64 y1, .int .i64 y2, .int .i64 z1, .int .i64 z2] 3) = w1 at hri kb KN hg1 ⊢
      refine (hull_any _ 4 4 [y1, y2, z1, z2] w1 hri (by omega) (by unfold maxLen; omega)).mono ?_
      rintro e w2 ⟨rfl, hb2⟩
      clear hri kb1 KN1 hg2
      rw [HR2.out]
      have HB3 : Below w.heap.size w w2 := kb.trans (hb2.mono kb.size)
      have n2 := KN.out.below hb2 hg1
      have c0' : w2.cell? ⟨w.heap.size, 0, none⟩ = some (.int .i64 0) := n2.cell 0
      have c1' : w2.cell? ⟨w.heap.size, 1, none⟩ = some (.int .i64 0) := n2.cell 1
      have f0' := n2.frozen 0
      have f1' := n2.frozen 1
      have N2 := hide n2
      clear n2 hb2
      go_wp2
      obtain ⟨r2, rb⟩ := span_put (a := res.1) (b := res.2) N2.out HB3 (Nat.le_refl _)
      generalize (w2.setCell ⟨w.heap.size, 0, none⟩ (.int .i64 res.1)).setCell ⟨w.heap.size, 1, none⟩ (.int .i64 res.2) = w5 at r2 rb ⊢
      have d0 : w5.cell? ⟨w.heap.size, 0, none⟩ = some (.int .i64 res.1) := r2.cell 0
      have d1 : w5.cell? ⟨w.heap.size, 1, none⟩ = some (.int .i64 res.2) := r2.cell 1
      exact bodyPost_ret (v := spanV res) (by simp [results, Tryz.results50, go_sem, d0, d1]) rfl ⟨rfl, rb⟩
end Go.Proofs.YtmelebfpkjnfdaaGreatDoor
