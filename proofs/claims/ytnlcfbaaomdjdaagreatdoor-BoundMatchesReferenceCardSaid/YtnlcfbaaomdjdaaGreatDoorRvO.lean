/-
  The reference of chapter 22: the bounds of a node, operator by operator.
-/
import Derived.Test.YtnlcfbaaomdjdaaGreatDoorRvM
set_option linter.unusedVariables false
set_option linter.unusedSimpArgs false
namespace Go.Proofs.YtnlcfbaaomdjdaaGreatDoor
open Go.RowKit Go.Deep

set_option maxHeartbeats 4000000 in
set_option maxRecDepth 20000 in
theorem refNode3 (A : Option Addr) (n c : Nat) (x y : Int × Int) (w : World) (h : RSp w w.heap.size A n [x, y]) (hx : inS x) (hy : inS y) :
    Calls Tryz.prog 25 #[.int .i64 3, .slice A n c] w fun e w' => e = .returned (growV (growL [x.1 + y.1, x.2 + y.2])) ∧ Below w.heap.size w w' := by
  obtain rfl : 2 = n := h.len
  obtain ⟨b, off, rfl, hb, a0, a1, a2, _, a3⟩ := h.two
  obtain ⟨x1, x2⟩ := x
  obtain ⟨y1, y2⟩ := y
  obtain ⟨⟨p0a, p0b⟩, p0c, p0d⟩ := hx
  obtain ⟨⟨p1a, p1b⟩, p1c, p1d⟩ := hy
  dsimp only at p0a p0b p0c p0d p1a p1b p1c p1d ⊢
  obtain ⟨R, hR⟩ : ∃ R, growL [x1 + y1, x2 + y2] = R := ⟨_, rfl⟩
  rw [hR]
  have HRR := hide hR
  clear hR
  have HC : Hid (∀ wq : World, Below w.heap.size w wq → wq.cell? ⟨b, off, none⟩ = some (.int .i64 x1) ∧ wq.cell? ⟨b, off + 1, none⟩ = some (.int .i64 x2) ∧ wq.cell? ⟨b, off + 2, none⟩ = some (.int .i64 y1) ∧ wq.cell? ⟨b, off + 3, none⟩ = some (.int .i64 y2)) := hide (fun wq hq => ⟨(hq.cell (p := ⟨b, off, none⟩) hb).trans a0, (hq.cell (p := ⟨b, off + 1, none⟩) hb).trans a1, (hq.cell (p := ⟨b, off + 2, none⟩) hb).trans a2, (hq.cell (p := ⟨b, off + 3, none⟩) hb).trans a3⟩)
  clear a0 a1 a2 a3 h
  have HN0 := hide (NodeSt.start w)
  go_enter Tryz.func25, Tryz.ntmps25
  go_upto_region 4 with (fail)
  generalize (w.alloc (Obj.cells #[.int .i64 0, .int .i64 0, .bool false] 52)).alloc (Obj.cells #[.int .i64 0, .int .i64 0, .bool false] 52) = w0 at HN0 ⊢
  obtain ⟨e0, e1, e2, e3⟩ := HC.out w0 HN0.out.bel
  go_still_tail 9, (by kernel_rfl)
  change wpList _ _ _ _ _ w0.drew
  have HD0 := hide HN0.out.drew
  generalize w0.drew = wd0 at HD0 ⊢
  go_wp2_with fail
  refine (refAdd_any _ _ _ _ HD0.out.own).mono ?_
  rintro en w1 ⟨rfl, hb', hk'⟩
  have HN1 := hide (HD0.out.step hb' hk')
  clear hb' hk'
  clear e0 e1 e2 e3
  obtain ⟨e0, e1, e2, e3⟩ := HC.out w1 HN1.out.bel
  go_upto_region 5 with (fail)
  go_still_tail 9, (by kernel_rfl)
  change wpList _ _ _ _ _ w1.drew
  have HD1 := hide HN1.out.drew
  generalize w1.drew = wd1 at HD1 ⊢
  go_wp2_with fail
  refine (refAdd_any _ _ _ _ HD1.out.own).mono ?_
  rintro en w2 ⟨rfl, hb', hk'⟩
  have HN2 := hide (HD1.out.step hb' hk')
  clear hb' hk'
  clear e0 e1 e2 e3
  obtain ⟨e0, e1, e2, e3⟩ := HC.out w2 HN2.out.bel
  have HF : Hid (NodeSt w (growL [x1 + y1, x2 + y2]) w2) := HN2
  clear e0 e1 e2 e3
  obtain ⟨s, hs⟩ : ∃ s, growL [x1 + y1, x2 + y2] = s := ⟨_, rfl⟩
  rw [hs] at HF
  have HS := hide hs
  clear hs
  obtain ⟨lo, hi, sm⟩ := s
  have c0 : w2.cell? ⟨w.heap.size + 1, 0, none⟩ = some (.int .i64 lo) := HF.out.own.cell 0
  have c1 : w2.cell? ⟨w.heap.size + 1, 1, none⟩ = some (.int .i64 hi) := HF.out.own.cell 1
  have c2 : w2.cell? ⟨w.heap.size + 1, 2, none⟩ = some (.bool sm) := HF.out.own.cell 2
  have r0 : w2.cell? ⟨w.heap.size, 0, none⟩ = some (.int .i64 0) := HF.out.res.cell 0
  have r1 : w2.cell? ⟨w.heap.size, 1, none⟩ = some (.int .i64 0) := HF.out.res.cell 1
  have r2 : w2.cell? ⟨w.heap.size, 2, none⟩ = some (.bool false) := HF.out.res.cell 2
  have f0 := HF.out.res.frozen 0
  have f1 := HF.out.res.frozen 1
  have f2 := HF.out.res.frozen 2
  have HP := hide HF.out.put
  go_wp2
  generalize ((w2.setCell ⟨w.heap.size, 0, none⟩ (.int .i64 lo)).setCell ⟨w.heap.size, 1, none⟩ (.int .i64 hi)).setCell ⟨w.heap.size, 2, none⟩ (.bool sm) = w9 at HP ⊢
  have d0 : w9.cell? ⟨w.heap.size, 0, none⟩ = some (.int .i64 lo) := HP.out.1.cell 0
  have d1 : w9.cell? ⟨w.heap.size, 1, none⟩ = some (.int .i64 hi) := HP.out.1.cell 1
  have d2 : w9.cell? ⟨w.heap.size, 2, none⟩ = some (.bool sm) := HP.out.1.cell 2
  exact bodyPost_ret (v := .agg #[.int .i64 lo, .int .i64 hi, .bool sm]) (by simp [results, Tryz.results25, go_sem, d0, d1, d2]) rfl ⟨by rw [← HRR.out, HS.out]; rfl, HP.out.2⟩
set_option maxHeartbeats 4000000 in
set_option maxRecDepth 20000 in
theorem refNode4 (A : Option Addr) (n c : Nat) (x y : Int × Int) (w : World) (h : RSp w w.heap.size A n [x, y]) (hx : inS x) (hy : inS y) :
    Calls Tryz.prog 25 #[.int .i64 4, .slice A n c] w fun e w' => e = .returned (growV (growL [x.1 - y.2, x.2 - y.1])) ∧ Below w.heap.size w w' := by
  obtain rfl : 2 = n := h.len
  obtain ⟨b, off, rfl, hb, a0, a1, a2, _, a3⟩ := h.two
  obtain ⟨x1, x2⟩ := x
  obtain ⟨y1, y2⟩ := y
  obtain ⟨⟨p0a, p0b⟩, p0c, p0d⟩ := hx
  obtain ⟨⟨p1a, p1b⟩, p1c, p1d⟩ := hy
  dsimp only at p0a p0b p0c p0d p1a p1b p1c p1d ⊢
  obtain ⟨R, hR⟩ : ∃ R, growL [x1 - y2, x2 - y1] = R := ⟨_, rfl⟩
  rw [hR]
  have HRR := hide hR
  clear hR
  have HC : Hid (∀ wq : World, Below w.heap.size w wq → wq.cell? ⟨b, off, none⟩ = some (.int .i64 x1) ∧ wq.cell? ⟨b, off + 1, none⟩ = some (.int .i64 x2) ∧ wq.cell? ⟨b, off + 2, none⟩ = some (.int .i64 y1) ∧ wq.cell? ⟨b, off + 3, none⟩ = some (.int .i64 y2)) := hide (fun wq hq => ⟨(hq.cell (p := ⟨b, off, none⟩) hb).trans a0, (hq.cell (p := ⟨b, off + 1, none⟩) hb).trans a1, (hq.cell (p := ⟨b, off + 2, none⟩) hb).trans a2, (hq.cell (p := ⟨b, off + 3, none⟩) hb).trans a3⟩)
  clear a0 a1 a2 a3 h
  have HN0 := hide (NodeSt.start w)
  go_enter Tryz.func25, Tryz.ntmps25
  go_upto_region 7 with (fail)
  generalize (w.alloc (Obj.cells #[.int .i64 0, .int .i64 0, .bool false] 52)).alloc (Obj.cells #[.int .i64 0, .int .i64 0, .bool false] 52) = w0 at HN0 ⊢
  obtain ⟨e0, e1, e2, e3⟩ := HC.out w0 HN0.out.bel
  go_still_tail 9, (by kernel_rfl)
  change wpList _ _ _ _ _ w0.drew
  have HD0 := hide HN0.out.drew
  generalize w0.drew = wd0 at HD0 ⊢
  go_wp2_with fail
  refine (refAdd_any _ _ _ _ HD0.out.own).mono ?_
  rintro en w1 ⟨rfl, hb', hk'⟩
  have HN1 := hide (HD0.out.step hb' hk')
  clear hb' hk'
  clear e0 e1 e2 e3
  obtain ⟨e0, e1, e2, e3⟩ := HC.out w1 HN1.out.bel
  go_upto_region 8 with (fail)
  go_still_tail 9, (by kernel_rfl)
  change wpList _ _ _ _ _ w1.drew
  have HD1 := hide HN1.out.drew
  generalize w1.drew = wd1 at HD1 ⊢
  go_wp2_with fail
  refine (refAdd_any _ _ _ _ HD1.out.own).mono ?_
  rintro en w2 ⟨rfl, hb', hk'⟩
  have HN2 := hide (HD1.out.step hb' hk')
  clear hb' hk'
  clear e0 e1 e2 e3
  obtain ⟨e0, e1, e2, e3⟩ := HC.out w2 HN2.out.bel
  have HF : Hid (NodeSt w (growL [x1 - y2, x2 - y1]) w2) := HN2
  clear e0 e1 e2 e3
  obtain ⟨s, hs⟩ : ∃ s, growL [x1 - y2, x2 - y1] = s := ⟨_, rfl⟩
  rw [hs] at HF
  have HS := hide hs
  clear hs
  obtain ⟨lo, hi, sm⟩ := s
  have c0 : w2.cell? ⟨w.heap.size + 1, 0, none⟩ = some (.int .i64 lo) := HF.out.own.cell 0
  have c1 : w2.cell? ⟨w.heap.size + 1, 1, none⟩ = some (.int .i64 hi) := HF.out.own.cell 1
  have c2 : w2.cell? ⟨w.heap.size + 1, 2, none⟩ = some (.bool sm) := HF.out.own.cell 2
  have r0 : w2.cell? ⟨w.heap.size, 0, none⟩ = some (.int .i64 0) := HF.out.res.cell 0
  have r1 : w2.cell? ⟨w.heap.size, 1, none⟩ = some (.int .i64 0) := HF.out.res.cell 1
  have r2 : w2.cell? ⟨w.heap.size, 2, none⟩ = some (.bool false) := HF.out.res.cell 2
  have f0 := HF.out.res.frozen 0
  have f1 := HF.out.res.frozen 1
  have f2 := HF.out.res.frozen 2
  have HP := hide HF.out.put
  go_wp2
  generalize ((w2.setCell ⟨w.heap.size, 0, none⟩ (.int .i64 lo)).setCell ⟨w.heap.size, 1, none⟩ (.int .i64 hi)).setCell ⟨w.heap.size, 2, none⟩ (.bool sm) = w9 at HP ⊢
  have d0 : w9.cell? ⟨w.heap.size, 0, none⟩ = some (.int .i64 lo) := HP.out.1.cell 0
  have d1 : w9.cell? ⟨w.heap.size, 1, none⟩ = some (.int .i64 hi) := HP.out.1.cell 1
  have d2 : w9.cell? ⟨w.heap.size, 2, none⟩ = some (.bool sm) := HP.out.1.cell 2
  exact bodyPost_ret (v := .agg #[.int .i64 lo, .int .i64 hi, .bool sm]) (by simp [results, Tryz.results25, go_sem, d0, d1, d2]) rfl ⟨by rw [← HRR.out, HS.out]; rfl, HP.out.2⟩
set_option maxHeartbeats 4000000 in
set_option maxRecDepth 20000 in
theorem refNode7 (A : Option Addr) (n c : Nat) (x y : Int × Int) (w : World) (h : RSp w w.heap.size A n [x, y]) (hx : inS x) (hy : inS y) :
    Calls Tryz.prog 25 #[.int .i64 7, .slice A n c] w fun e w' => e = .returned (growV (growL [min x.1 y.1, min x.2 y.2])) ∧ Below w.heap.size w w' := by
  obtain rfl : 2 = n := h.len
  obtain ⟨b, off, rfl, hb, a0, a1, a2, _, a3⟩ := h.two
  obtain ⟨x1, x2⟩ := x
  obtain ⟨y1, y2⟩ := y
  obtain ⟨⟨p0a, p0b⟩, p0c, p0d⟩ := hx
  obtain ⟨⟨p1a, p1b⟩, p1c, p1d⟩ := hy
  dsimp only at p0a p0b p0c p0d p1a p1b p1c p1d ⊢
  obtain ⟨R, hR⟩ : ∃ R, growL [min x1 y1, min x2 y2] = R := ⟨_, rfl⟩
  rw [hR]
  have HRR := hide hR
  clear hR
  have HC : Hid (∀ wq : World, Below w.heap.size w wq → wq.cell? ⟨b, off, none⟩ = some (.int .i64 x1) ∧ wq.cell? ⟨b, off + 1, none⟩ = some (.int .i64 x2) ∧ wq.cell? ⟨b, off + 2, none⟩ = some (.int .i64 y1) ∧ wq.cell? ⟨b, off + 3, none⟩ = some (.int .i64 y2)) := hide (fun wq hq => ⟨(hq.cell (p := ⟨b, off, none⟩) hb).trans a0, (hq.cell (p := ⟨b, off + 1, none⟩) hb).trans a1, (hq.cell (p := ⟨b, off + 2, none⟩) hb).trans a2, (hq.cell (p := ⟨b, off + 3, none⟩) hb).trans a3⟩)
  clear a0 a1 a2 a3 h
  have HN0 := hide (NodeSt.start w)
  go_enter Tryz.func25, Tryz.ntmps25
  go_upto_region 30 with (fail)
  generalize (w.alloc (Obj.cells #[.int .i64 0, .int .i64 0, .bool false] 52)).alloc (Obj.cells #[.int .i64 0, .int .i64 0, .bool false] 52) = w0 at HN0 ⊢
  obtain ⟨e0, e1, e2, e3⟩ := HC.out w0 HN0.out.bel
  go_still_tail 9, (by kernel_rfl)
  change wpList _ _ _ _ _ w0.drew
  have HD0 := hide HN0.out.drew
  generalize w0.drew = wd0 at HD0 ⊢
  go_wp2_with fail
  refine (refAdd_any _ _ _ _ HD0.out.own).mono ?_
  rintro en w1 ⟨rfl, hb', hk'⟩
  have HN1 := hide (HD0.out.step hb' hk')
  clear hb' hk'
  clear e0 e1 e2 e3
  obtain ⟨e0, e1, e2, e3⟩ := HC.out w1 HN1.out.bel
  go_upto_region 31 with (fail)
  go_still_tail 9, (by kernel_rfl)
  change wpList _ _ _ _ _ w1.drew
  have HD1 := hide HN1.out.drew
  generalize w1.drew = wd1 at HD1 ⊢
  go_wp2_with fail
  refine (refAdd_any _ _ _ _ HD1.out.own).mono ?_
  rintro en w2 ⟨rfl, hb', hk'⟩
  have HN2 := hide (HD1.out.step hb' hk')
  clear hb' hk'
  clear e0 e1 e2 e3
  obtain ⟨e0, e1, e2, e3⟩ := HC.out w2 HN2.out.bel
  have HF : Hid (NodeSt w (growL [min x1 y1, min x2 y2]) w2) := HN2
  clear e0 e1 e2 e3
  obtain ⟨s, hs⟩ : ∃ s, growL [min x1 y1, min x2 y2] = s := ⟨_, rfl⟩
  rw [hs] at HF
  have HS := hide hs
  clear hs
  obtain ⟨lo, hi, sm⟩ := s
  have c0 : w2.cell? ⟨w.heap.size + 1, 0, none⟩ = some (.int .i64 lo) := HF.out.own.cell 0
  have c1 : w2.cell? ⟨w.heap.size + 1, 1, none⟩ = some (.int .i64 hi) := HF.out.own.cell 1
  have c2 : w2.cell? ⟨w.heap.size + 1, 2, none⟩ = some (.bool sm) := HF.out.own.cell 2
  have r0 : w2.cell? ⟨w.heap.size, 0, none⟩ = some (.int .i64 0) := HF.out.res.cell 0
  have r1 : w2.cell? ⟨w.heap.size, 1, none⟩ = some (.int .i64 0) := HF.out.res.cell 1
  have r2 : w2.cell? ⟨w.heap.size, 2, none⟩ = some (.bool false) := HF.out.res.cell 2
  have f0 := HF.out.res.frozen 0
  have f1 := HF.out.res.frozen 1
  have f2 := HF.out.res.frozen 2
  have HP := hide HF.out.put
  go_wp2
  generalize ((w2.setCell ⟨w.heap.size, 0, none⟩ (.int .i64 lo)).setCell ⟨w.heap.size, 1, none⟩ (.int .i64 hi)).setCell ⟨w.heap.size, 2, none⟩ (.bool sm) = w9 at HP ⊢
  have d0 : w9.cell? ⟨w.heap.size, 0, none⟩ = some (.int .i64 lo) := HP.out.1.cell 0
  have d1 : w9.cell? ⟨w.heap.size, 1, none⟩ = some (.int .i64 hi) := HP.out.1.cell 1
  have d2 : w9.cell? ⟨w.heap.size, 2, none⟩ = some (.bool sm) := HP.out.1.cell 2
  exact bodyPost_ret (v := .agg #[.int .i64 lo, .int .i64 hi, .bool sm]) (by simp [results, Tryz.results25, go_sem, d0, d1, d2]) rfl ⟨by rw [← HRR.out, HS.out]; rfl, HP.out.2⟩
set_option maxHeartbeats 4000000 in
set_option maxRecDepth 20000 in
theorem refNode8 (A : Option Addr) (n c : Nat) (x y : Int × Int) (w : World) (h : RSp w w.heap.size A n [x, y]) (hx : inS x) (hy : inS y) :
    Calls Tryz.prog 25 #[.int .i64 8, .slice A n c] w fun e w' => e = .returned (growV (growL [max x.1 y.1, max x.2 y.2])) ∧ Below w.heap.size w w' := by
  obtain rfl : 2 = n := h.len
  obtain ⟨b, off, rfl, hb, a0, a1, a2, _, a3⟩ := h.two
  obtain ⟨x1, x2⟩ := x
  obtain ⟨y1, y2⟩ := y
  obtain ⟨⟨p0a, p0b⟩, p0c, p0d⟩ := hx
  obtain ⟨⟨p1a, p1b⟩, p1c, p1d⟩ := hy
  dsimp only at p0a p0b p0c p0d p1a p1b p1c p1d ⊢
  obtain ⟨R, hR⟩ : ∃ R, growL [max x1 y1, max x2 y2] = R := ⟨_, rfl⟩
  rw [hR]
  have HRR := hide hR
  clear hR
  have HC : Hid (∀ wq : World, Below w.heap.size w wq → wq.cell? ⟨b, off, none⟩ = some (.int .i64 x1) ∧ wq.cell? ⟨b, off + 1, none⟩ = some (.int .i64 x2) ∧ wq.cell? ⟨b, off + 2, none⟩ = some (.int .i64 y1) ∧ wq.cell? ⟨b, off + 3, none⟩ = some (.int .i64 y2)) := hide (fun wq hq => ⟨(hq.cell (p := ⟨b, off, none⟩) hb).trans a0, (hq.cell (p := ⟨b, off + 1, none⟩) hb).trans a1, (hq.cell (p := ⟨b, off + 2, none⟩) hb).trans a2, (hq.cell (p := ⟨b, off + 3, none⟩) hb).trans a3⟩)
  clear a0 a1 a2 a3 h
  have HN0 := hide (NodeSt.start w)
  go_enter Tryz.func25, Tryz.ntmps25
  go_upto_region 33 with (fail)
  generalize (w.alloc (Obj.cells #[.int .i64 0, .int .i64 0, .bool false] 52)).alloc (Obj.cells #[.int .i64 0, .int .i64 0, .bool false] 52) = w0 at HN0 ⊢
  obtain ⟨e0, e1, e2, e3⟩ := HC.out w0 HN0.out.bel
  go_still_tail 9, (by kernel_rfl)
  change wpList _ _ _ _ _ w0.drew
  have HD0 := hide HN0.out.drew
  generalize w0.drew = wd0 at HD0 ⊢
  go_wp2_with fail
  refine (refAdd_any _ _ _ _ HD0.out.own).mono ?_
  rintro en w1 ⟨rfl, hb', hk'⟩
  have HN1 := hide (HD0.out.step hb' hk')
  clear hb' hk'
  clear e0 e1 e2 e3
  obtain ⟨e0, e1, e2, e3⟩ := HC.out w1 HN1.out.bel
  go_upto_region 34 with (fail)
  go_still_tail 9, (by kernel_rfl)
  change wpList _ _ _ _ _ w1.drew
  have HD1 := hide HN1.out.drew
  generalize w1.drew = wd1 at HD1 ⊢
  go_wp2_with fail
  refine (refAdd_any _ _ _ _ HD1.out.own).mono ?_
  rintro en w2 ⟨rfl, hb', hk'⟩
  have HN2 := hide (HD1.out.step hb' hk')
  clear hb' hk'
  clear e0 e1 e2 e3
  obtain ⟨e0, e1, e2, e3⟩ := HC.out w2 HN2.out.bel
  have HF : Hid (NodeSt w (growL [max x1 y1, max x2 y2]) w2) := HN2
  clear e0 e1 e2 e3
  obtain ⟨s, hs⟩ : ∃ s, growL [max x1 y1, max x2 y2] = s := ⟨_, rfl⟩
  rw [hs] at HF
  have HS := hide hs
  clear hs
  obtain ⟨lo, hi, sm⟩ := s
  have c0 : w2.cell? ⟨w.heap.size + 1, 0, none⟩ = some (.int .i64 lo) := HF.out.own.cell 0
  have c1 : w2.cell? ⟨w.heap.size + 1, 1, none⟩ = some (.int .i64 hi) := HF.out.own.cell 1
  have c2 : w2.cell? ⟨w.heap.size + 1, 2, none⟩ = some (.bool sm) := HF.out.own.cell 2
  have r0 : w2.cell? ⟨w.heap.size, 0, none⟩ = some (.int .i64 0) := HF.out.res.cell 0
  have r1 : w2.cell? ⟨w.heap.size, 1, none⟩ = some (.int .i64 0) := HF.out.res.cell 1
  have r2 : w2.cell? ⟨w.heap.size, 2, none⟩ = some (.bool false) := HF.out.res.cell 2
  have f0 := HF.out.res.frozen 0
  have f1 := HF.out.res.frozen 1
  have f2 := HF.out.res.frozen 2
  have HP := hide HF.out.put
  go_wp2
  generalize ((w2.setCell ⟨w.heap.size, 0, none⟩ (.int .i64 lo)).setCell ⟨w.heap.size, 1, none⟩ (.int .i64 hi)).setCell ⟨w.heap.size, 2, none⟩ (.bool sm) = w9 at HP ⊢
  have d0 : w9.cell? ⟨w.heap.size, 0, none⟩ = some (.int .i64 lo) := HP.out.1.cell 0
  have d1 : w9.cell? ⟨w.heap.size, 1, none⟩ = some (.int .i64 hi) := HP.out.1.cell 1
  have d2 : w9.cell? ⟨w.heap.size, 2, none⟩ = some (.bool sm) := HP.out.1.cell 2
  exact bodyPost_ret (v := .agg #[.int .i64 lo, .int .i64 hi, .bool sm]) (by simp [results, Tryz.results25, go_sem, d0, d1, d2]) rfl ⟨by rw [← HRR.out, HS.out]; rfl, HP.out.2⟩
set_option maxHeartbeats 4000000 in
set_option maxRecDepth 20000 in
theorem refNode12 (A : Option Addr) (n c : Nat) (x : Int × Int) (w : World) (h : RSp w w.heap.size A n [x]) (hx : inS x) :
    Calls Tryz.prog 25 #[.int .i64 12, .slice A n c] w fun e w' => e = .returned (growV (growL [-x.1, -x.2])) ∧ Below w.heap.size w w' := by
  obtain rfl : 1 = n := h.len
  obtain ⟨b, off, rfl, hb, a0, a1⟩ := h.at_ (i := 0) (by omega)
  rw [Nat.zero_mul, Nat.add_zero] at a0 a1
  obtain ⟨x1, x2⟩ := x
  obtain ⟨⟨p0a, p0b⟩, p0c, p0d⟩ := hx
  dsimp only at p0a p0b p0c p0d ⊢
  obtain ⟨R, hR⟩ : ∃ R, growL [-x1, -x2] = R := ⟨_, rfl⟩
  rw [hR]
  have HRR := hide hR
  clear hR
  have HC : Hid (∀ wq : World, Below w.heap.size w wq → wq.cell? ⟨b, off, none⟩ = some (.int .i64 x1) ∧ wq.cell? ⟨b, off + 1, none⟩ = some (.int .i64 x2)) := hide (fun wq hq => ⟨(hq.cell (p := ⟨b, off, none⟩) hb).trans a0, (hq.cell (p := ⟨b, off + 1, none⟩) hb).trans a1⟩)
  clear a0 a1 h
  have HN0 := hide (NodeSt.start w)
  go_enter Tryz.func25, Tryz.ntmps25
  go_upto_region 10 with (fail)
  generalize (w.alloc (Obj.cells #[.int .i64 0, .int .i64 0, .bool false] 52)).alloc (Obj.cells #[.int .i64 0, .int .i64 0, .bool false] 52) = w0 at HN0 ⊢
  obtain ⟨e0, e1⟩ := HC.out w0 HN0.out.bel
  go_wp2_with fail
  refine (refAdd_any _ _ _ _ HN0.out.own).mono ?_
  rintro en w1 ⟨rfl, hb', hk'⟩
  have HN1 := hide (HN0.out.step hb' hk')
  clear hb' hk'
  clear e0 e1
  obtain ⟨e0, e1⟩ := HC.out w1 HN1.out.bel
  go_wp2_with fail
  refine (refAdd_any _ _ _ _ HN1.out.own).mono ?_
  rintro en w2 ⟨rfl, hb', hk'⟩
  have HN2 := hide (HN1.out.step hb' hk')
  clear hb' hk'
  clear e0 e1
  obtain ⟨e0, e1⟩ := HC.out w2 HN2.out.bel
  have HF : Hid (NodeSt w (growL [-x1, -x2]) w2) := HN2
  clear e0 e1
  obtain ⟨s, hs⟩ : ∃ s, growL [-x1, -x2] = s := ⟨_, rfl⟩
  rw [hs] at HF
  have HS := hide hs
  clear hs
  obtain ⟨lo, hi, sm⟩ := s
  have c0 : w2.cell? ⟨w.heap.size + 1, 0, none⟩ = some (.int .i64 lo) := HF.out.own.cell 0
  have c1 : w2.cell? ⟨w.heap.size + 1, 1, none⟩ = some (.int .i64 hi) := HF.out.own.cell 1
  have c2 : w2.cell? ⟨w.heap.size + 1, 2, none⟩ = some (.bool sm) := HF.out.own.cell 2
  have r0 : w2.cell? ⟨w.heap.size, 0, none⟩ = some (.int .i64 0) := HF.out.res.cell 0
  have r1 : w2.cell? ⟨w.heap.size, 1, none⟩ = some (.int .i64 0) := HF.out.res.cell 1
  have r2 : w2.cell? ⟨w.heap.size, 2, none⟩ = some (.bool false) := HF.out.res.cell 2
  have f0 := HF.out.res.frozen 0
  have f1 := HF.out.res.frozen 1
  have f2 := HF.out.res.frozen 2
  have HP := hide HF.out.put
  go_wp2
  generalize ((w2.setCell ⟨w.heap.size, 0, none⟩ (.int .i64 lo)).setCell ⟨w.heap.size, 1, none⟩ (.int .i64 hi)).setCell ⟨w.heap.size, 2, none⟩ (.bool sm) = w9 at HP ⊢
  have d0 : w9.cell? ⟨w.heap.size, 0, none⟩ = some (.int .i64 lo) := HP.out.1.cell 0
  have d1 : w9.cell? ⟨w.heap.size, 1, none⟩ = some (.int .i64 hi) := HP.out.1.cell 1
  have d2 : w9.cell? ⟨w.heap.size, 2, none⟩ = some (.bool sm) := HP.out.1.cell 2
  exact bodyPost_ret (v := .agg #[.int .i64 lo, .int .i64 hi, .bool sm]) (by simp [results, Tryz.results25, go_sem, d0, d1, d2]) rfl ⟨by rw [← HRR.out, HS.out]; rfl, HP.out.2⟩
end Go.Proofs.YtnlcfbaaomdjdaaGreatDoor

/-
  The reference of chapter 22: the bounds of a node, operator by operator.
-/
set_option linter.unusedVariables false
set_option linter.unusedSimpArgs false
namespace Go.Proofs.YtnlcfbaaomdjdaaGreatDoor
open Go.RowKit Go.Deep

set_option maxHeartbeats 4000000 in
set_option maxRecDepth 20000 in
theorem refNode9 (A : Option Addr) (n c : Nat) (x y z : Int × Int) (w : World) (h : RSp w w.heap.size A n [x, y, z]) (hx : inS x) (hy : inS y) (hz : inS z) :
    Calls Tryz.prog 25 #[.int .i64 9, .slice A n c] w fun e w' => e = .returned (growV (growL ((if 0 < x.2 then [y.1, y.2] else []) ++ (if x.1 ≤ 0 then [z.1, z.2] else [])))) ∧ Below w.heap.size w w' := by
  obtain rfl : 3 = n := h.len
  obtain ⟨b, off, rfl, hb, a0, a1, a2, _, a3⟩ := h.two
  obtain ⟨b', off', hA', _, a4, a5⟩ := h.at_ (i := 2) (by omega)
  obtain ⟨rfl, rfl⟩ : b = b' ∧ off = off' := by
    injection hA' with h
    injection h with h1 h2
    exact ⟨h1, h2⟩
  clear hA'
  obtain ⟨x1, x2⟩ := x
  obtain ⟨y1, y2⟩ := y
  obtain ⟨z1, z2⟩ := z
  obtain ⟨⟨p0a, p0b⟩, p0c, p0d⟩ := hx
  obtain ⟨⟨p1a, p1b⟩, p1c, p1d⟩ := hy
  obtain ⟨⟨p2a, p2b⟩, p2c, p2d⟩ := hz
  dsimp only at p0a p0b p0c p0d p1a p1b p1c p1d p2a p2b p2c p2d ⊢
  obtain ⟨R, hR⟩ : ∃ R, growL ((if 0 < x2 then [y1, y2] else []) ++ (if x1 ≤ 0 then [z1, z2] else [])) = R := ⟨_, rfl⟩
  rw [hR]
  have HRR := hide hR
  clear hR
  have HC : Hid (∀ wq : World, Below w.heap.size w wq → wq.cell? ⟨b, off, none⟩ = some (.int .i64 x1) ∧ wq.cell? ⟨b, off + 1, none⟩ = some (.int .i64 x2) ∧ wq.cell? ⟨b, off + 2, none⟩ = some (.int .i64 y1) ∧ wq.cell? ⟨b, off + 3, none⟩ = some (.int .i64 y2) ∧ wq.cell? ⟨b, off + 4, none⟩ = some (.int .i64 z1) ∧ wq.cell? ⟨b, off + 5, none⟩ = some (.int .i64 z2)) := hide (fun wq hq => ⟨(hq.cell (p := ⟨b, off, none⟩) hb).trans a0, (hq.cell (p := ⟨b, off + 1, none⟩) hb).trans a1, (hq.cell (p := ⟨b, off + 2, none⟩) hb).trans a2, (hq.cell (p := ⟨b, off + 3, none⟩) hb).trans a3, (hq.cell (p := ⟨b, off + 4, none⟩) hb).trans a4, (hq.cell (p := ⟨b, off + 5, none⟩) hb).trans a5⟩)
  clear a0 a1 a2 a3 a4 a5 h
  have HN0 := hide (NodeSt.start w)
  go_enter Tryz.func25, Tryz.ntmps25
  go_upto_region 36 with (fail)
  generalize (w.alloc (Obj.cells #[.int .i64 0, .int .i64 0, .bool false] 52)).alloc (Obj.cells #[.int .i64 0, .int .i64 0, .bool false] 52) = w0 at HN0 ⊢
  obtain ⟨e0, e1, e2, e3, e4, e5⟩ := HC.out w0 HN0.out.bel
  cases d1 : decide (0 < x2)
  · cases d2 : decide (x1 ≤ 0)
    · have HR : Hid (((if 0 < x2 then [y1, y2] else []) ++ (if x1 ≤ 0 then [z1, z2] else [])) = ([] : List Int)) := by
        show _ = _
        simp [of_decide_eq_false d1, of_decide_eq_false d2]
      have HF : Hid (NodeSt w (growL []) w0) := HN0
      obtain ⟨s, hs⟩ : ∃ s, growL [] = s := ⟨_, rfl⟩
      rw [hs] at HF
      have HS := hide hs
      clear hs
      obtain ⟨lo, hi, sm⟩ := s
      have c0 : w0.cell? ⟨w.heap.size + 1, 0, none⟩ = some (.int .i64 lo) := HF.out.own.cell 0
      have c1 : w0.cell? ⟨w.heap.size + 1, 1, none⟩ = some (.int .i64 hi) := HF.out.own.cell 1
      have c2 : w0.cell? ⟨w.heap.size + 1, 2, none⟩ = some (.bool sm) := HF.out.own.cell 2
      have r0 : w0.cell? ⟨w.heap.size, 0, none⟩ = some (.int .i64 0) := HF.out.res.cell 0
      have r1 : w0.cell? ⟨w.heap.size, 1, none⟩ = some (.int .i64 0) := HF.out.res.cell 1
      have r2 : w0.cell? ⟨w.heap.size, 2, none⟩ = some (.bool false) := HF.out.res.cell 2
      have f0 := HF.out.res.frozen 0
      have f1 := HF.out.res.frozen 1
      have f2 := HF.out.res.frozen 2
      have HP := hide HF.out.put
      go_wp2
      generalize ((w0.setCell ⟨w.heap.size, 0, none⟩ (.int .i64 lo)).setCell ⟨w.heap.size, 1, none⟩ (.int .i64 hi)).setCell ⟨w.heap.size, 2, none⟩ (.bool sm) = w9 at HP ⊢
      have d0 : w9.cell? ⟨w.heap.size, 0, none⟩ = some (.int .i64 lo) := HP.out.1.cell 0
      have d1 : w9.cell? ⟨w.heap.size, 1, none⟩ = some (.int .i64 hi) := HP.out.1.cell 1
      have d2 : w9.cell? ⟨w.heap.size, 2, none⟩ = some (.bool sm) := HP.out.1.cell 2
      exact bodyPost_ret (v := .agg #[.int .i64 lo, .int .i64 hi, .bool sm]) (by simp [results, Tryz.results25, go_sem, d0, d1, d2]) rfl ⟨by rw [← HRR.out, HR.out, HS.out]; rfl, HP.out.2⟩
    · have HR : Hid (((if 0 < x2 then [y1, y2] else []) ++ (if x1 ≤ 0 then [z1, z2] else [])) = ([z1, z2] : List Int)) := by
        show _ = _
        simp [of_decide_eq_false d1, of_decide_eq_true d2]
      go_wp2_with fail
      refine (refAdd_any _ _ _ _ HN0.out.own).mono ?_
      rintro en w1x ⟨rfl, hb', hk'⟩
      have HN1 := hide (HN0.out.step hb' hk')
      clear hb' hk'
      clear e0 e1 e2 e3 e4 e5
      obtain ⟨e0, e1, e2, e3, e4, e5⟩ := HC.out w1x HN1.out.bel
      go_wp2_with fail
      refine (refAdd_any _ _ _ _ HN1.out.own).mono ?_
      rintro en w2x ⟨rfl, hb', hk'⟩
      have HN2 := hide (HN1.out.step hb' hk')
      clear hb' hk'
      clear e0 e1 e2 e3 e4 e5
      obtain ⟨e0, e1, e2, e3, e4, e5⟩ := HC.out w2x HN2.out.bel
      have HF : Hid (NodeSt w (growL [z1, z2]) w2x) := HN2
      obtain ⟨s, hs⟩ : ∃ s, growL [z1, z2] = s := ⟨_, rfl⟩
      rw [hs] at HF
      have HS := hide hs
      clear hs
      obtain ⟨lo, hi, sm⟩ := s
      have c0 : w2x.cell? ⟨w.heap.size + 1, 0, none⟩ = some (.int .i64 lo) := HF.out.own.cell 0
      have c1 : w2x.cell? ⟨w.heap.size + 1, 1, none⟩ = some (.int .i64 hi) := HF.out.own.cell 1
      have c2 : w2x.cell? ⟨w.heap.size + 1, 2, none⟩ = some (.bool sm) := HF.out.own.cell 2
      have r0 : w2x.cell? ⟨w.heap.size, 0, none⟩ = some (.int .i64 0) := HF.out.res.cell 0
      have r1 : w2x.cell? ⟨w.heap.size, 1, none⟩ = some (.int .i64 0) := HF.out.res.cell 1
      have r2 : w2x.cell? ⟨w.heap.size, 2, none⟩ = some (.bool false) := HF.out.res.cell 2
      have f0 := HF.out.res.frozen 0
      have f1 := HF.out.res.frozen 1
      have f2 := HF.out.res.frozen 2
      have HP := hide HF.out.put
      go_wp2
      generalize ((w2x.setCell ⟨w.heap.size, 0, none⟩ (.int .i64 lo)).setCell ⟨w.heap.size, 1, none⟩ (.int .i64 hi)).setCell ⟨w.heap.size, 2, none⟩ (.bool sm) = w9 at HP ⊢
      have d0 : w9.cell? ⟨w.heap.size, 0, none⟩ = some (.int .i64 lo) := HP.out.1.cell 0
      have d1 : w9.cell? ⟨w.heap.size, 1, none⟩ = some (.int .i64 hi) := HP.out.1.cell 1
      have d2 : w9.cell? ⟨w.heap.size, 2, none⟩ = some (.bool sm) := HP.out.1.cell 2
      exact bodyPost_ret (v := .agg #[.int .i64 lo, .int .i64 hi, .bool sm]) (by simp [results, Tryz.results25, go_sem, d0, d1, d2]) rfl ⟨by rw [← HRR.out, HR.out, HS.out]; rfl, HP.out.2⟩
  · cases d2 : decide (x1 ≤ 0)
    · have HR : Hid (((if 0 < x2 then [y1, y2] else []) ++ (if x1 ≤ 0 then [z1, z2] else [])) = ([y1, y2] : List Int)) := by
        show _ = _
        simp [of_decide_eq_true d1, of_decide_eq_false d2]
      go_wp2_with fail
      refine (refAdd_any _ _ _ _ HN0.out.own).mono ?_
      rintro en w1x ⟨rfl, hb', hk'⟩
      have HN1 := hide (HN0.out.step hb' hk')
      clear hb' hk'
      clear e0 e1 e2 e3 e4 e5
      obtain ⟨e0, e1, e2, e3, e4, e5⟩ := HC.out w1x HN1.out.bel
      go_wp2_with fail
      refine (refAdd_any _ _ _ _ HN1.out.own).mono ?_
      rintro en w2x ⟨rfl, hb', hk'⟩
      have HN2 := hide (HN1.out.step hb' hk')
      clear hb' hk'
      clear e0 e1 e2 e3 e4 e5
      obtain ⟨e0, e1, e2, e3, e4, e5⟩ := HC.out w2x HN2.out.bel
      have HF : Hid (NodeSt w (growL [y1, y2]) w2x) := HN2
      obtain ⟨s, hs⟩ : ∃ s, growL [y1, y2] = s := ⟨_, rfl⟩
      rw [hs] at HF
      have HS := hide hs
      clear hs
      obtain ⟨lo, hi, sm⟩ := s
      have c0 : w2x.cell? ⟨w.heap.size + 1, 0, none⟩ = some (.int .i64 lo) := HF.out.own.cell 0
      have c1 : w2x.cell? ⟨w.heap.size + 1, 1, none⟩ = some (.int .i64 hi) := HF.out.own.cell 1
      have c2 : w2x.cell? ⟨w.heap.size + 1, 2, none⟩ = some (.bool sm) := HF.out.own.cell 2
      have r0 : w2x.cell? ⟨w.heap.size, 0, none⟩ = some (.int .i64 0) := HF.out.res.cell 0
      have r1 : w2x.cell? ⟨w.heap.size, 1, none⟩ = some (.int .i64 0) := HF.out.res.cell 1
      have r2 : w2x.cell? ⟨w.heap.size, 2, none⟩ = some (.bool false) := HF.out.res.cell 2
      have f0 := HF.out.res.frozen 0
      have f1 := HF.out.res.frozen 1
      have f2 := HF.out.res.frozen 2
      have HP := hide HF.out.put
      go_wp2
      generalize ((w2x.setCell ⟨w.heap.size, 0, none⟩ (.int .i64 lo)).setCell ⟨w.heap.size, 1, none⟩ (.int .i64 hi)).setCell ⟨w.heap.size, 2, none⟩ (.bool sm) = w9 at HP ⊢
      have d0 : w9.cell? ⟨w.heap.size, 0, none⟩ = some (.int .i64 lo) := HP.out.1.cell 0
      have d1 : w9.cell? ⟨w.heap.size, 1, none⟩ = some (.int .i64 hi) := HP.out.1.cell 1
      have d2 : w9.cell? ⟨w.heap.size, 2, none⟩ = some (.bool sm) := HP.out.1.cell 2
      exact bodyPost_ret (v := .agg #[.int .i64 lo, .int .i64 hi, .bool sm]) (by simp [results, Tryz.results25, go_sem, d0, d1, d2]) rfl ⟨by rw [← HRR.out, HR.out, HS.out]; rfl, HP.out.2⟩
    · have HR : Hid (((if 0 < x2 then [y1, y2] else []) ++ (if x1 ≤ 0 then [z1, z2] else [])) = ([y1, y2, z1, z2] : List Int)) := by
        show _ = _
        simp [of_decide_eq_true d1, of_decide_eq_true d2]
      go_wp2_with fail
      refine (refAdd_any _ _ _ _ HN0.out.own).mono ?_
      rintro en w1x ⟨rfl, hb', hk'⟩
      have HN1 := hide (HN0.out.step hb' hk')
      clear hb' hk'
      clear e0 e1 e2 e3 e4 e5
      obtain ⟨e0, e1, e2, e3, e4, e5⟩ := HC.out w1x HN1.out.bel
      go_wp2_with fail
      refine (refAdd_any _ _ _ _ HN1.out.own).mono ?_
      rintro en w2x ⟨rfl, hb', hk'⟩
      have HN2 := hide (HN1.out.step hb' hk')
      clear hb' hk'
      clear e0 e1 e2 e3 e4 e5
      obtain ⟨e0, e1, e2, e3, e4, e5⟩ := HC.out w2x HN2.out.bel
      go_wp2_with fail
      refine (refAdd_any _ _ _ _ HN2.out.own).mono ?_
      rintro en w3x ⟨rfl, hb', hk'⟩
      have HN3 := hide (HN2.out.step hb' hk')
      clear hb' hk'
      clear e0 e1 e2 e3 e4 e5
      obtain ⟨e0, e1, e2, e3, e4, e5⟩ := HC.out w3x HN3.out.bel
      go_wp2_with fail
      refine (refAdd_any _ _ _ _ HN3.out.own).mono ?_
      rintro en w4x ⟨rfl, hb', hk'⟩
      have HN4 := hide (HN3.out.step hb' hk')
      clear hb' hk'
      clear e0 e1 e2 e3 e4 e5
      obtain ⟨e0, e1, e2, e3, e4, e5⟩ := HC.out w4x HN4.out.bel
      have HF : Hid (NodeSt w (growL [y1, y2, z1, z2]) w4x) := HN4
      obtain ⟨s, hs⟩ : ∃ s, growL [y1, y2, z1, z2] = s := ⟨_, rfl⟩
      rw [hs] at HF
      have HS := hide hs
      clear hs
      obtain ⟨lo, hi, sm⟩ := s
      have c0 : w4x.cell? ⟨w.heap.size + 1, 0, none⟩ = some (.int .i64 lo) := HF.out.own.cell 0
      have c1 : w4x.cell? ⟨w.heap.size + 1, 1, none⟩ = some (.int .i64 hi) := HF.out.own.cell 1
      have c2 : w4x.cell? ⟨w.heap.size + 1, 2, none⟩ = some (.bool sm) := HF.out.own.cell 2
      have r0 : w4x.cell? ⟨w.heap.size, 0, none⟩ = some (.int .i64 0) := HF.out.res.cell 0
      have r1 : w4x.cell? ⟨w.heap.size, 1, none⟩ = some (.int .i64 0) := HF.out.res.cell 1
      have r2 : w4x.cell? ⟨w.heap.size, 2, none⟩ = some (.bool false) := HF.out.res.cell 2
      have f0 := HF.out.res.frozen 0
      have f1 := HF.out.res.frozen 1
      have f2 := HF.out.res.frozen 2
      have HP := hide HF.out.put
      go_wp2
      generalize ((w4x.setCell ⟨w.heap.size, 0, none⟩ (.int .i64 lo)).setCell ⟨w.heap.size, 1, none⟩ (.int .i64 hi)).setCell ⟨w.heap.size, 2, none⟩ (.bool sm) = w9 at HP ⊢
      have d0 : w9.cell? ⟨w.heap.size, 0, none⟩ = some (.int .i64 lo) := HP.out.1.cell 0
      have d1 : w9.cell? ⟨w.heap.size, 1, none⟩ = some (.int .i64 hi) := HP.out.1.cell 1
      have d2 : w9.cell? ⟨w.heap.size, 2, none⟩ = some (.bool sm) := HP.out.1.cell 2
      exact bodyPost_ret (v := .agg #[.int .i64 lo, .int .i64 hi, .bool sm]) (by simp [results, Tryz.results25, go_sem, d0, d1, d2]) rfl ⟨by rw [← HRR.out, HR.out, HS.out]; rfl, HP.out.2⟩
set_option maxHeartbeats 4000000 in
set_option maxRecDepth 20000 in
theorem refNode10 (A : Option Addr) (n c : Nat) (x y : Int × Int) (w : World) (h : RSp w w.heap.size A n [x, y]) (hx : inS x) (hy : inS y) :
    Calls Tryz.prog 25 #[.int .i64 10, .slice A n c] w fun e w' => e = .returned (growV (growL ((if x.1 < y.2 then [1] else []) ++ (if y.1 ≤ x.2 then [0] else [])))) ∧ Below w.heap.size w w' := by
  obtain rfl : 2 = n := h.len
  obtain ⟨b, off, rfl, hb, a0, a1, a2, _, a3⟩ := h.two
  obtain ⟨x1, x2⟩ := x
  obtain ⟨y1, y2⟩ := y
  obtain ⟨⟨p0a, p0b⟩, p0c, p0d⟩ := hx
  obtain ⟨⟨p1a, p1b⟩, p1c, p1d⟩ := hy
  dsimp only at p0a p0b p0c p0d p1a p1b p1c p1d ⊢
  obtain ⟨R, hR⟩ : ∃ R, growL ((if x1 < y2 then [1] else []) ++ (if y1 ≤ x2 then [0] else [])) = R := ⟨_, rfl⟩
  rw [hR]
  have HRR := hide hR
  clear hR
  have HC : Hid (∀ wq : World, Below w.heap.size w wq → wq.cell? ⟨b, off, none⟩ = some (.int .i64 x1) ∧ wq.cell? ⟨b, off + 1, none⟩ = some (.int .i64 x2) ∧ wq.cell? ⟨b, off + 2, none⟩ = some (.int .i64 y1) ∧ wq.cell? ⟨b, off + 3, none⟩ = some (.int .i64 y2)) := hide (fun wq hq => ⟨(hq.cell (p := ⟨b, off, none⟩) hb).trans a0, (hq.cell (p := ⟨b, off + 1, none⟩) hb).trans a1, (hq.cell (p := ⟨b, off + 2, none⟩) hb).trans a2, (hq.cell (p := ⟨b, off + 3, none⟩) hb).trans a3⟩)
  clear a0 a1 a2 a3 h
  have HN0 := hide (NodeSt.start w)
  go_enter Tryz.func25, Tryz.ntmps25
  go_upto_region 43 with (fail)
  generalize (w.alloc (Obj.cells #[.int .i64 0, .int .i64 0, .bool false] 52)).alloc (Obj.cells #[.int .i64 0, .int .i64 0, .bool false] 52) = w0 at HN0 ⊢
  obtain ⟨e0, e1, e2, e3⟩ := HC.out w0 HN0.out.bel
  cases d1 : decide (x1 < y2)
  · cases d2 : decide (y1 ≤ x2)
    · have HR : Hid (((if x1 < y2 then [1] else []) ++ (if y1 ≤ x2 then [0] else [])) = ([] : List Int)) := by
        show _ = _
        simp [of_decide_eq_false d1, of_decide_eq_false d2]
      go_quiet (fail)
      have HQ1 := hide (HN0.out.drewN nq)
      generalize w0.drewN nq = wq1 at HQ1 ⊢
      clear e0 e1 e2 e3
      obtain ⟨e0, e1, e2, e3⟩ := HC.out wq1 HQ1.out.bel
      go_upto_region 45 with (fail)
      go_quiet (fail)
      have HQ2 := hide (HQ1.out.drewN nq)
      generalize wq1.drewN nq = wq2 at HQ2 ⊢
      clear e0 e1 e2 e3
      obtain ⟨e0, e1, e2, e3⟩ := HC.out wq2 HQ2.out.bel
      have HF : Hid (NodeSt w (growL []) wq2) := HQ2
      obtain ⟨s, hs⟩ : ∃ s, growL [] = s := ⟨_, rfl⟩
      rw [hs] at HF
      have HS := hide hs
      clear hs
      obtain ⟨lo, hi, sm⟩ := s
      have c0 : wq2.cell? ⟨w.heap.size + 1, 0, none⟩ = some (.int .i64 lo) := HF.out.own.cell 0
      have c1 : wq2.cell? ⟨w.heap.size + 1, 1, none⟩ = some (.int .i64 hi) := HF.out.own.cell 1
      have c2 : wq2.cell? ⟨w.heap.size + 1, 2, none⟩ = some (.bool sm) := HF.out.own.cell 2
      have r0 : wq2.cell? ⟨w.heap.size, 0, none⟩ = some (.int .i64 0) := HF.out.res.cell 0
      have r1 : wq2.cell? ⟨w.heap.size, 1, none⟩ = some (.int .i64 0) := HF.out.res.cell 1
      have r2 : wq2.cell? ⟨w.heap.size, 2, none⟩ = some (.bool false) := HF.out.res.cell 2
      have f0 := HF.out.res.frozen 0
      have f1 := HF.out.res.frozen 1
      have f2 := HF.out.res.frozen 2
      have HP := hide HF.out.put
      go_wp2
      generalize ((wq2.setCell ⟨w.heap.size, 0, none⟩ (.int .i64 lo)).setCell ⟨w.heap.size, 1, none⟩ (.int .i64 hi)).setCell ⟨w.heap.size, 2, none⟩ (.bool sm) = w9 at HP ⊢
      have d0 : w9.cell? ⟨w.heap.size, 0, none⟩ = some (.int .i64 lo) := HP.out.1.cell 0
      have d1 : w9.cell? ⟨w.heap.size, 1, none⟩ = some (.int .i64 hi) := HP.out.1.cell 1
      have d2 : w9.cell? ⟨w.heap.size, 2, none⟩ = some (.bool sm) := HP.out.1.cell 2
      exact bodyPost_ret (v := .agg #[.int .i64 lo, .int .i64 hi, .bool sm]) (by simp [results, Tryz.results25, go_sem, d0, d1, d2]) rfl ⟨by rw [← HRR.out, HR.out, HS.out]; rfl, HP.out.2⟩
    · have HR : Hid (((if x1 < y2 then [1] else []) ++ (if y1 ≤ x2 then [0] else [])) = ([0] : List Int)) := by
        show _ = _
        simp [of_decide_eq_false d1, of_decide_eq_true d2]
      go_quiet (fail)
      have HQ1 := hide (HN0.out.drewN nq)
      generalize w0.drewN nq = wq1 at HQ1 ⊢
      clear e0 e1 e2 e3
      obtain ⟨e0, e1, e2, e3⟩ := HC.out wq1 HQ1.out.bel
      go_upto_region 45 with (fail)
      go_quiet (fail)
      have HQ2 := hide (HQ1.out.drewN nq)
      generalize wq1.drewN nq = wq2 at HQ2 ⊢
      clear e0 e1 e2 e3
      obtain ⟨e0, e1, e2, e3⟩ := HC.out wq2 HQ2.out.bel
      go_wp2_with fail
      refine (refAdd_any _ _ _ _ HQ2.out.own).mono ?_
      rintro en w3x ⟨rfl, hb', hk'⟩
      have HN3 := hide (HQ2.out.step hb' hk')
      clear hb' hk'
      clear e0 e1 e2 e3
      obtain ⟨e0, e1, e2, e3⟩ := HC.out w3x HN3.out.bel
      have HF : Hid (NodeSt w (growL [0]) w3x) := HN3
      obtain ⟨s, hs⟩ : ∃ s, growL [0] = s := ⟨_, rfl⟩
      rw [hs] at HF
      have HS := hide hs
      clear hs
      obtain ⟨lo, hi, sm⟩ := s
      have c0 : w3x.cell? ⟨w.heap.size + 1, 0, none⟩ = some (.int .i64 lo) := HF.out.own.cell 0
      have c1 : w3x.cell? ⟨w.heap.size + 1, 1, none⟩ = some (.int .i64 hi) := HF.out.own.cell 1
      have c2 : w3x.cell? ⟨w.heap.size + 1, 2, none⟩ = some (.bool sm) := HF.out.own.cell 2
      have r0 : w3x.cell? ⟨w.heap.size, 0, none⟩ = some (.int .i64 0) := HF.out.res.cell 0
      have r1 : w3x.cell? ⟨w.heap.size, 1, none⟩ = some (.int .i64 0) := HF.out.res.cell 1
      have r2 : w3x.cell? ⟨w.heap.size, 2, none⟩ = some (.bool false) := HF.out.res.cell 2
      have f0 := HF.out.res.frozen 0
      have f1 := HF.out.res.frozen 1
      have f2 := HF.out.res.frozen 2
      have HP := hide HF.out.put
      go_wp2
      generalize ((w3x.setCell ⟨w.heap.size, 0, none⟩ (.int .i64 lo)).setCell ⟨w.heap.size, 1, none⟩ (.int .i64 hi)).setCell ⟨w.heap.size, 2, none⟩ (.bool sm) = w9 at HP ⊢
      have d0 : w9.cell? ⟨w.heap.size, 0, none⟩ = some (.int .i64 lo) := HP.out.1.cell 0
      have d1 : w9.cell? ⟨w.heap.size, 1, none⟩ = some (.int .i64 hi) := HP.out.1.cell 1
      have d2 : w9.cell? ⟨w.heap.size, 2, none⟩ = some (.bool sm) := HP.out.1.cell 2
      exact bodyPost_ret (v := .agg #[.int .i64 lo, .int .i64 hi, .bool sm]) (by simp [results, Tryz.results25, go_sem, d0, d1, d2]) rfl ⟨by rw [← HRR.out, HR.out, HS.out]; rfl, HP.out.2⟩
  · cases d2 : decide (y1 ≤ x2)
    · have HR : Hid (((if x1 < y2 then [1] else []) ++ (if y1 ≤ x2 then [0] else [])) = ([1] : List Int)) := by
        show _ = _
        simp [of_decide_eq_true d1, of_decide_eq_false d2]
      go_quiet (fail)
      have HQ1 := hide (HN0.out.drewN nq)
      generalize w0.drewN nq = wq1 at HQ1 ⊢
      clear e0 e1 e2 e3
      obtain ⟨e0, e1, e2, e3⟩ := HC.out wq1 HQ1.out.bel
      go_wp2_with fail
      refine (refAdd_any _ _ _ _ HQ1.out.own).mono ?_
      rintro en w2x ⟨rfl, hb', hk'⟩
      have HN2 := hide (HQ1.out.step hb' hk')
      clear hb' hk'
      clear e0 e1 e2 e3
      obtain ⟨e0, e1, e2, e3⟩ := HC.out w2x HN2.out.bel
      go_upto_region 45 with (fail)
      go_quiet (fail)
      have HQ3 := hide (HN2.out.drewN nq)
      generalize w2x.drewN nq = wq3 at HQ3 ⊢
      clear e0 e1 e2 e3
      obtain ⟨e0, e1, e2, e3⟩ := HC.out wq3 HQ3.out.bel
      have HF : Hid (NodeSt w (growL [1]) wq3) := HQ3
      obtain ⟨s, hs⟩ : ∃ s, growL [1] = s := ⟨_, rfl⟩
      rw [hs] at HF
      have HS := hide hs
      clear hs
      obtain ⟨lo, hi, sm⟩ := s
      have c0 : wq3.cell? ⟨w.heap.size + 1, 0, none⟩ = some (.int .i64 lo) := HF.out.own.cell 0
      have c1 : wq3.cell? ⟨w.heap.size + 1, 1, none⟩ = some (.int .i64 hi) := HF.out.own.cell 1
      have c2 : wq3.cell? ⟨w.heap.size + 1, 2, none⟩ = some (.bool sm) := HF.out.own.cell 2
      have r0 : wq3.cell? ⟨w.heap.size, 0, none⟩ = some (.int .i64 0) := HF.out.res.cell 0
      have r1 : wq3.cell? ⟨w.heap.size, 1, none⟩ = some (.int .i64 0) := HF.out.res.cell 1
      have r2 : wq3.cell? ⟨w.heap.size, 2, none⟩ = some (.bool false) := HF.out.res.cell 2
      have f0 := HF.out.res.frozen 0
      have f1 := HF.out.res.frozen 1
      have f2 := HF.out.res.frozen 2
      have HP := hide HF.out.put
      go_wp2
      generalize ((wq3.setCell ⟨w.heap.size, 0, none⟩ (.int .i64 lo)).setCell ⟨w.heap.size, 1, none⟩ (.int .i64 hi)).setCell ⟨w.heap.size, 2, none⟩ (.bool sm) = w9 at HP ⊢
      have d0 : w9.cell? ⟨w.heap.size, 0, none⟩ = some (.int .i64 lo) := HP.out.1.cell 0
      have d1 : w9.cell? ⟨w.heap.size, 1, none⟩ = some (.int .i64 hi) := HP.out.1.cell 1
      have d2 : w9.cell? ⟨w.heap.size, 2, none⟩ = some (.bool sm) := HP.out.1.cell 2
      exact bodyPost_ret (v := .agg #[.int .i64 lo, .int .i64 hi, .bool sm]) (by simp [results, Tryz.results25, go_sem, d0, d1, d2]) rfl ⟨by rw [← HRR.out, HR.out, HS.out]; rfl, HP.out.2⟩
    · have HR : Hid (((if x1 < y2 then [1] else []) ++ (if y1 ≤ x2 then [0] else [])) = ([1, 0] : List Int)) := by
        show _ = _
        simp [of_decide_eq_true d1, of_decide_eq_true d2]
      go_quiet (fail)
      have HQ1 := hide (HN0.out.drewN nq)
      generalize w0.drewN nq = wq1 at HQ1 ⊢
      clear e0 e1 e2 e3
      obtain ⟨e0, e1, e2, e3⟩ := HC.out wq1 HQ1.out.bel
      go_wp2_with fail
      refine (refAdd_any _ _ _ _ HQ1.out.own).mono ?_
      rintro en w2x ⟨rfl, hb', hk'⟩
      have HN2 := hide (HQ1.out.step hb' hk')
      clear hb' hk'
      clear e0 e1 e2 e3
      obtain ⟨e0, e1, e2, e3⟩ := HC.out w2x HN2.out.bel
      go_upto_region 45 with (fail)
      go_quiet (fail)
      have HQ3 := hide (HN2.out.drewN nq)
      generalize w2x.drewN nq = wq3 at HQ3 ⊢
      clear e0 e1 e2 e3
      obtain ⟨e0, e1, e2, e3⟩ := HC.out wq3 HQ3.out.bel
      go_wp2_with fail
      refine (refAdd_any _ _ _ _ HQ3.out.own).mono ?_
      rintro en w4x ⟨rfl, hb', hk'⟩
      have HN4 := hide (HQ3.out.step hb' hk')
      clear hb' hk'
      clear e0 e1 e2 e3
      obtain ⟨e0, e1, e2, e3⟩ := HC.out w4x HN4.out.bel
      have HF : Hid (NodeSt w (growL [1, 0]) w4x) := HN4
      obtain ⟨s, hs⟩ : ∃ s, growL [1, 0] = s := ⟨_, rfl⟩
      rw [hs] at HF
      have HS := hide hs
      clear hs
      obtain ⟨lo, hi, sm⟩ := s
      have c0 : w4x.cell? ⟨w.heap.size + 1, 0, none⟩ = some (.int .i64 lo) := HF.out.own.cell 0
      have c1 : w4x.cell? ⟨w.heap.size + 1, 1, none⟩ = some (.int .i64 hi) := HF.out.own.cell 1
      have c2 : w4x.cell? ⟨w.heap.size + 1, 2, none⟩ = some (.bool sm) := HF.out.own.cell 2
      have r0 : w4x.cell? ⟨w.heap.size, 0, none⟩ = some (.int .i64 0) := HF.out.res.cell 0
      have r1 : w4x.cell? ⟨w.heap.size, 1, none⟩ = some (.int .i64 0) := HF.out.res.cell 1
      have r2 : w4x.cell? ⟨w.heap.size, 2, none⟩ = some (.bool false) := HF.out.res.cell 2
      have f0 := HF.out.res.frozen 0
      have f1 := HF.out.res.frozen 1
      have f2 := HF.out.res.frozen 2
      have HP := hide HF.out.put
      go_wp2
      generalize ((w4x.setCell ⟨w.heap.size, 0, none⟩ (.int .i64 lo)).setCell ⟨w.heap.size, 1, none⟩ (.int .i64 hi)).setCell ⟨w.heap.size, 2, none⟩ (.bool sm) = w9 at HP ⊢
      have d0 : w9.cell? ⟨w.heap.size, 0, none⟩ = some (.int .i64 lo) := HP.out.1.cell 0
      have d1 : w9.cell? ⟨w.heap.size, 1, none⟩ = some (.int .i64 hi) := HP.out.1.cell 1
      have d2 : w9.cell? ⟨w.heap.size, 2, none⟩ = some (.bool sm) := HP.out.1.cell 2
      exact bodyPost_ret (v := .agg #[.int .i64 lo, .int .i64 hi, .bool sm]) (by simp [results, Tryz.results25, go_sem, d0, d1, d2]) rfl ⟨by rw [← HRR.out, HR.out, HS.out]; rfl, HP.out.2⟩
set_option maxHeartbeats 4000000 in
set_option maxRecDepth 20000 in
theorem refNode11 (A : Option Addr) (n c : Nat) (x y : Int × Int) (w : World) (h : RSp w w.heap.size A n [x, y]) (hx : inS x) (hy : inS y) :
    Calls Tryz.prog 25 #[.int .i64 11, .slice A n c] w fun e w' => e = .returned (growV (growL ((if max x.1 y.1 ≤ min x.2 y.2 then [1] else []) ++ (if x.1 ≠ x.2 ∨ y.1 ≠ y.2 ∨ x.1 ≠ y.1 then [0] else [])))) ∧ Below w.heap.size w w' := by
  obtain rfl : 2 = n := h.len
  obtain ⟨b, off, rfl, hb, a0, a1, a2, _, a3⟩ := h.two
  obtain ⟨x1, x2⟩ := x
  obtain ⟨y1, y2⟩ := y
  obtain ⟨⟨p0a, p0b⟩, p0c, p0d⟩ := hx
  obtain ⟨⟨p1a, p1b⟩, p1c, p1d⟩ := hy
  dsimp only at p0a p0b p0c p0d p1a p1b p1c p1d ⊢
  obtain ⟨R, hR⟩ : ∃ R, growL ((if max x1 y1 ≤ min x2 y2 then [1] else []) ++ (if x1 ≠ x2 ∨ y1 ≠ y2 ∨ x1 ≠ y1 then [0] else [])) = R := ⟨_, rfl⟩
  rw [hR]
  have HRR := hide hR
  clear hR
  have HC : Hid (∀ wq : World, Below w.heap.size w wq → wq.cell? ⟨b, off, none⟩ = some (.int .i64 x1) ∧ wq.cell? ⟨b, off + 1, none⟩ = some (.int .i64 x2) ∧ wq.cell? ⟨b, off + 2, none⟩ = some (.int .i64 y1) ∧ wq.cell? ⟨b, off + 3, none⟩ = some (.int .i64 y2)) := hide (fun wq hq => ⟨(hq.cell (p := ⟨b, off, none⟩) hb).trans a0, (hq.cell (p := ⟨b, off + 1, none⟩) hb).trans a1, (hq.cell (p := ⟨b, off + 2, none⟩) hb).trans a2, (hq.cell (p := ⟨b, off + 3, none⟩) hb).trans a3⟩)
  clear a0 a1 a2 a3 h
  have HN0 := hide (NodeSt.start w)
  go_enter Tryz.func25, Tryz.ntmps25
  go_upto_region 48 with (fail)
  generalize (w.alloc (Obj.cells #[.int .i64 0, .int .i64 0, .bool false] 52)).alloc (Obj.cells #[.int .i64 0, .int .i64 0, .bool false] 52) = w0 at HN0 ⊢
  obtain ⟨e0, e1, e2, e3⟩ := HC.out w0 HN0.out.bel
  cases d1 : decide (max x1 y1 ≤ min x2 y2)
  · rcases (show ((x1 != x2) = true) ∨ ((x1 != x2) = false ∧ (y1 != y2) = true) ∨ ((x1 != x2) = false ∧ (y1 != y2) = false ∧ (x1 != y1) = true) ∨ ((x1 != x2) = false ∧ (y1 != y2) = false ∧ (x1 != y1) = false) from by rcases Bool.eq_false_or_eq_true (x1 != x2) with h | h <;> rcases Bool.eq_false_or_eq_true (y1 != y2) with h' | h' <;> rcases Bool.eq_false_or_eq_true (x1 != y1) with h'' | h'' <;> simp [h, h', h'']) with n1 | ⟨n1, n2⟩ | ⟨n1, n2, n3⟩ | ⟨n1, n2, n3⟩
    · have HR : Hid (((if max x1 y1 ≤ min x2 y2 then [1] else []) ++ (if x1 ≠ x2 ∨ y1 ≠ y2 ∨ x1 ≠ y1 then [0] else [])) = ([0] : List Int)) := by
        show _ = _
        rw [if_neg (of_decide_eq_false d1), if_pos (.inl (bne_iff_ne.1 n1))]
        rfl
      go_quiet (fail)
      have HQ1 := hide (HN0.out.drewN nq)
      generalize w0.drewN nq = wq1 at HQ1 ⊢
      clear e0 e1 e2 e3
      obtain ⟨e0, e1, e2, e3⟩ := HC.out wq1 HQ1.out.bel
      go_upto_region 50 with (fail)
      go_quiet (fail)
      have HQ2 := hide (HQ1.out.drewN nq)
      generalize wq1.drewN nq = wq2 at HQ2 ⊢
      clear e0 e1 e2 e3
      obtain ⟨e0, e1, e2, e3⟩ := HC.out wq2 HQ2.out.bel
      go_wp2_with fail
      refine (refAdd_any _ _ _ _ HQ2.out.own).mono ?_
      rintro en w3x ⟨rfl, hb', hk'⟩
      have HN3 := hide (HQ2.out.step hb' hk')
      clear hb' hk'
      clear e0 e1 e2 e3
      obtain ⟨e0, e1, e2, e3⟩ := HC.out w3x HN3.out.bel
      have HF : Hid (NodeSt w (growL [0]) w3x) := HN3
      obtain ⟨s, hs⟩ : ∃ s, growL [0] = s := ⟨_, rfl⟩
      rw [hs] at HF
      have HS := hide hs
      clear hs
      obtain ⟨lo, hi, sm⟩ := s
      have c0 : w3x.cell? ⟨w.heap.size + 1, 0, none⟩ = some (.int .i64 lo) := HF.out.own.cell 0
      have c1 : w3x.cell? ⟨w.heap.size + 1, 1, none⟩ = some (.int .i64 hi) := HF.out.own.cell 1
      have c2 : w3x.cell? ⟨w.heap.size + 1, 2, none⟩ = some (.bool sm) := HF.out.own.cell 2
      have r0 : w3x.cell? ⟨w.heap.size, 0, none⟩ = some (.int .i64 0) := HF.out.res.cell 0
      have r1 : w3x.cell? ⟨w.heap.size, 1, none⟩ = some (.int .i64 0) := HF.out.res.cell 1
      have r2 : w3x.cell? ⟨w.heap.size, 2, none⟩ = some (.bool false) := HF.out.res.cell 2
      have f0 := HF.out.res.frozen 0
      have f1 := HF.out.res.frozen 1
      have f2 := HF.out.res.frozen 2
      have HP := hide HF.out.put
      go_wp2
      generalize ((w3x.setCell ⟨w.heap.size, 0, none⟩ (.int .i64 lo)).setCell ⟨w.heap.size, 1, none⟩ (.int .i64 hi)).setCell ⟨w.heap.size, 2, none⟩ (.bool sm) = w9 at HP ⊢
      have d0 : w9.cell? ⟨w.heap.size, 0, none⟩ = some (.int .i64 lo) := HP.out.1.cell 0
      have d1 : w9.cell? ⟨w.heap.size, 1, none⟩ = some (.int .i64 hi) := HP.out.1.cell 1
      have d2 : w9.cell? ⟨w.heap.size, 2, none⟩ = some (.bool sm) := HP.out.1.cell 2
      exact bodyPost_ret (v := .agg #[.int .i64 lo, .int .i64 hi, .bool sm]) (by simp [results, Tryz.results25, go_sem, d0, d1, d2]) rfl ⟨by rw [← HRR.out, HR.out, HS.out]; rfl, HP.out.2⟩
    · have HR : Hid (((if max x1 y1 ≤ min x2 y2 then [1] else []) ++ (if x1 ≠ x2 ∨ y1 ≠ y2 ∨ x1 ≠ y1 then [0] else [])) = ([0] : List Int)) := by
        show _ = _
        rw [if_neg (of_decide_eq_false d1), if_pos (.inr (.inl (bne_iff_ne.1 n2)))]
        rfl
      go_quiet (fail)
      have HQ1 := hide (HN0.out.drewN nq)
      generalize w0.drewN nq = wq1 at HQ1 ⊢
      clear e0 e1 e2 e3
      obtain ⟨e0, e1, e2, e3⟩ := HC.out wq1 HQ1.out.bel
      go_upto_region 50 with (fail)
      go_quiet (fail)
      have HQ2 := hide (HQ1.out.drewN nq)
      generalize wq1.drewN nq = wq2 at HQ2 ⊢
      clear e0 e1 e2 e3
      obtain ⟨e0, e1, e2, e3⟩ := HC.out wq2 HQ2.out.bel
      go_wp2_with fail
      refine (refAdd_any _ _ _ _ HQ2.out.own).mono ?_
      rintro en w3x ⟨rfl, hb', hk'⟩
      have HN3 := hide (HQ2.out.step hb' hk')
      clear hb' hk'
      clear e0 e1 e2 e3
      obtain ⟨e0, e1, e2, e3⟩ := HC.out w3x HN3.out.bel
      have HF : Hid (NodeSt w (growL [0]) w3x) := HN3
      obtain ⟨s, hs⟩ : ∃ s, growL [0] = s := ⟨_, rfl⟩
      rw [hs] at HF
      have HS := hide hs
      clear hs
      obtain ⟨lo, hi, sm⟩ := s
      have c0 : w3x.cell? ⟨w.heap.size + 1, 0, none⟩ = some (.int .i64 lo) := HF.out.own.cell 0
      have c1 : w3x.cell? ⟨w.heap.size + 1, 1, none⟩ = some (.int .i64 hi) := HF.out.own.cell 1
      have c2 : w3x.cell? ⟨w.heap.size + 1, 2, none⟩ = some (.bool sm) := HF.out.own.cell 2
      have r0 : w3x.cell? ⟨w.heap.size, 0, none⟩ = some (.int .i64 0) := HF.out.res.cell 0
      have r1 : w3x.cell? ⟨w.heap.size, 1, none⟩ = some (.int .i64 0) := HF.out.res.cell 1
      have r2 : w3x.cell? ⟨w.heap.size, 2, none⟩ = some (.bool false) := HF.out.res.cell 2
      have f0 := HF.out.res.frozen 0
      have f1 := HF.out.res.frozen 1
      have f2 := HF.out.res.frozen 2
      have HP := hide HF.out.put
      go_wp2
      generalize ((w3x.setCell ⟨w.heap.size, 0, none⟩ (.int .i64 lo)).setCell ⟨w.heap.size, 1, none⟩ (.int .i64 hi)).setCell ⟨w.heap.size, 2, none⟩ (.bool sm) = w9 at HP ⊢
      have d0 : w9.cell? ⟨w.heap.size, 0, none⟩ = some (.int .i64 lo) := HP.out.1.cell 0
      have d1 : w9.cell? ⟨w.heap.size, 1, none⟩ = some (.int .i64 hi) := HP.out.1.cell 1
      have d2 : w9.cell? ⟨w.heap.size, 2, none⟩ = some (.bool sm) := HP.out.1.cell 2
      exact bodyPost_ret (v := .agg #[.int .i64 lo, .int .i64 hi, .bool sm]) (by simp [results, Tryz.results25, go_sem, d0, d1, d2]) rfl ⟨by rw [← HRR.out, HR.out, HS.out]; rfl, HP.out.2⟩
    · have HR : Hid (((if max x1 y1 ≤ min x2 y2 then [1] else []) ++ (if x1 ≠ x2 ∨ y1 ≠ y2 ∨ x1 ≠ y1 then [0] else [])) = ([0] : List Int)) := by
        show _ = _
        rw [if_neg (of_decide_eq_false d1), if_pos (.inr (.inr (bne_iff_ne.1 n3)))]
        rfl
      go_quiet (fail)
      have HQ1 := hide (HN0.out.drewN nq)
      generalize w0.drewN nq = wq1 at HQ1 ⊢
      clear e0 e1 e2 e3
      obtain ⟨e0, e1, e2, e3⟩ := HC.out wq1 HQ1.out.bel
      go_upto_region 50 with (fail)
      go_quiet (fail)
      have HQ2 := hide (HQ1.out.drewN nq)
      generalize wq1.drewN nq = wq2 at HQ2 ⊢
      clear e0 e1 e2 e3
      obtain ⟨e0, e1, e2, e3⟩ := HC.out wq2 HQ2.out.bel
      go_wp2_with fail
      refine (refAdd_any _ _ _ _ HQ2.out.own).mono ?_
      rintro en w3x ⟨rfl, hb', hk'⟩
      have HN3 := hide (HQ2.out.step hb' hk')
      clear hb' hk'
      clear e0 e1 e2 e3
      obtain ⟨e0, e1, e2, e3⟩ := HC.out w3x HN3.out.bel
      have HF : Hid (NodeSt w (growL [0]) w3x) := HN3
      obtain ⟨s, hs⟩ : ∃ s, growL [0] = s := ⟨_, rfl⟩
      rw [hs] at HF
      have HS := hide hs
      clear hs
      obtain ⟨lo, hi, sm⟩ := s
      have c0 : w3x.cell? ⟨w.heap.size + 1, 0, none⟩ = some (.int .i64 lo) := HF.out.own.cell 0
      have c1 : w3x.cell? ⟨w.heap.size + 1, 1, none⟩ = some (.int .i64 hi) := HF.out.own.cell 1
      have c2 : w3x.cell? ⟨w.heap.size + 1, 2, none⟩ = some (.bool sm) := HF.out.own.cell 2
      have r0 : w3x.cell? ⟨w.heap.size, 0, none⟩ = some (.int .i64 0) := HF.out.res.cell 0
      have r1 : w3x.cell? ⟨w.heap.size, 1, none⟩ = some (.int .i64 0) := HF.out.res.cell 1
      have r2 : w3x.cell? ⟨w.heap.size, 2, none⟩ = some (.bool false) := HF.out.res.cell 2
      have f0 := HF.out.res.frozen 0
      have f1 := HF.out.res.frozen 1
      have f2 := HF.out.res.frozen 2
      have HP := hide HF.out.put
      go_wp2
      generalize ((w3x.setCell ⟨w.heap.size, 0, none⟩ (.int .i64 lo)).setCell ⟨w.heap.size, 1, none⟩ (.int .i64 hi)).setCell ⟨w.heap.size, 2, none⟩ (.bool sm) = w9 at HP ⊢
      have d0 : w9.cell? ⟨w.heap.size, 0, none⟩ = some (.int .i64 lo) := HP.out.1.cell 0
      have d1 : w9.cell? ⟨w.heap.size, 1, none⟩ = some (.int .i64 hi) := HP.out.1.cell 1
      have d2 : w9.cell? ⟨w.heap.size, 2, none⟩ = some (.bool sm) := HP.out.1.cell 2
      exact bodyPost_ret (v := .agg #[.int .i64 lo, .int .i64 hi, .bool sm]) (by simp [results, Tryz.results25, go_sem, d0, d1, d2]) rfl ⟨by rw [← HRR.out, HR.out, HS.out]; rfl, HP.out.2⟩
    · have HR : Hid (((if max x1 y1 ≤ min x2 y2 then [1] else []) ++ (if x1 ≠ x2 ∨ y1 ≠ y2 ∨ x1 ≠ y1 then [0] else [])) = ([] : List Int)) := by
        show _ = _
        rw [if_neg (of_decide_eq_false d1), if_neg (fun h => h.elim (fun h => h (bne_eq_false_iff_eq.1 n1)) (fun h => h.elim (fun h => h (bne_eq_false_iff_eq.1 n2)) (fun h => h (bne_eq_false_iff_eq.1 n3))))]
        rfl
      go_quiet (fail)
      have HQ1 := hide (HN0.out.drewN nq)
      generalize w0.drewN nq = wq1 at HQ1 ⊢
      clear e0 e1 e2 e3
      obtain ⟨e0, e1, e2, e3⟩ := HC.out wq1 HQ1.out.bel
      go_upto_region 50 with (fail)
      go_quiet (fail)
      have HQ2 := hide (HQ1.out.drewN nq)
      generalize wq1.drewN nq = wq2 at HQ2 ⊢
      clear e0 e1 e2 e3
      obtain ⟨e0, e1, e2, e3⟩ := HC.out wq2 HQ2.out.bel
      have HF : Hid (NodeSt w (growL []) wq2) := HQ2
      obtain ⟨s, hs⟩ : ∃ s, growL [] = s := ⟨_, rfl⟩
      rw [hs] at HF
      have HS := hide hs
      clear hs
      obtain ⟨lo, hi, sm⟩ := s
      have c0 : wq2.cell? ⟨w.heap.size + 1, 0, none⟩ = some (.int .i64 lo) := HF.out.own.cell 0
      have c1 : wq2.cell? ⟨w.heap.size + 1, 1, none⟩ = some (.int .i64 hi) := HF.out.own.cell 1
      have c2 : wq2.cell? ⟨w.heap.size + 1, 2, none⟩ = some (.bool sm) := HF.out.own.cell 2
      have r0 : wq2.cell? ⟨w.heap.size, 0, none⟩ = some (.int .i64 0) := HF.out.res.cell 0
      have r1 : wq2.cell? ⟨w.heap.size, 1, none⟩ = some (.int .i64 0) := HF.out.res.cell 1
      have r2 : wq2.cell? ⟨w.heap.size, 2, none⟩ = some (.bool false) := HF.out.res.cell 2
      have f0 := HF.out.res.frozen 0
      have f1 := HF.out.res.frozen 1
      have f2 := HF.out.res.frozen 2
      have HP := hide HF.out.put
      go_wp2
      generalize ((wq2.setCell ⟨w.heap.size, 0, none⟩ (.int .i64 lo)).setCell ⟨w.heap.size, 1, none⟩ (.int .i64 hi)).setCell ⟨w.heap.size, 2, none⟩ (.bool sm) = w9 at HP ⊢
      have d0 : w9.cell? ⟨w.heap.size, 0, none⟩ = some (.int .i64 lo) := HP.out.1.cell 0
      have d1 : w9.cell? ⟨w.heap.size, 1, none⟩ = some (.int .i64 hi) := HP.out.1.cell 1
      have d2 : w9.cell? ⟨w.heap.size, 2, none⟩ = some (.bool sm) := HP.out.1.cell 2
      exact bodyPost_ret (v := .agg #[.int .i64 lo, .int .i64 hi, .bool sm]) (by simp [results, Tryz.results25, go_sem, d0, d1, d2]) rfl ⟨by rw [← HRR.out, HR.out, HS.out]; rfl, HP.out.2⟩
  · rcases (show ((x1 != x2) = true) ∨ ((x1 != x2) = false ∧ (y1 != y2) = true) ∨ ((x1 != x2) = false ∧ (y1 != y2) = false ∧ (x1 != y1) = true) ∨ ((x1 != x2) = false ∧ (y1 != y2) = false ∧ (x1 != y1) = false) from by rcases Bool.eq_false_or_eq_true (x1 != x2) with h | h <;> rcases Bool.eq_false_or_eq_true (y1 != y2) with h' | h' <;> rcases Bool.eq_false_or_eq_true (x1 != y1) with h'' | h'' <;> simp [h, h', h'']) with n1 | ⟨n1, n2⟩ | ⟨n1, n2, n3⟩ | ⟨n1, n2, n3⟩
    · have HR : Hid (((if max x1 y1 ≤ min x2 y2 then [1] else []) ++ (if x1 ≠ x2 ∨ y1 ≠ y2 ∨ x1 ≠ y1 then [0] else [])) = ([1, 0] : List Int)) := by
        show _ = _
        rw [if_pos (of_decide_eq_true d1), if_pos (.inl (bne_iff_ne.1 n1))]
        rfl
      go_quiet (fail)
      have HQ1 := hide (HN0.out.drewN nq)
      generalize w0.drewN nq = wq1 at HQ1 ⊢
      clear e0 e1 e2 e3
      obtain ⟨e0, e1, e2, e3⟩ := HC.out wq1 HQ1.out.bel
      go_wp2_with fail
      refine (refAdd_any _ _ _ _ HQ1.out.own).mono ?_
      rintro en w2x ⟨rfl, hb', hk'⟩
      have HN2 := hide (HQ1.out.step hb' hk')
      clear hb' hk'
      clear e0 e1 e2 e3
      obtain ⟨e0, e1, e2, e3⟩ := HC.out w2x HN2.out.bel
      go_upto_region 50 with (fail)
      go_quiet (fail)
      have HQ3 := hide (HN2.out.drewN nq)
      generalize w2x.drewN nq = wq3 at HQ3 ⊢
      clear e0 e1 e2 e3
      obtain ⟨e0, e1, e2, e3⟩ := HC.out wq3 HQ3.out.bel
      go_wp2_with fail
      refine (refAdd_any _ _ _ _ HQ3.out.own).mono ?_
      rintro en w4x ⟨rfl, hb', hk'⟩
      have HN4 := hide (HQ3.out.step hb' hk')
      clear hb' hk'
      clear e0 e1 e2 e3
      obtain ⟨e0, e1, e2, e3⟩ := HC.out w4x HN4.out.bel
      have HF : Hid (NodeSt w (growL [1, 0]) w4x) := HN4
      obtain ⟨s, hs⟩ : ∃ s, growL [1, 0] = s := ⟨_, rfl⟩
      rw [hs] at HF
      have HS := hide hs
      clear hs
      obtain ⟨lo, hi, sm⟩ := s
      have c0 : w4x.cell? ⟨w.heap.size + 1, 0, none⟩ = some (.int .i64 lo) := HF.out.own.cell 0
      have c1 : w4x.cell? ⟨w.heap.size + 1, 1, none⟩ = some (.int .i64 hi) := HF.out.own.cell 1
      have c2 : w4x.cell? ⟨w.heap.size + 1, 2, none⟩ = some (.bool sm) := HF.out.own.cell 2
      have r0 : w4x.cell? ⟨w.heap.size, 0, none⟩ = some (.int .i64 0) := HF.out.res.cell 0
      have r1 : w4x.cell? ⟨w.heap.size, 1, none⟩ = some (.int .i64 0) := HF.out.res.cell 1
      have r2 : w4x.cell? ⟨w.heap.size, 2, none⟩ = some (.bool false) := HF.out.res.cell 2
      have f0 := HF.out.res.frozen 0
      have f1 := HF.out.res.frozen 1
      have f2 := HF.out.res.frozen 2
      have HP := hide HF.out.put
      go_wp2
      generalize ((w4x.setCell ⟨w.heap.size, 0, none⟩ (.int .i64 lo)).setCell ⟨w.heap.size, 1, none⟩ (.int .i64 hi)).setCell ⟨w.heap.size, 2, none⟩ (.bool sm) = w9 at HP ⊢
      have d0 : w9.cell? ⟨w.heap.size, 0, none⟩ = some (.int .i64 lo) := HP.out.1.cell 0
      have d1 : w9.cell? ⟨w.heap.size, 1, none⟩ = some (.int .i64 hi) := HP.out.1.cell 1
      have d2 : w9.cell? ⟨w.heap.size, 2, none⟩ = some (.bool sm) := HP.out.1.cell 2
      exact bodyPost_ret (v := .agg #[.int .i64 lo, .int .i64 hi, .bool sm]) (by simp [results, Tryz.results25, go_sem, d0, d1, d2]) rfl ⟨by rw [← HRR.out, HR.out, HS.out]; rfl, HP.out.2⟩
    · have HR : Hid (((if max x1 y1 ≤ min x2 y2 then [1] else []) ++ (if x1 ≠ x2 ∨ y1 ≠ y2 ∨ x1 ≠ y1 then [0] else [])) = ([1, 0] : List Int)) := by
        show _ = _
        rw [if_pos (of_decide_eq_true d1), if_pos (.inr (.inl (bne_iff_ne.1 n2)))]
        rfl
      go_quiet (fail)
      have HQ1 := hide (HN0.out.drewN nq)
      generalize w0.drewN nq = wq1 at HQ1 ⊢
      clear e0 e1 e2 e3
      obtain ⟨e0, e1, e2, e3⟩ := HC.out wq1 HQ1.out.bel
      go_wp2_with fail
      refine (refAdd_any _ _ _ _ HQ1.out.own).mono ?_
      rintro en w2x ⟨rfl, hb', hk'⟩
      have HN2 := hide (HQ1.out.step hb' hk')
      clear hb' hk'
      clear e0 e1 e2 e3
      obtain ⟨e0, e1, e2, e3⟩ := HC.out w2x HN2.out.bel
      go_upto_region 50 with (fail)
      go_quiet (fail)
      have HQ3 := hide (HN2.out.drewN nq)
      generalize w2x.drewN nq = wq3 at HQ3 ⊢
      clear e0 e1 e2 e3
      obtain ⟨e0, e1, e2, e3⟩ := HC.out wq3 HQ3.out.bel
      go_wp2_with fail
      refine (refAdd_any _ _ _ _ HQ3.out.own).mono ?_
      rintro en w4x ⟨rfl, hb', hk'⟩
      have HN4 := hide (HQ3.out.step hb' hk')
      clear hb' hk'
      clear e0 e1 e2 e3
      obtain ⟨e0, e1, e2, e3⟩ := HC.out w4x HN4.out.bel
      have HF : Hid (NodeSt w (growL [1, 0]) w4x) := HN4
      obtain ⟨s, hs⟩ : ∃ s, growL [1, 0] = s := ⟨_, rfl⟩
      rw [hs] at HF
      have HS := hide hs
      clear hs
      obtain ⟨lo, hi, sm⟩ := s
      have c0 : w4x.cell? ⟨w.heap.size + 1, 0, none⟩ = some (.int .i64 lo) := HF.out.own.cell 0
      have c1 : w4x.cell? ⟨w.heap.size + 1, 1, none⟩ = some (.int .i64 hi) := HF.out.own.cell 1
      have c2 : w4x.cell? ⟨w.heap.size + 1, 2, none⟩ = some (.bool sm) := HF.out.own.cell 2
      have r0 : w4x.cell? ⟨w.heap.size, 0, none⟩ = some (.int .i64 0) := HF.out.res.cell 0
      have r1 : w4x.cell? ⟨w.heap.size, 1, none⟩ = some (.int .i64 0) := HF.out.res.cell 1
      have r2 : w4x.cell? ⟨w.heap.size, 2, none⟩ = some (.bool false) := HF.out.res.cell 2
      have f0 := HF.out.res.frozen 0
      have f1 := HF.out.res.frozen 1
      have f2 := HF.out.res.frozen 2
      have HP := hide HF.out.put
      go_wp2
      generalize ((w4x.setCell ⟨w.heap.size, 0, none⟩ (.int .i64 lo)).setCell ⟨w.heap.size, 1, none⟩ (.int .i64 hi)).setCell ⟨w.heap.size, 2, none⟩ (.bool sm) = w9 at HP ⊢
      have d0 : w9.cell? ⟨w.heap.size, 0, none⟩ = some (.int .i64 lo) := HP.out.1.cell 0
      have d1 : w9.cell? ⟨w.heap.size, 1, none⟩ = some (.int .i64 hi) := HP.out.1.cell 1
      have d2 : w9.cell? ⟨w.heap.size, 2, none⟩ = some (.bool sm) := HP.out.1.cell 2
      exact bodyPost_ret (v := .agg #[.int .i64 lo, .int .i64 hi, .bool sm]) (by simp [results, Tryz.results25, go_sem, d0, d1, d2]) rfl ⟨by rw [← HRR.out, HR.out, HS.out]; rfl, HP.out.2⟩
    · have HR : Hid (((if max x1 y1 ≤ min x2 y2 then [1] else []) ++ (if x1 ≠ x2 ∨ y1 ≠ y2 ∨ x1 ≠ y1 then [0] else [])) = ([1, 0] : List Int)) := by
        show _ = _
        rw [if_pos (of_decide_eq_true d1), if_pos (.inr (.inr (bne_iff_ne.1 n3)))]
        rfl
      go_quiet (fail)
      have HQ1 := hide (HN0.out.drewN nq)
      generalize w0.drewN nq = wq1 at HQ1 ⊢
      clear e0 e1 e2 e3
      obtain ⟨e0, e1, e2, e3⟩ := HC.out wq1 HQ1.out.bel
      go_wp2_with fail
      refine (refAdd_any _ _ _ _ HQ1.out.own).mono ?_
      rintro en w2x ⟨rfl, hb', hk'⟩
      have HN2 := hide (HQ1.out.step hb' hk')
      clear hb' hk'
      clear e0 e1 e2 e3
      obtain ⟨e0, e1, e2, e3⟩ := HC.out w2x HN2.out.bel
      go_upto_region 50 with (fail)
      go_quiet (fail)
      have HQ3 := hide (HN2.out.drewN nq)
      generalize w2x.drewN nq = wq3 at HQ3 ⊢
      clear e0 e1 e2 e3
      obtain ⟨e0, e1, e2, e3⟩ := HC.out wq3 HQ3.out.bel
      go_wp2_with fail
      refine (refAdd_any _ _ _ _ HQ3.out.own).mono ?_
      rintro en w4x ⟨rfl, hb', hk'⟩
      have HN4 := hide (HQ3.out.step hb' hk')
      clear hb' hk'
      clear e0 e1 e2 e3
      obtain ⟨e0, e1, e2, e3⟩ := HC.out w4x HN4.out.bel
      have HF : Hid (NodeSt w (growL [1, 0]) w4x) := HN4
      obtain ⟨s, hs⟩ : ∃ s, growL [1, 0] = s := ⟨_, rfl⟩
      rw [hs] at HF
      have HS := hide hs
      clear hs
      obtain ⟨lo, hi, sm⟩ := s
      have c0 : w4x.cell? ⟨w.heap.size + 1, 0, none⟩ = some (.int .i64 lo) := HF.out.own.cell 0
      have c1 : w4x.cell? ⟨w.heap.size + 1, 1, none⟩ = some (.int .i64 hi) := HF.out.own.cell 1
      have c2 : w4x.cell? ⟨w.heap.size + 1, 2, none⟩ = some (.bool sm) := HF.out.own.cell 2
      have r0 : w4x.cell? ⟨w.heap.size, 0, none⟩ = some (.int .i64 0) := HF.out.res.cell 0
      have r1 : w4x.cell? ⟨w.heap.size, 1, none⟩ = some (.int .i64 0) := HF.out.res.cell 1
      have r2 : w4x.cell? ⟨w.heap.size, 2, none⟩ = some (.bool false) := HF.out.res.cell 2
      have f0 := HF.out.res.frozen 0
      have f1 := HF.out.res.frozen 1
      have f2 := HF.out.res.frozen 2
      have HP := hide HF.out.put
      go_wp2
      generalize ((w4x.setCell ⟨w.heap.size, 0, none⟩ (.int .i64 lo)).setCell ⟨w.heap.size, 1, none⟩ (.int .i64 hi)).setCell ⟨w.heap.size, 2, none⟩ (.bool sm) = w9 at HP ⊢
      have d0 : w9.cell? ⟨w.heap.size, 0, none⟩ = some (.int .i64 lo) := HP.out.1.cell 0
      have d1 : w9.cell? ⟨w.heap.size, 1, none⟩ = some (.int .i64 hi) := HP.out.1.cell 1
      have d2 : w9.cell? ⟨w.heap.size, 2, none⟩ = some (.bool sm) := HP.out.1.cell 2
      exact bodyPost_ret (v := .agg #[.int .i64 lo, .int .i64 hi, .bool sm]) (by simp [results, Tryz.results25, go_sem, d0, d1, d2]) rfl ⟨by rw [← HRR.out, HR.out, HS.out]; rfl, HP.out.2⟩
    · have HR : Hid (((if max x1 y1 ≤ min x2 y2 then [1] else []) ++ (if x1 ≠ x2 ∨ y1 ≠ y2 ∨ x1 ≠ y1 then [0] else [])) = ([1] : List Int)) := by
        show _ = _
        rw [if_pos (of_decide_eq_true d1), if_neg (fun h => h.elim (fun h => h (bne_eq_false_iff_eq.1 n1)) (fun h => h.elim (fun h => h (bne_eq_false_iff_eq.1 n2)) (fun h => h (bne_eq_false_iff_eq.1 n3))))]
        rfl
      go_quiet (fail)
      have HQ1 := hide (HN0.out.drewN nq)
      generalize w0.drewN nq = wq1 at HQ1 ⊢
      clear e0 e1 e2 e3
      obtain ⟨e0, e1, e2, e3⟩ := HC.out wq1 HQ1.out.bel
      go_wp2_with fail
      refine (refAdd_any _ _ _ _ HQ1.out.own).mono ?_
      rintro en w2x ⟨rfl, hb', hk'⟩
      have HN2 := hide (HQ1.out.step hb' hk')
      clear hb' hk'
      clear e0 e1 e2 e3
      obtain ⟨e0, e1, e2, e3⟩ := HC.out w2x HN2.out.bel
      go_upto_region 50 with (fail)
      go_quiet (fail)
      have HQ3 := hide (HN2.out.drewN nq)
      generalize w2x.drewN nq = wq3 at HQ3 ⊢
      clear e0 e1 e2 e3
      obtain ⟨e0, e1, e2, e3⟩ := HC.out wq3 HQ3.out.bel
      have HF : Hid (NodeSt w (growL [1]) wq3) := HQ3
      obtain ⟨s, hs⟩ : ∃ s, growL [1] = s := ⟨_, rfl⟩
      rw [hs] at HF
      have HS := hide hs
      clear hs
      obtain ⟨lo, hi, sm⟩ := s
      have c0 : wq3.cell? ⟨w.heap.size + 1, 0, none⟩ = some (.int .i64 lo) := HF.out.own.cell 0
      have c1 : wq3.cell? ⟨w.heap.size + 1, 1, none⟩ = some (.int .i64 hi) := HF.out.own.cell 1
      have c2 : wq3.cell? ⟨w.heap.size + 1, 2, none⟩ = some (.bool sm) := HF.out.own.cell 2
      have r0 : wq3.cell? ⟨w.heap.size, 0, none⟩ = some (.int .i64 0) := HF.out.res.cell 0
      have r1 : wq3.cell? ⟨w.heap.size, 1, none⟩ = some (.int .i64 0) := HF.out.res.cell 1
      have r2 : wq3.cell? ⟨w.heap.size, 2, none⟩ = some (.bool false) := HF.out.res.cell 2
      have f0 := HF.out.res.frozen 0
      have f1 := HF.out.res.frozen 1
      have f2 := HF.out.res.frozen 2
      have HP := hide HF.out.put
      go_wp2
      generalize ((wq3.setCell ⟨w.heap.size, 0, none⟩ (.int .i64 lo)).setCell ⟨w.heap.size, 1, none⟩ (.int .i64 hi)).setCell ⟨w.heap.size, 2, none⟩ (.bool sm) = w9 at HP ⊢
      have d0 : w9.cell? ⟨w.heap.size, 0, none⟩ = some (.int .i64 lo) := HP.out.1.cell 0
      have d1 : w9.cell? ⟨w.heap.size, 1, none⟩ = some (.int .i64 hi) := HP.out.1.cell 1
      have d2 : w9.cell? ⟨w.heap.size, 2, none⟩ = some (.bool sm) := HP.out.1.cell 2
      exact bodyPost_ret (v := .agg #[.int .i64 lo, .int .i64 hi, .bool sm]) (by simp [results, Tryz.results25, go_sem, d0, d1, d2]) rfl ⟨by rw [← HRR.out, HR.out, HS.out]; rfl, HP.out.2⟩
end Go.Proofs.YtnlcfbaaomdjdaaGreatDoor

/-
  The reference of chapter 22: the bounds of a node: products, quotients.
-/
set_option linter.unusedVariables false
set_option linter.unusedSimpArgs false
namespace Go.Proofs.YtnlcfbaaomdjdaaGreatDoor
open Go.RowKit Go.Deep

set_option maxHeartbeats 4000000 in
set_option maxRecDepth 20000 in
theorem refNode5 (A : Option Addr) (n c : Nat) (x y : Int × Int) (w : World) (h : RSp w w.heap.size A n [x, y]) (hx : inS x) (hy : inS y) :
    Calls Tryz.prog 25 #[.int .i64 5, .slice A n c] w fun e w' => e = .returned (growV (growL [mulR x.1 y.1, mulR x.2 y.1, mulR x.1 y.2, mulR x.2 y.2])) ∧ Below w.heap.size w w' := by
  obtain rfl : 2 = n := h.len
  obtain ⟨b, off, rfl, hb, a0, a1, a2, _, a3⟩ := h.two
  obtain ⟨x1, x2⟩ := x
  obtain ⟨y1, y2⟩ := y
  obtain ⟨⟨p0a, p0b⟩, p0c, p0d⟩ := hx
  obtain ⟨⟨p1a, p1b⟩, p1c, p1d⟩ := hy
  dsimp only at p0a p0b p0c p0d p1a p1b p1c p1d ⊢
  obtain ⟨R, hR⟩ : ∃ R, growL [mulR x1 y1, mulR x2 y1, mulR x1 y2, mulR x2 y2] = R := ⟨_, rfl⟩
  rw [hR]
  have HRR := hide hR
  clear hR
  have HC : Hid (∀ wq : World, Below w.heap.size w wq → wq.cell? ⟨b, off, none⟩ = some (.int .i64 x1) ∧ wq.cell? ⟨b, off + 1, none⟩ = some (.int .i64 x2) ∧ wq.cell? ⟨b, off + 2, none⟩ = some (.int .i64 y1) ∧ wq.cell? ⟨b, off + 3, none⟩ = some (.int .i64 y2)) := hide (fun wq hq => ⟨(hq.cell (p := ⟨b, off, none⟩) hb).trans a0, (hq.cell (p := ⟨b, off + 1, none⟩) hb).trans a1, (hq.cell (p := ⟨b, off + 2, none⟩) hb).trans a2, (hq.cell (p := ⟨b, off + 3, none⟩) hb).trans a3⟩)
  clear a0 a1 a2 a3 h
  have HN0 := hide (NodeSt.start w)
  go_enter Tryz.func25, Tryz.ntmps25
  go_upto_region 14 with (fail)
  generalize (w.alloc (Obj.cells #[.int .i64 0, .int .i64 0, .bool false] 52)).alloc (Obj.cells #[.int .i64 0, .int .i64 0, .bool false] 52) = w0 at HN0 ⊢
  obtain ⟨e0, e1, e2, e3⟩ := HC.out w0 HN0.out.bel
  clear e0 e1 e2 e3
  go_loopw [6] (fun i wr => ∃ k : Nat, k ≤ 4 ∧ i = .int .i64 k ∧ NodeSt w (growL ([mulR x1 y1, mulR x2 y1, mulR x1 y2, mulR x2 y2].take k)) wr) (fun i _ => 4 - (intOf i).toNat)
  case atStart => exact ⟨0, by omega, rfl, HN0.out⟩
  case round =>
    obtain ⟨k, hk, rfl, hst⟩ := hrel
    have HN0 := hide hst
    clear hst
    rcases (show k = 0 ∨ k = 1 ∨ k = 2 ∨ k = 3 ∨ k = 4 by omega) with rfl | rfl | rfl | rfl | rfl
    · have hk0 : ((0 : Nat) : Int) = 0 := rfl
      rw [hk0]
      clear hk0
      obtain ⟨e0, e1, e2, e3⟩ := HC.out wr HN0.out.bel
      go_upto_region 16 with (fail)
      have hwk : IntKind.i64.wrap 0 = 0 := by decide
      go_still_tail 13, (by kernel_rfl)
      still_call (refMul_still x1 y1 _ (by constructor <;> assumption) (by constructor <;> assumption))
      refine wpStill_nil ?_
      change wpList _ _ _ _ _ wr.drew
      have HD1 := hide HN0.out.drew
      generalize wr.drew = wd1 at HD1 ⊢
      clear e0 e1 e2 e3
      obtain ⟨e0, e1, e2, e3⟩ := HC.out wd1 HD1.out.bel
      go_wp2_with fail
      refine (refAdd_any _ _ _ _ HD1.out.own).mono ?_
      rintro en w2x ⟨rfl, hb', hk'⟩
      have HN2 := hide (HD1.out.step hb' hk')
      clear hb' hk'
      clear e0 e1 e2 e3
      obtain ⟨e0, e1, e2, e3⟩ := HC.out w2x HN2.out.bel
      go_wp2
      go_roundw
      case rel => exact ⟨1, by omega, by go_num, HN2.out⟩
      case measure => simp [intOf]
    · have hk0 : ((1 : Nat) : Int) = 1 := rfl
      rw [hk0]
      clear hk0
      obtain ⟨e0, e1, e2, e3⟩ := HC.out wr HN0.out.bel
      go_upto_region 16 with (fail)
      have hwk : IntKind.i64.wrap 0 = 0 := by decide
      go_still_tail 13, (by kernel_rfl)
      still_call (refMul_still x2 y1 _ (by constructor <;> assumption) (by constructor <;> assumption))
      refine wpStill_nil ?_
      change wpList _ _ _ _ _ wr.drew
      have HD1 := hide HN0.out.drew
      generalize wr.drew = wd1 at HD1 ⊢
      clear e0 e1 e2 e3
      obtain ⟨e0, e1, e2, e3⟩ := HC.out wd1 HD1.out.bel
      go_wp2_with fail
      refine (refAdd_any _ _ _ _ HD1.out.own).mono ?_
      rintro en w2x ⟨rfl, hb', hk'⟩
      have HN2 := hide (HD1.out.step hb' hk')
      clear hb' hk'
      clear e0 e1 e2 e3
      obtain ⟨e0, e1, e2, e3⟩ := HC.out w2x HN2.out.bel
      go_wp2
      go_roundw
      case rel => exact ⟨2, by omega, by go_num, HN2.out⟩
      case measure => simp [intOf]
    · have hk0 : ((2 : Nat) : Int) = 2 := rfl
      rw [hk0]
      clear hk0
      obtain ⟨e0, e1, e2, e3⟩ := HC.out wr HN0.out.bel
      go_upto_region 16 with (fail)
      have hwk : IntKind.i64.wrap 1 = 1 := by decide
      go_still_tail 13, (by kernel_rfl)
      still_call (refMul_still x1 y2 _ (by constructor <;> assumption) (by constructor <;> assumption))
      refine wpStill_nil ?_
      change wpList _ _ _ _ _ wr.drew
      have HD1 := hide HN0.out.drew
      generalize wr.drew = wd1 at HD1 ⊢
      clear e0 e1 e2 e3
      obtain ⟨e0, e1, e2, e3⟩ := HC.out wd1 HD1.out.bel
      go_wp2_with fail
      refine (refAdd_any _ _ _ _ HD1.out.own).mono ?_
      rintro en w2x ⟨rfl, hb', hk'⟩
      have HN2 := hide (HD1.out.step hb' hk')
      clear hb' hk'
      clear e0 e1 e2 e3
      obtain ⟨e0, e1, e2, e3⟩ := HC.out w2x HN2.out.bel
      go_wp2
      go_roundw
      case rel => exact ⟨3, by omega, by go_num, HN2.out⟩
      case measure => simp [intOf]
    · have hk0 : ((3 : Nat) : Int) = 3 := rfl
      rw [hk0]
      clear hk0
      obtain ⟨e0, e1, e2, e3⟩ := HC.out wr HN0.out.bel
      go_upto_region 16 with (fail)
      have hwk : IntKind.i64.wrap 1 = 1 := by decide
      go_still_tail 13, (by kernel_rfl)
      still_call (refMul_still x2 y2 _ (by constructor <;> assumption) (by constructor <;> assumption))
      refine wpStill_nil ?_
      change wpList _ _ _ _ _ wr.drew
      have HD1 := hide HN0.out.drew
      generalize wr.drew = wd1 at HD1 ⊢
      clear e0 e1 e2 e3
      obtain ⟨e0, e1, e2, e3⟩ := HC.out wd1 HD1.out.bel
      go_wp2_with fail
      refine (refAdd_any _ _ _ _ HD1.out.own).mono ?_
      rintro en w2x ⟨rfl, hb', hk'⟩
      have HN2 := hide (HD1.out.step hb' hk')
      clear hb' hk'
      clear e0 e1 e2 e3
      obtain ⟨e0, e1, e2, e3⟩ := HC.out w2x HN2.out.bel
      go_wp2
      go_roundw
      case rel => exact ⟨4, by omega, by go_num, HN2.out⟩
      case measure => simp [intOf]
    · have hk0 : ((4 : Nat) : Int) = 4 := rfl
      rw [hk0]
      clear hk0
      obtain ⟨e0, e1, e2, e3⟩ := HC.out wr HN0.out.bel
      have HF : Hid (NodeSt w (growL [mulR x1 y1, mulR x2 y1, mulR x1 y2, mulR x2 y2]) wr) := HN0
      obtain ⟨s, hs⟩ : ∃ s, growL [mulR x1 y1, mulR x2 y1, mulR x1 y2, mulR x2 y2] = s := ⟨_, rfl⟩
      rw [hs] at HF
      have HS := hide hs
      clear hs
      obtain ⟨lo, hi, sm⟩ := s
      have c0 : wr.cell? ⟨w.heap.size + 1, 0, none⟩ = some (.int .i64 lo) := HF.out.own.cell 0
      have c1 : wr.cell? ⟨w.heap.size + 1, 1, none⟩ = some (.int .i64 hi) := HF.out.own.cell 1
      have c2 : wr.cell? ⟨w.heap.size + 1, 2, none⟩ = some (.bool sm) := HF.out.own.cell 2
      have r0 : wr.cell? ⟨w.heap.size, 0, none⟩ = some (.int .i64 0) := HF.out.res.cell 0
      have r1 : wr.cell? ⟨w.heap.size, 1, none⟩ = some (.int .i64 0) := HF.out.res.cell 1
      have r2 : wr.cell? ⟨w.heap.size, 2, none⟩ = some (.bool false) := HF.out.res.cell 2
      have f0 := HF.out.res.frozen 0
      have f1 := HF.out.res.frozen 1
      have f2 := HF.out.res.frozen 2
      have HP := hide HF.out.put
      go_wp2
      generalize ((wr.setCell ⟨w.heap.size, 0, none⟩ (.int .i64 lo)).setCell ⟨w.heap.size, 1, none⟩ (.int .i64 hi)).setCell ⟨w.heap.size, 2, none⟩ (.bool sm) = w9 at HP ⊢
      have d0 : w9.cell? ⟨w.heap.size, 0, none⟩ = some (.int .i64 lo) := HP.out.1.cell 0
      have d1 : w9.cell? ⟨w.heap.size, 1, none⟩ = some (.int .i64 hi) := HP.out.1.cell 1
      have d2 : w9.cell? ⟨w.heap.size, 2, none⟩ = some (.bool sm) := HP.out.1.cell 2
      exact bodyPost_ret (v := .agg #[.int .i64 lo, .int .i64 hi, .bool sm]) (by simp [results, Tryz.results25, go_sem, d0, d1, d2]) rfl ⟨by rw [← HRR.out, HS.out]; rfl, HP.out.2⟩
set_option maxHeartbeats 4000000 in
set_option maxRecDepth 20000 in
theorem refNode6 (A : Option Addr) (n c : Nat) (x y : Int × Int) (w : World) (h : RSp w w.heap.size A n [x, y]) (hx : inS x) (hy : inS y) :
    Calls Tryz.prog 25 #[.int .i64 6, .slice A n c] w fun e w' => e = .returned (growV (growL (if y.1 ≤ 0 ∧ 0 ≤ y.2 then [0] ++ (if y.1 < 0 then [divR x.1 y.1, divR x.2 y.1, divR x.1 (-1), divR x.2 (-1)] else []) ++ (if 0 < y.2 then [divR x.1 1, divR x.2 1, divR x.1 y.2, divR x.2 y.2] else []) else [divR x.1 y.1, divR x.2 y.1, divR x.1 y.2, divR x.2 y.2]))) ∧ Below w.heap.size w w' := by
  obtain rfl : 2 = n := h.len
  obtain ⟨b, off, rfl, hb, a0, a1, a2, _, a3⟩ := h.two
  obtain ⟨x1, x2⟩ := x
  obtain ⟨y1, y2⟩ := y
  obtain ⟨⟨p0a, p0b⟩, p0c, p0d⟩ := hx
  obtain ⟨⟨p1a, p1b⟩, p1c, p1d⟩ := hy
  dsimp only at p0a p0b p0c p0d p1a p1b p1c p1d ⊢
  obtain ⟨R, hR⟩ : ∃ R, growL (if y1 ≤ 0 ∧ 0 ≤ y2 then [0] ++ (if y1 < 0 then [divR x1 y1, divR x2 y1, divR x1 (-1), divR x2 (-1)] else []) ++ (if 0 < y2 then [divR x1 1, divR x2 1, divR x1 y2, divR x2 y2] else []) else [divR x1 y1, divR x2 y1, divR x1 y2, divR x2 y2]) = R := ⟨_, rfl⟩
  rw [hR]
  have HRR := hide hR
  clear hR
  have HC : Hid (∀ wq : World, Below w.heap.size w wq → wq.cell? ⟨b, off, none⟩ = some (.int .i64 x1) ∧ wq.cell? ⟨b, off + 1, none⟩ = some (.int .i64 x2) ∧ wq.cell? ⟨b, off + 2, none⟩ = some (.int .i64 y1) ∧ wq.cell? ⟨b, off + 3, none⟩ = some (.int .i64 y2)) := hide (fun wq hq => ⟨(hq.cell (p := ⟨b, off, none⟩) hb).trans a0, (hq.cell (p := ⟨b, off + 1, none⟩) hb).trans a1, (hq.cell (p := ⟨b, off + 2, none⟩) hb).trans a2, (hq.cell (p := ⟨b, off + 3, none⟩) hb).trans a3⟩)
  clear a0 a1 a2 a3 h
  have HN0 := hide (NodeSt.start w)
  go_enter Tryz.func25, Tryz.ntmps25
  go_upto_region 18 with (fail)
  have HX1 : Hid (inB x1) := hide ⟨by assumption, by assumption⟩
  have HX2 : Hid (inB x2) := hide ⟨by assumption, by assumption⟩
  generalize (w.alloc (Obj.cells #[.int .i64 0, .int .i64 0, .bool false] 52)).alloc (Obj.cells #[.int .i64 0, .int .i64 0, .bool false] 52) = w0 at HN0 ⊢
  obtain ⟨e0, e1, e2, e3⟩ := HC.out w0 HN0.out.bel
  have hyb := Blk.new w0 43 #[.int .i64 y1, .int .i64 y2]
  have hbb : Below w0.heap.size w0 (w0.alloc (Obj.cells #[.int .i64 y1, .int .i64 y2] 43)) := (Below.refl _ _).alloc (Nat.le_refl _) _
  have HG : Hid (w0.heap.size ≠ w.heap.size + 1) := hide (by have := HN0.out.own.lt; omega)
  have HN1 := hide (HN0.out.more hbb)
  go_upto_region 19 with (fail)
  clear e0 e1 e2 e3 hbb
  generalize w0.alloc (Obj.cells #[.int .i64 y1, .int .i64 y2] 43) = w1 at hyb HN1 ⊢
  generalize w0.heap.size = gy at hyb HG ⊢
  have HYB := hide hyb
  clear hyb HN0
  cases d1 : decide (y1 ≤ 0)
  · have HR : Hid ((if y1 ≤ 0 ∧ 0 ≤ y2 then [0] ++ (if y1 < 0 then [divR x1 y1, divR x2 y1, divR x1 (-1), divR x2 (-1)] else []) ++ (if 0 < y2 then [divR x1 1, divR x2 1, divR x1 y2, divR x2 y2] else []) else [divR x1 y1, divR x2 y1, divR x1 y2, divR x2 y2]) = ([divR x1 y1, divR x2 y1, divR x1 y2, divR x2 y2] : List Int)) := by
      show _ = _
      rw [if_neg (fun h => of_decide_eq_false d1 h.1)]
      try rfl
    obtain ⟨e0, e1, e2, e3⟩ := HC.out w1 HN1.out.bel
    have ey0 : w1.cell? ⟨gy, 0, none⟩ = some (.int .i64 y1) := HYB.out.cell 0
    have ey1 : w1.cell? ⟨gy, 1, none⟩ = some (.int .i64 y2) := HYB.out.cell 1
    go_upto_region 27 with (fail)
    go_still_tail 5, (by kernel_rfl)
    change wpList _ _ _ _ _ w1.drew
    have HD2 := hide HN1.out.drew
    have HY2 := hide HYB.out.drew
    generalize w1.drew = wd2 at HD2 HY2 ⊢
    clear e0 e1 e2 e3 ey0 ey1
    obtain ⟨e0, e1, e2, e3⟩ := HC.out wd2 HD2.out.bel
    have ey0 : wd2.cell? ⟨gy, 0, none⟩ = some (.int .i64 y1) := HY2.out.cell 0
    have ey1 : wd2.cell? ⟨gy, 1, none⟩ = some (.int .i64 y2) := HY2.out.cell 1
    go_wp2_with fail
    refine (refDivide_any _ _ _ _ _ _ HD2.out.own HX1.out HX2.out).mono ?_
    rintro en w3x ⟨rfl, hb', hk'⟩
    have HN3 := hide (HD2.out.step hb' hk')
    have HV3 := hide (hk'.blk HY2.out HG.out)
    clear hb' hk'
    clear e0 e1 e2 e3 ey0 ey1
    obtain ⟨e0, e1, e2, e3⟩ := HC.out w3x HN3.out.bel
    have ey0 : w3x.cell? ⟨gy, 0, none⟩ = some (.int .i64 y1) := HV3.out.cell 0
    have ey1 : w3x.cell? ⟨gy, 1, none⟩ = some (.int .i64 y2) := HV3.out.cell 1
    go_upto_region 28 with (fail)
    go_still_tail 5, (by kernel_rfl)
    change wpList _ _ _ _ _ w3x.drew
    have HD4 := hide HN3.out.drew
    have HY4 := hide HV3.out.drew
    generalize w3x.drew = wd4 at HD4 HY4 ⊢
    clear e0 e1 e2 e3 ey0 ey1
    obtain ⟨e0, e1, e2, e3⟩ := HC.out wd4 HD4.out.bel
    have ey0 : wd4.cell? ⟨gy, 0, none⟩ = some (.int .i64 y1) := HY4.out.cell 0
    have ey1 : wd4.cell? ⟨gy, 1, none⟩ = some (.int .i64 y2) := HY4.out.cell 1
    go_wp2_with fail
    refine (refDivide_any _ _ _ _ _ _ HD4.out.own HX1.out HX2.out).mono ?_
    rintro en w5x ⟨rfl, hb', hk'⟩
    have HN5 := hide (HD4.out.step hb' hk')
    have HV5 := hide (hk'.blk HY4.out HG.out)
    clear hb' hk'
    clear e0 e1 e2 e3 ey0 ey1
    obtain ⟨e0, e1, e2, e3⟩ := HC.out w5x HN5.out.bel
    have ey0 : w5x.cell? ⟨gy, 0, none⟩ = some (.int .i64 y1) := HV5.out.cell 0
    have ey1 : w5x.cell? ⟨gy, 1, none⟩ = some (.int .i64 y2) := HV5.out.cell 1
    have HF : Hid (NodeSt w (growL [divR x1 y1, divR x2 y1, divR x1 y2, divR x2 y2]) w5x) := HN5
    obtain ⟨s, hs⟩ : ∃ s, growL [divR x1 y1, divR x2 y1, divR x1 y2, divR x2 y2] = s := ⟨_, rfl⟩
    rw [hs] at HF
    have HS := hide hs
    clear hs
    obtain ⟨lo, hi, sm⟩ := s
    have c0 : w5x.cell? ⟨w.heap.size + 1, 0, none⟩ = some (.int .i64 lo) := HF.out.own.cell 0
    have c1 : w5x.cell? ⟨w.heap.size + 1, 1, none⟩ = some (.int .i64 hi) := HF.out.own.cell 1
    have c2 : w5x.cell? ⟨w.heap.size + 1, 2, none⟩ = some (.bool sm) := HF.out.own.cell 2
    have r0 : w5x.cell? ⟨w.heap.size, 0, none⟩ = some (.int .i64 0) := HF.out.res.cell 0
    have r1 : w5x.cell? ⟨w.heap.size, 1, none⟩ = some (.int .i64 0) := HF.out.res.cell 1
    have r2 : w5x.cell? ⟨w.heap.size, 2, none⟩ = some (.bool false) := HF.out.res.cell 2
    have f0 := HF.out.res.frozen 0
    have f1 := HF.out.res.frozen 1
    have f2 := HF.out.res.frozen 2
    have HP := hide HF.out.put
    go_wp2
    generalize ((w5x.setCell ⟨w.heap.size, 0, none⟩ (.int .i64 lo)).setCell ⟨w.heap.size, 1, none⟩ (.int .i64 hi)).setCell ⟨w.heap.size, 2, none⟩ (.bool sm) = w9 at HP ⊢
    have d0 : w9.cell? ⟨w.heap.size, 0, none⟩ = some (.int .i64 lo) := HP.out.1.cell 0
    have d1 : w9.cell? ⟨w.heap.size, 1, none⟩ = some (.int .i64 hi) := HP.out.1.cell 1
    have d2 : w9.cell? ⟨w.heap.size, 2, none⟩ = some (.bool sm) := HP.out.1.cell 2
    exact bodyPost_ret (v := .agg #[.int .i64 lo, .int .i64 hi, .bool sm]) (by simp [results, Tryz.results25, go_sem, d0, d1, d2]) rfl ⟨by rw [← HRR.out, HR.out, HS.out]; rfl, HP.out.2⟩
  · cases d2 : decide (0 ≤ y2)
    · have HR : Hid ((if y1 ≤ 0 ∧ 0 ≤ y2 then [0] ++ (if y1 < 0 then [divR x1 y1, divR x2 y1, divR x1 (-1), divR x2 (-1)] else []) ++ (if 0 < y2 then [divR x1 1, divR x2 1, divR x1 y2, divR x2 y2] else []) else [divR x1 y1, divR x2 y1, divR x1 y2, divR x2 y2]) = ([divR x1 y1, divR x2 y1, divR x1 y2, divR x2 y2] : List Int)) := by
        show _ = _
        rw [if_neg (fun h => of_decide_eq_false d2 h.2)]
        try rfl
      obtain ⟨e0, e1, e2, e3⟩ := HC.out w1 HN1.out.bel
      have ey0 : w1.cell? ⟨gy, 0, none⟩ = some (.int .i64 y1) := HYB.out.cell 0
      have ey1 : w1.cell? ⟨gy, 1, none⟩ = some (.int .i64 y2) := HYB.out.cell 1
      go_upto_region 27 with (fail)
      go_still_tail 5, (by kernel_rfl)
      change wpList _ _ _ _ _ w1.drew
      have HD2 := hide HN1.out.drew
      have HY2 := hide HYB.out.drew
      generalize w1.drew = wd2 at HD2 HY2 ⊢
      clear e0 e1 e2 e3 ey0 ey1
      obtain ⟨e0, e1, e2, e3⟩ := HC.out wd2 HD2.out.bel
      have ey0 : wd2.cell? ⟨gy, 0, none⟩ = some (.int .i64 y1) := HY2.out.cell 0
      have ey1 : wd2.cell? ⟨gy, 1, none⟩ = some (.int .i64 y2) := HY2.out.cell 1
      go_wp2_with fail
      refine (refDivide_any _ _ _ _ _ _ HD2.out.own HX1.out HX2.out).mono ?_
      rintro en w3x ⟨rfl, hb', hk'⟩
      have HN3 := hide (HD2.out.step hb' hk')
      have HV3 := hide (hk'.blk HY2.out HG.out)
      clear hb' hk'
      clear e0 e1 e2 e3 ey0 ey1
      obtain ⟨e0, e1, e2, e3⟩ := HC.out w3x HN3.out.bel
      have ey0 : w3x.cell? ⟨gy, 0, none⟩ = some (.int .i64 y1) := HV3.out.cell 0
      have ey1 : w3x.cell? ⟨gy, 1, none⟩ = some (.int .i64 y2) := HV3.out.cell 1
      go_upto_region 28 with (fail)
      go_still_tail 5, (by kernel_rfl)
      change wpList _ _ _ _ _ w3x.drew
      have HD4 := hide HN3.out.drew
      have HY4 := hide HV3.out.drew
      generalize w3x.drew = wd4 at HD4 HY4 ⊢
      clear e0 e1 e2 e3 ey0 ey1
      obtain ⟨e0, e1, e2, e3⟩ := HC.out wd4 HD4.out.bel
      have ey0 : wd4.cell? ⟨gy, 0, none⟩ = some (.int .i64 y1) := HY4.out.cell 0
      have ey1 : wd4.cell? ⟨gy, 1, none⟩ = some (.int .i64 y2) := HY4.out.cell 1
      go_wp2_with fail
      refine (refDivide_any _ _ _ _ _ _ HD4.out.own HX1.out HX2.out).mono ?_
      rintro en w5x ⟨rfl, hb', hk'⟩
      have HN5 := hide (HD4.out.step hb' hk')
      have HV5 := hide (hk'.blk HY4.out HG.out)
      clear hb' hk'
      clear e0 e1 e2 e3 ey0 ey1
      obtain ⟨e0, e1, e2, e3⟩ := HC.out w5x HN5.out.bel
      have ey0 : w5x.cell? ⟨gy, 0, none⟩ = some (.int .i64 y1) := HV5.out.cell 0
      have ey1 : w5x.cell? ⟨gy, 1, none⟩ = some (.int .i64 y2) := HV5.out.cell 1
      have HF : Hid (NodeSt w (growL [divR x1 y1, divR x2 y1, divR x1 y2, divR x2 y2]) w5x) := HN5
      obtain ⟨s, hs⟩ : ∃ s, growL [divR x1 y1, divR x2 y1, divR x1 y2, divR x2 y2] = s := ⟨_, rfl⟩
      rw [hs] at HF
      have HS := hide hs
      clear hs
      obtain ⟨lo, hi, sm⟩ := s
      have c0 : w5x.cell? ⟨w.heap.size + 1, 0, none⟩ = some (.int .i64 lo) := HF.out.own.cell 0
      have c1 : w5x.cell? ⟨w.heap.size + 1, 1, none⟩ = some (.int .i64 hi) := HF.out.own.cell 1
      have c2 : w5x.cell? ⟨w.heap.size + 1, 2, none⟩ = some (.bool sm) := HF.out.own.cell 2
      have r0 : w5x.cell? ⟨w.heap.size, 0, none⟩ = some (.int .i64 0) := HF.out.res.cell 0
      have r1 : w5x.cell? ⟨w.heap.size, 1, none⟩ = some (.int .i64 0) := HF.out.res.cell 1
      have r2 : w5x.cell? ⟨w.heap.size, 2, none⟩ = some (.bool false) := HF.out.res.cell 2
      have f0 := HF.out.res.frozen 0
      have f1 := HF.out.res.frozen 1
      have f2 := HF.out.res.frozen 2
      have HP := hide HF.out.put
      go_wp2
      generalize ((w5x.setCell ⟨w.heap.size, 0, none⟩ (.int .i64 lo)).setCell ⟨w.heap.size, 1, none⟩ (.int .i64 hi)).setCell ⟨w.heap.size, 2, none⟩ (.bool sm) = w9 at HP ⊢
      have d0 : w9.cell? ⟨w.heap.size, 0, none⟩ = some (.int .i64 lo) := HP.out.1.cell 0
      have d1 : w9.cell? ⟨w.heap.size, 1, none⟩ = some (.int .i64 hi) := HP.out.1.cell 1
      have d2 : w9.cell? ⟨w.heap.size, 2, none⟩ = some (.bool sm) := HP.out.1.cell 2
      exact bodyPost_ret (v := .agg #[.int .i64 lo, .int .i64 hi, .bool sm]) (by simp [results, Tryz.results25, go_sem, d0, d1, d2]) rfl ⟨by rw [← HRR.out, HR.out, HS.out]; rfl, HP.out.2⟩
    · cases d3 : decide (y1 < 0)
      · cases d4 : decide (0 < y2)
        · have HR : Hid ((if y1 ≤ 0 ∧ 0 ≤ y2 then [0] ++ (if y1 < 0 then [divR x1 y1, divR x2 y1, divR x1 (-1), divR x2 (-1)] else []) ++ (if 0 < y2 then [divR x1 1, divR x2 1, divR x1 y2, divR x2 y2] else []) else [divR x1 y1, divR x2 y1, divR x1 y2, divR x2 y2]) = ([0] : List Int)) := by
            show _ = _
            rw [if_pos ⟨of_decide_eq_true d1, of_decide_eq_true d2⟩, if_neg (of_decide_eq_false d3), if_neg (of_decide_eq_false d4)]
            try rfl
          obtain ⟨e0, e1, e2, e3⟩ := HC.out w1 HN1.out.bel
          have ey0 : w1.cell? ⟨gy, 0, none⟩ = some (.int .i64 y1) := HYB.out.cell 0
          have ey1 : w1.cell? ⟨gy, 1, none⟩ = some (.int .i64 y2) := HYB.out.cell 1
          go_wp2_with fail
          refine (refAdd_any _ _ _ _ HN1.out.own).mono ?_
          rintro en w2x ⟨rfl, hb', hk'⟩
          have HN2 := hide (HN1.out.step hb' hk')
          have HV2 := hide (hk'.blk HYB.out HG.out)
          clear hb' hk'
          clear e0 e1 e2 e3 ey0 ey1
          obtain ⟨e0, e1, e2, e3⟩ := HC.out w2x HN2.out.bel
          have ey0 : w2x.cell? ⟨gy, 0, none⟩ = some (.int .i64 y1) := HV2.out.cell 0
          have ey1 : w2x.cell? ⟨gy, 1, none⟩ = some (.int .i64 y2) := HV2.out.cell 1
          have HF : Hid (NodeSt w (growL [0]) w2x) := HN2
          obtain ⟨s, hs⟩ : ∃ s, growL [0] = s := ⟨_, rfl⟩
          rw [hs] at HF
          have HS := hide hs
          clear hs
          obtain ⟨lo, hi, sm⟩ := s
          have c0 : w2x.cell? ⟨w.heap.size + 1, 0, none⟩ = some (.int .i64 lo) := HF.out.own.cell 0
          have c1 : w2x.cell? ⟨w.heap.size + 1, 1, none⟩ = some (.int .i64 hi) := HF.out.own.cell 1
          have c2 : w2x.cell? ⟨w.heap.size + 1, 2, none⟩ = some (.bool sm) := HF.out.own.cell 2
          have r0 : w2x.cell? ⟨w.heap.size, 0, none⟩ = some (.int .i64 0) := HF.out.res.cell 0
          have r1 : w2x.cell? ⟨w.heap.size, 1, none⟩ = some (.int .i64 0) := HF.out.res.cell 1
          have r2 : w2x.cell? ⟨w.heap.size, 2, none⟩ = some (.bool false) := HF.out.res.cell 2
          have f0 := HF.out.res.frozen 0
          have f1 := HF.out.res.frozen 1
          have f2 := HF.out.res.frozen 2
          have HP := hide HF.out.put
          go_wp2
          generalize ((w2x.setCell ⟨w.heap.size, 0, none⟩ (.int .i64 lo)).setCell ⟨w.heap.size, 1, none⟩ (.int .i64 hi)).setCell ⟨w.heap.size, 2, none⟩ (.bool sm) = w9 at HP ⊢
          have d0 : w9.cell? ⟨w.heap.size, 0, none⟩ = some (.int .i64 lo) := HP.out.1.cell 0
          have d1 : w9.cell? ⟨w.heap.size, 1, none⟩ = some (.int .i64 hi) := HP.out.1.cell 1
          have d2 : w9.cell? ⟨w.heap.size, 2, none⟩ = some (.bool sm) := HP.out.1.cell 2
          exact bodyPost_ret (v := .agg #[.int .i64 lo, .int .i64 hi, .bool sm]) (by simp [results, Tryz.results25, go_sem, d0, d1, d2]) rfl ⟨by rw [← HRR.out, HR.out, HS.out]; rfl, HP.out.2⟩
        · have HR : Hid ((if y1 ≤ 0 ∧ 0 ≤ y2 then [0] ++ (if y1 < 0 then [divR x1 y1, divR x2 y1, divR x1 (-1), divR x2 (-1)] else []) ++ (if 0 < y2 then [divR x1 1, divR x2 1, divR x1 y2, divR x2 y2] else []) else [divR x1 y1, divR x2 y1, divR x1 y2, divR x2 y2]) = ([0, divR x1 1, divR x2 1, divR x1 y2, divR x2 y2] : List Int)) := by
            show _ = _
            rw [if_pos ⟨of_decide_eq_true d1, of_decide_eq_true d2⟩, if_neg (of_decide_eq_false d3), if_pos (of_decide_eq_true d4)]
            try rfl
          obtain ⟨e0, e1, e2, e3⟩ := HC.out w1 HN1.out.bel
          have ey0 : w1.cell? ⟨gy, 0, none⟩ = some (.int .i64 y1) := HYB.out.cell 0
          have ey1 : w1.cell? ⟨gy, 1, none⟩ = some (.int .i64 y2) := HYB.out.cell 1
          go_wp2_with fail
          refine (refAdd_any _ _ _ _ HN1.out.own).mono ?_
          rintro en w2x ⟨rfl, hb', hk'⟩
          have HN2 := hide (HN1.out.step hb' hk')
          have HV2 := hide (hk'.blk HYB.out HG.out)
          clear hb' hk'
          clear e0 e1 e2 e3 ey0 ey1
          obtain ⟨e0, e1, e2, e3⟩ := HC.out w2x HN2.out.bel
          have ey0 : w2x.cell? ⟨gy, 0, none⟩ = some (.int .i64 y1) := HV2.out.cell 0
          have ey1 : w2x.cell? ⟨gy, 1, none⟩ = some (.int .i64 y2) := HV2.out.cell 1
          go_wp2_with fail
          refine (refDivide_any _ _ _ _ _ _ HN2.out.own HX1.out HX2.out).mono ?_
          rintro en w3x ⟨rfl, hb', hk'⟩
          have HN3 := hide (HN2.out.step hb' hk')
          have HV3 := hide (hk'.blk HV2.out HG.out)
          clear hb' hk'
          clear e0 e1 e2 e3 ey0 ey1
          obtain ⟨e0, e1, e2, e3⟩ := HC.out w3x HN3.out.bel
          have ey0 : w3x.cell? ⟨gy, 0, none⟩ = some (.int .i64 y1) := HV3.out.cell 0
          have ey1 : w3x.cell? ⟨gy, 1, none⟩ = some (.int .i64 y2) := HV3.out.cell 1
          go_upto_region 26 with (fail)
          go_still_tail 5, (by kernel_rfl)
          change wpList _ _ _ _ _ w3x.drew
          have HD4 := hide HN3.out.drew
          have HY4 := hide HV3.out.drew
          generalize w3x.drew = wd4 at HD4 HY4 ⊢
          clear e0 e1 e2 e3 ey0 ey1
          obtain ⟨e0, e1, e2, e3⟩ := HC.out wd4 HD4.out.bel
          have ey0 : wd4.cell? ⟨gy, 0, none⟩ = some (.int .i64 y1) := HY4.out.cell 0
          have ey1 : wd4.cell? ⟨gy, 1, none⟩ = some (.int .i64 y2) := HY4.out.cell 1
          go_wp2_with fail
          refine (refDivide_any _ _ _ _ _ _ HD4.out.own HX1.out HX2.out).mono ?_
          rintro en w5x ⟨rfl, hb', hk'⟩
          have HN5 := hide (HD4.out.step hb' hk')
          have HV5 := hide (hk'.blk HY4.out HG.out)
          clear hb' hk'
          clear e0 e1 e2 e3 ey0 ey1
          obtain ⟨e0, e1, e2, e3⟩ := HC.out w5x HN5.out.bel
          have ey0 : w5x.cell? ⟨gy, 0, none⟩ = some (.int .i64 y1) := HV5.out.cell 0
          have ey1 : w5x.cell? ⟨gy, 1, none⟩ = some (.int .i64 y2) := HV5.out.cell 1
          have HF : Hid (NodeSt w (growL [0, divR x1 1, divR x2 1, divR x1 y2, divR x2 y2]) w5x) := HN5
          obtain ⟨s, hs⟩ : ∃ s, growL [0, divR x1 1, divR x2 1, divR x1 y2, divR x2 y2] = s := ⟨_, rfl⟩
          rw [hs] at HF
          have HS := hide hs
          clear hs
          obtain ⟨lo, hi, sm⟩ := s
          have c0 : w5x.cell? ⟨w.heap.size + 1, 0, none⟩ = some (.int .i64 lo) := HF.out.own.cell 0
          have c1 : w5x.cell? ⟨w.heap.size + 1, 1, none⟩ = some (.int .i64 hi) := HF.out.own.cell 1
          have c2 : w5x.cell? ⟨w.heap.size + 1, 2, none⟩ = some (.bool sm) := HF.out.own.cell 2
          have r0 : w5x.cell? ⟨w.heap.size, 0, none⟩ = some (.int .i64 0) := HF.out.res.cell 0
          have r1 : w5x.cell? ⟨w.heap.size, 1, none⟩ = some (.int .i64 0) := HF.out.res.cell 1
          have r2 : w5x.cell? ⟨w.heap.size, 2, none⟩ = some (.bool false) := HF.out.res.cell 2
          have f0 := HF.out.res.frozen 0
          have f1 := HF.out.res.frozen 1
          have f2 := HF.out.res.frozen 2
          have HP := hide HF.out.put
          go_wp2
          generalize ((w5x.setCell ⟨w.heap.size, 0, none⟩ (.int .i64 lo)).setCell ⟨w.heap.size, 1, none⟩ (.int .i64 hi)).setCell ⟨w.heap.size, 2, none⟩ (.bool sm) = w9 at HP ⊢
          have d0 : w9.cell? ⟨w.heap.size, 0, none⟩ = some (.int .i64 lo) := HP.out.1.cell 0
          have d1 : w9.cell? ⟨w.heap.size, 1, none⟩ = some (.int .i64 hi) := HP.out.1.cell 1
          have d2 : w9.cell? ⟨w.heap.size, 2, none⟩ = some (.bool sm) := HP.out.1.cell 2
          exact bodyPost_ret (v := .agg #[.int .i64 lo, .int .i64 hi, .bool sm]) (by simp [results, Tryz.results25, go_sem, d0, d1, d2]) rfl ⟨by rw [← HRR.out, HR.out, HS.out]; rfl, HP.out.2⟩
      · cases d4 : decide (0 < y2)
        · have HR : Hid ((if y1 ≤ 0 ∧ 0 ≤ y2 then [0] ++ (if y1 < 0 then [divR x1 y1, divR x2 y1, divR x1 (-1), divR x2 (-1)] else []) ++ (if 0 < y2 then [divR x1 1, divR x2 1, divR x1 y2, divR x2 y2] else []) else [divR x1 y1, divR x2 y1, divR x1 y2, divR x2 y2]) = ([0, divR x1 y1, divR x2 y1, divR x1 (-1), divR x2 (-1)] : List Int)) := by
            show _ = _
            rw [if_pos ⟨of_decide_eq_true d1, of_decide_eq_true d2⟩, if_pos (of_decide_eq_true d3), if_neg (of_decide_eq_false d4)]
            try rfl
          obtain ⟨e0, e1, e2, e3⟩ := HC.out w1 HN1.out.bel
          have ey0 : w1.cell? ⟨gy, 0, none⟩ = some (.int .i64 y1) := HYB.out.cell 0
          have ey1 : w1.cell? ⟨gy, 1, none⟩ = some (.int .i64 y2) := HYB.out.cell 1
          go_wp2_with fail
          refine (refAdd_any _ _ _ _ HN1.out.own).mono ?_
          rintro en w2x ⟨rfl, hb', hk'⟩
          have HN2 := hide (HN1.out.step hb' hk')
          have HV2 := hide (hk'.blk HYB.out HG.out)
          clear hb' hk'
          clear e0 e1 e2 e3 ey0 ey1
          obtain ⟨e0, e1, e2, e3⟩ := HC.out w2x HN2.out.bel
          have ey0 : w2x.cell? ⟨gy, 0, none⟩ = some (.int .i64 y1) := HV2.out.cell 0
          have ey1 : w2x.cell? ⟨gy, 1, none⟩ = some (.int .i64 y2) := HV2.out.cell 1
          go_upto_region 22 with (fail)
          go_still_tail 5, (by kernel_rfl)
          change wpList _ _ _ _ _ w2x.drew
          have HD3 := hide HN2.out.drew
          have HY3 := hide HV2.out.drew
          generalize w2x.drew = wd3 at HD3 HY3 ⊢
          clear e0 e1 e2 e3 ey0 ey1
          obtain ⟨e0, e1, e2, e3⟩ := HC.out wd3 HD3.out.bel
          have ey0 : wd3.cell? ⟨gy, 0, none⟩ = some (.int .i64 y1) := HY3.out.cell 0
          have ey1 : wd3.cell? ⟨gy, 1, none⟩ = some (.int .i64 y2) := HY3.out.cell 1
          go_wp2_with fail
          refine (refDivide_any _ _ _ _ _ _ HD3.out.own HX1.out HX2.out).mono ?_
          rintro en w4x ⟨rfl, hb', hk'⟩
          have HN4 := hide (HD3.out.step hb' hk')
          have HV4 := hide (hk'.blk HY3.out HG.out)
          clear hb' hk'
          clear e0 e1 e2 e3 ey0 ey1
          obtain ⟨e0, e1, e2, e3⟩ := HC.out w4x HN4.out.bel
          have ey0 : w4x.cell? ⟨gy, 0, none⟩ = some (.int .i64 y1) := HV4.out.cell 0
          have ey1 : w4x.cell? ⟨gy, 1, none⟩ = some (.int .i64 y2) := HV4.out.cell 1
          go_wp2_with fail
          refine (refDivide_any _ _ _ _ _ _ HN4.out.own HX1.out HX2.out).mono ?_
          rintro en w5x ⟨rfl, hb', hk'⟩
          have HN5 := hide (HN4.out.step hb' hk')
          have HV5 := hide (hk'.blk HV4.out HG.out)
          clear hb' hk'
          clear e0 e1 e2 e3 ey0 ey1
          obtain ⟨e0, e1, e2, e3⟩ := HC.out w5x HN5.out.bel
          have ey0 : w5x.cell? ⟨gy, 0, none⟩ = some (.int .i64 y1) := HV5.out.cell 0
          have ey1 : w5x.cell? ⟨gy, 1, none⟩ = some (.int .i64 y2) := HV5.out.cell 1
          have HF : Hid (NodeSt w (growL [0, divR x1 y1, divR x2 y1, divR x1 (-1), divR x2 (-1)]) w5x) := HN5
          obtain ⟨s, hs⟩ : ∃ s, growL [0, divR x1 y1, divR x2 y1, divR x1 (-1), divR x2 (-1)] = s := ⟨_, rfl⟩
          rw [hs] at HF
          have HS := hide hs
          clear hs
          obtain ⟨lo, hi, sm⟩ := s
          have c0 : w5x.cell? ⟨w.heap.size + 1, 0, none⟩ = some (.int .i64 lo) := HF.out.own.cell 0
          have c1 : w5x.cell? ⟨w.heap.size + 1, 1, none⟩ = some (.int .i64 hi) := HF.out.own.cell 1
          have c2 : w5x.cell? ⟨w.heap.size + 1, 2, none⟩ = some (.bool sm) := HF.out.own.cell 2
          have r0 : w5x.cell? ⟨w.heap.size, 0, none⟩ = some (.int .i64 0) := HF.out.res.cell 0
          have r1 : w5x.cell? ⟨w.heap.size, 1, none⟩ = some (.int .i64 0) := HF.out.res.cell 1
          have r2 : w5x.cell? ⟨w.heap.size, 2, none⟩ = some (.bool false) := HF.out.res.cell 2
          have f0 := HF.out.res.frozen 0
          have f1 := HF.out.res.frozen 1
          have f2 := HF.out.res.frozen 2
          have HP := hide HF.out.put
          go_wp2
          generalize ((w5x.setCell ⟨w.heap.size, 0, none⟩ (.int .i64 lo)).setCell ⟨w.heap.size, 1, none⟩ (.int .i64 hi)).setCell ⟨w.heap.size, 2, none⟩ (.bool sm) = w9 at HP ⊢
          have d0 : w9.cell? ⟨w.heap.size, 0, none⟩ = some (.int .i64 lo) := HP.out.1.cell 0
          have d1 : w9.cell? ⟨w.heap.size, 1, none⟩ = some (.int .i64 hi) := HP.out.1.cell 1
          have d2 : w9.cell? ⟨w.heap.size, 2, none⟩ = some (.bool sm) := HP.out.1.cell 2
          exact bodyPost_ret (v := .agg #[.int .i64 lo, .int .i64 hi, .bool sm]) (by simp [results, Tryz.results25, go_sem, d0, d1, d2]) rfl ⟨by rw [← HRR.out, HR.out, HS.out]; rfl, HP.out.2⟩
        · have HR : Hid ((if y1 ≤ 0 ∧ 0 ≤ y2 then [0] ++ (if y1 < 0 then [divR x1 y1, divR x2 y1, divR x1 (-1), divR x2 (-1)] else []) ++ (if 0 < y2 then [divR x1 1, divR x2 1, divR x1 y2, divR x2 y2] else []) else [divR x1 y1, divR x2 y1, divR x1 y2, divR x2 y2]) = ([0, divR x1 y1, divR x2 y1, divR x1 (-1), divR x2 (-1), divR x1 1, divR x2 1, divR x1 y2, divR x2 y2] : List Int)) := by
            show _ = _
            rw [if_pos ⟨of_decide_eq_true d1, of_decide_eq_true d2⟩, if_pos (of_decide_eq_true d3), if_pos (of_decide_eq_true d4)]
            try rfl
          obtain ⟨e0, e1, e2, e3⟩ := HC.out w1 HN1.out.bel
          have ey0 : w1.cell? ⟨gy, 0, none⟩ = some (.int .i64 y1) := HYB.out.cell 0
          have ey1 : w1.cell? ⟨gy, 1, none⟩ = some (.int .i64 y2) := HYB.out.cell 1
          go_wp2_with fail
          refine (refAdd_any _ _ _ _ HN1.out.own).mono ?_
          rintro en w2x ⟨rfl, hb', hk'⟩
          have HN2 := hide (HN1.out.step hb' hk')
          have HV2 := hide (hk'.blk HYB.out HG.out)
          clear hb' hk'
          clear e0 e1 e2 e3 ey0 ey1
          obtain ⟨e0, e1, e2, e3⟩ := HC.out w2x HN2.out.bel
          have ey0 : w2x.cell? ⟨gy, 0, none⟩ = some (.int .i64 y1) := HV2.out.cell 0
          have ey1 : w2x.cell? ⟨gy, 1, none⟩ = some (.int .i64 y2) := HV2.out.cell 1
          go_upto_region 22 with (fail)
          go_still_tail 5, (by kernel_rfl)
          change wpList _ _ _ _ _ w2x.drew
          have HD3 := hide HN2.out.drew
          have HY3 := hide HV2.out.drew
          generalize w2x.drew = wd3 at HD3 HY3 ⊢
          clear e0 e1 e2 e3 ey0 ey1
          obtain ⟨e0, e1, e2, e3⟩ := HC.out wd3 HD3.out.bel
          have ey0 : wd3.cell? ⟨gy, 0, none⟩ = some (.int .i64 y1) := HY3.out.cell 0
          have ey1 : wd3.cell? ⟨gy, 1, none⟩ = some (.int .i64 y2) := HY3.out.cell 1
          go_wp2_with fail
          refine (refDivide_any _ _ _ _ _ _ HD3.out.own HX1.out HX2.out).mono ?_
          rintro en w4x ⟨rfl, hb', hk'⟩
          have HN4 := hide (HD3.out.step hb' hk')
          have HV4 := hide (hk'.blk HY3.out HG.out)
          clear hb' hk'
          clear e0 e1 e2 e3 ey0 ey1
          obtain ⟨e0, e1, e2, e3⟩ := HC.out w4x HN4.out.bel
          have ey0 : w4x.cell? ⟨gy, 0, none⟩ = some (.int .i64 y1) := HV4.out.cell 0
          have ey1 : w4x.cell? ⟨gy, 1, none⟩ = some (.int .i64 y2) := HV4.out.cell 1
          go_wp2_with fail
          refine (refDivide_any _ _ _ _ _ _ HN4.out.own HX1.out HX2.out).mono ?_
          rintro en w5x ⟨rfl, hb', hk'⟩
          have HN5 := hide (HN4.out.step hb' hk')
          have HV5 := hide (hk'.blk HV4.out HG.out)
          clear hb' hk'
          clear e0 e1 e2 e3 ey0 ey1
          obtain ⟨e0, e1, e2, e3⟩ := HC.out w5x HN5.out.bel
          have ey0 : w5x.cell? ⟨gy, 0, none⟩ = some (.int .i64 y1) := HV5.out.cell 0
          have ey1 : w5x.cell? ⟨gy, 1, none⟩ = some (.int .i64 y2) := HV5.out.cell 1
          go_wp2_with fail
          refine (refDivide_any _ _ _ _ _ _ HN5.out.own HX1.out HX2.out).mono ?_
          rintro en w6x ⟨rfl, hb', hk'⟩
          have HN6 := hide (HN5.out.step hb' hk')
          have HV6 := hide (hk'.blk HV5.out HG.out)
          clear hb' hk'
          clear e0 e1 e2 e3 ey0 ey1
          obtain ⟨e0, e1, e2, e3⟩ := HC.out w6x HN6.out.bel
          have ey0 : w6x.cell? ⟨gy, 0, none⟩ = some (.int .i64 y1) := HV6.out.cell 0
          have ey1 : w6x.cell? ⟨gy, 1, none⟩ = some (.int .i64 y2) := HV6.out.cell 1
          go_upto_region 26 with (fail)
          go_still_tail 5, (by kernel_rfl)
          change wpList _ _ _ _ _ w6x.drew
          have HD7 := hide HN6.out.drew
          have HY7 := hide HV6.out.drew
          generalize w6x.drew = wd7 at HD7 HY7 ⊢
          clear e0 e1 e2 e3 ey0 ey1
          obtain ⟨e0, e1, e2, e3⟩ := HC.out wd7 HD7.out.bel
          have ey0 : wd7.cell? ⟨gy, 0, none⟩ = some (.int .i64 y1) := HY7.out.cell 0
          have ey1 : wd7.cell? ⟨gy, 1, none⟩ = some (.int .i64 y2) := HY7.out.cell 1
          go_wp2_with fail
          refine (refDivide_any _ _ _ _ _ _ HD7.out.own HX1.out HX2.out).mono ?_
          rintro en w8x ⟨rfl, hb', hk'⟩
          have HN8 := hide (HD7.out.step hb' hk')
          have HV8 := hide (hk'.blk HY7.out HG.out)
          clear hb' hk'
          clear e0 e1 e2 e3 ey0 ey1
          obtain ⟨e0, e1, e2, e3⟩ := HC.out w8x HN8.out.bel
          have ey0 : w8x.cell? ⟨gy, 0, none⟩ = some (.int .i64 y1) := HV8.out.cell 0
          have ey1 : w8x.cell? ⟨gy, 1, none⟩ = some (.int .i64 y2) := HV8.out.cell 1
          have HF : Hid (NodeSt w (growL [0, divR x1 y1, divR x2 y1, divR x1 (-1), divR x2 (-1), divR x1 1, divR x2 1, divR x1 y2, divR x2 y2]) w8x) := HN8
          obtain ⟨s, hs⟩ : ∃ s, growL [0, divR x1 y1, divR x2 y1, divR x1 (-1), divR x2 (-1), divR x1 1, divR x2 1, divR x1 y2, divR x2 y2] = s := ⟨_, rfl⟩
          rw [hs] at HF
          have HS := hide hs
          clear hs
          obtain ⟨lo, hi, sm⟩ := s
          have c0 : w8x.cell? ⟨w.heap.size + 1, 0, none⟩ = some (.int .i64 lo) := HF.out.own.cell 0
          have c1 : w8x.cell? ⟨w.heap.size + 1, 1, none⟩ = some (.int .i64 hi) := HF.out.own.cell 1
          have c2 : w8x.cell? ⟨w.heap.size + 1, 2, none⟩ = some (.bool sm) := HF.out.own.cell 2
          have r0 : w8x.cell? ⟨w.heap.size, 0, none⟩ = some (.int .i64 0) := HF.out.res.cell 0
          have r1 : w8x.cell? ⟨w.heap.size, 1, none⟩ = some (.int .i64 0) := HF.out.res.cell 1
          have r2 : w8x.cell? ⟨w.heap.size, 2, none⟩ = some (.bool false) := HF.out.res.cell 2
          have f0 := HF.out.res.frozen 0
          have f1 := HF.out.res.frozen 1
          have f2 := HF.out.res.frozen 2
          have HP := hide HF.out.put
          go_wp2
          generalize ((w8x.setCell ⟨w.heap.size, 0, none⟩ (.int .i64 lo)).setCell ⟨w.heap.size, 1, none⟩ (.int .i64 hi)).setCell ⟨w.heap.size, 2, none⟩ (.bool sm) = w9 at HP ⊢
          have d0 : w9.cell? ⟨w.heap.size, 0, none⟩ = some (.int .i64 lo) := HP.out.1.cell 0
          have d1 : w9.cell? ⟨w.heap.size, 1, none⟩ = some (.int .i64 hi) := HP.out.1.cell 1
          have d2 : w9.cell? ⟨w.heap.size, 2, none⟩ = some (.bool sm) := HP.out.1.cell 2
          exact bodyPost_ret (v := .agg #[.int .i64 lo, .int .i64 hi, .bool sm]) (by simp [results, Tryz.results25, go_sem, d0, d1, d2]) rfl ⟨by rw [← HRR.out, HR.out, HS.out]; rfl, HP.out.2⟩
end Go.Proofs.YtnlcfbaaomdjdaaGreatDoor
