/-
  Chapter 17, the laws' head: the walk.
-/
import Derived.Test.YtlkgoljpjeieiaaGreatDoorHeadN
set_option linter.unusedVariables false
set_option linter.unusedSimpArgs false
namespace Go.Proofs.YtlkgoljpjeieiaaGreatDoor
open Go.RowKit Go.Deep Go.Maps

theorem rd_lit (w : World) (cs : Array Value) (l : List (Int × Nat)) (N : Nat) (hl : cs.toList = cellsO l) (hn : cs.size = N * 2) : RD (w.alloc (.cells cs 38)) (w.alloc (.cells cs 38)).heap.size (some ⟨w.heap.size, 0, none⟩) N l := by
  have := reads_new w cs 38 2 N hn
  unfold RD
  rw [← hl]
  simpa using this
theorem lit_n2 : NS 2 = ⟨#[50]⟩ := by unfold NS; rw [Lib.decDigits, dif_pos (by decide)]; rfl
set_option maxHeartbeats 2000000 in
set_option maxRecDepth 100000 in
theorem head17_any (w : World) (hp : Pow w) : Calls Tryz.prog 9 #[] w fun en w' => en = .returned (.bool true) ∧ Below w.heap.size w w' := by
  have STEP : Hid (∀ w1 w2 : World, (Below w.heap.size w w1 ∧ Pow w1) → Below w1.heap.size w1 w2 → (Below w.heap.size w w2 ∧ Pow w2)) := hide (fun w1 w2 h h2 => ⟨h.1.trans (h2.mono h.1.size), h.2.below h2 h.2.lt⟩)
  have LIT : Hid (∀ (w1 : World) (cs : Array Value) (t : TypeId), Below w1.heap.size w1 (w1.alloc (.cells cs t))) := hide (fun w1 cs t => (Below.refl _ _).alloc (Nat.le_refl _) _)
  have K0 : Hid (Below w.heap.size w w ∧ Pow w) := hide ⟨Below.refl _ _, hp⟩
  clear hp
  go_enter Tryz.func9, Tryz.ntmps9
  go_wp2_with fail
  have K1 := hide (STEP.out _ _ K0.out (LIT.out w #[.int .i64 (-1), .int .i64 1] 3))
  refine (h1_any w.heap.size 2 _ (RI.lit w [-1, 1] 2 3 rfl) K1.out.2).mono ?_
  rintro en w1 ⟨A1, c1, rfl, r1, b1⟩
  have K1' := hide (STEP.out _ _ K1.out b1)
  have R1 := hide r1
  clear r1 b1 K1
  go_wp2_with fail
  have K2 := hide (STEP.out _ _ K1'.out (LIT.out w1 #[.int .i64 0, .int .i64 0, .int .i64 3] 3))
  have R1a := hide (R1.out.next (LIT.out w1 #[.int .i64 0, .int .i64 0, .int .i64 3] 3))
  refine (h2_any w1.heap.size 3 _ (RI.lit w1 [0, 0, 3] 3 3 rfl) K2.out.2).mono ?_
  rintro en w2 ⟨A2, c2, rfl, r2, b2⟩
  have K2' := hide (STEP.out _ _ K2.out b2)
  have R1b := hide (R1a.out.next b2)
  have R2 := hide r2
  clear r2 b2 K2 R1 R1a
  go_wp2_with fail
  have L3 := LIT.out w2 #[.int .i64 7, .int .i64 8] 3
  have K3 := hide (STEP.out _ _ K2'.out L3)
  have R1c := hide (R1b.out.next L3)
  have R2c := hide (R2.out.next L3)
  refine (h3_any w2.heap.size 2 _ (RI.lit w2 [7, 8] 2 3 rfl) K3.out.2).mono ?_
  rintro en w3 ⟨A3, c3, rfl, r3, b3⟩
  have K3' := hide (STEP.out _ _ K3.out b3)
  have R1d := hide (R1c.out.next b3)
  have R2d := hide (R2c.out.next b3)
  have R3 := hide r3
  clear r3 b3 K3 R1b R2 R1c R2c L3
  have ALL3 : Hid (∀ w4, Below w3.heap.size w3 w4 → RD w4 w4.heap.size A1 3 [(-2, 1), (0, 2), (2, 1)] ∧ RD w4 w4.heap.size A2 2 [(0, 2), (3, 1)] ∧ RD w4 w4.heap.size A3 1 [(0, 1)]) := hide (fun w4 h => ⟨R1d.out.next h, R2d.out.next h, R3.out.next h⟩)
  clear R1d R2d R3
  go_wp2_with fail
  have L4 := LIT.out w3 #[.int .i64 (-1), .int .i64 1] 3
  have K4 := hide (STEP.out _ _ K3'.out L4)
  refine (h4_any w3.heap.size 2 _ (RI.lit w3 [-1, 1] 2 3 rfl) K4.out.2).mono ?_
  rintro en w4 ⟨rfl, b4⟩
  have K4' := hide (STEP.out _ _ K4.out b4)
  have C4 : Hid (Below w3.heap.size w3 w4) := hide (L4.trans (b4.mono L4.size))
  clear b4 K4 L4
  have B4 := hide (Blk.new w4 31 #[.bool false, .string ⟨#[51]⟩, .string ⟨#[52]⟩])
  have L4 := LIT.out w4 #[.bool false, .string ⟨#[51]⟩, .string ⟨#[52]⟩] 31
  have K4a := hide (STEP.out _ _ K4'.out L4)
  have C4a : Hid (Below w3.heap.size w3 (w4.alloc (.cells #[.bool false, .string ⟨#[51]⟩, .string ⟨#[52]⟩] 31))) := hide (C4.out.trans (L4.mono C4.out.size))
  clear L4
  go_upto_region 5 with (fail)
  generalize w4.alloc (.cells #[.bool false, .string ⟨#[51]⟩, .string ⟨#[52]⟩] 31) = w5 at B4 K4a C4a ⊢
  generalize w4.heap.size = g4 at B4 ⊢
  go_wp2_with fail
  have L5 := LIT.out w5 #[.int .i64 (-1), .int .i64 1] 3
  have K5 := hide (STEP.out _ _ K4a.out L5)
  refine (h5_any w5.heap.size 2 _ (RI.lit w5 [-1, 1] 2 3 rfl) K5.out.2).mono ?_
  rintro en w6 ⟨rfl, b6⟩
  have K6 := hide (STEP.out _ _ K5.out b6)
  have L56 : Below w5.heap.size w5 w6 := L5.trans (b6.mono L5.size)
  have C6 : Hid (Below w3.heap.size w3 w6) := hide (C4a.out.trans (L56.mono C4a.out.size))
  have B4b := hide (B4.out.below L56 B4.out.lt)
  clear b6 K5 L5 L56 B4 C4a
  have B6 := hide (Blk.new w6 31 #[.bool false, .string ⟨#[48]⟩, .string ⟨#[49]⟩])
  have L6 := LIT.out w6 #[.bool false, .string ⟨#[48]⟩, .string ⟨#[49]⟩] 31
  have K6a := hide (STEP.out _ _ K6.out L6)
  have C6a : Hid (Below w3.heap.size w3 (w6.alloc (.cells #[.bool false, .string ⟨#[48]⟩, .string ⟨#[49]⟩] 31))) := hide (C6.out.trans (L6.mono C6.out.size))
  have B4c := hide (B4b.out.below L6 B4b.out.lt)
  clear L6 B4b
  go_upto_region 6 with (fail)
  generalize w6.alloc (.cells #[.bool false, .string ⟨#[48]⟩, .string ⟨#[49]⟩] 31) = w7 at B6 K6a C6a B4c ⊢
  generalize w6.heap.size = g6 at B6 ⊢
  have BOTH : Hid (∀ w8, Below w7.heap.size w7 w8 → (Blk w8 g4 31 #[.bool false, .string ⟨#[51]⟩, .string ⟨#[52]⟩] ∧ Blk w8 g6 31 #[.bool false, .string ⟨#[48]⟩, .string ⟨#[49]⟩]) ∧ Below w3.heap.size w3 w8 ∧ Below w.heap.size w w8) := hide (fun w8 h8 => ⟨⟨B4c.out.below h8 B4c.out.lt, B6.out.below h8 B6.out.lt⟩, C6a.out.trans (h8.mono C6a.out.size), K6a.out.1.trans (h8.mono K6a.out.1.size)⟩)
  clear B4c B6 C6 C4 K6 K4' K4a K3' K2' K1'
  go_wp2_with fail
  refine (h6_any w7).mono ?_
  rintro en w8 ⟨rfl, b8⟩
  have E8 := hide b8
  clear b8
  go_wp2_with fail
  have L8 := LIT.out w8 #[.int .i64 51] 3
  refine (h7_any w8.heap.size 1 _ (RI.lit w8 [51] 1 3 rfl)).mono ?_
  rintro en w9 ⟨rfl, b9⟩
  have E9 : Hid (Below w7.heap.size w7 w9) := hide (E8.out.trans ((L8.trans (b9.mono L8.size)).mono E8.out.size))
  clear b9 L8
  go_wp2_with fail
  have L9 := LIT.out w9 #[.int .i64 1] 3
  refine (h8_any w9.heap.size 1 _ (RI.lit w9 [1] 1 3 rfl)).mono ?_
  rintro en w10 ⟨rfl, b10⟩
  have E10 : Hid (Below w7.heap.size w7 w10) := hide (E9.out.trans ((L9.trans (b10.mono L9.size)).mono E9.out.size))
  clear b10 L9
  obtain ⟨_, hc10, hb10⟩ := BOTH.out w10 E10.out
  have HC10 := hide hc10
  clear hc10 hb10 E9 E8
  have FIN : Hid (∀ w8, Below w10.heap.size w10 w8 → (Blk w8 g4 31 #[.bool false, .string ⟨#[51]⟩, .string ⟨#[52]⟩] ∧ Blk w8 g6 31 #[.bool false, .string ⟨#[48]⟩, .string ⟨#[49]⟩]) ∧ Below w.heap.size w w8) := hide (fun w8 h8 => by
    obtain ⟨q1, _, q3⟩ := BOTH.out w8 (E10.out.trans (h8.mono E10.out.size))
    exact ⟨q1, q3⟩)
  have TRIP : Hid (∀ w8, Below w10.heap.size w10 w8 → RD w8 w8.heap.size A1 3 [(-2, 1), (0, 2), (2, 1)] ∧ RD w8 w8.heap.size A2 2 [(0, 2), (3, 1)] ∧ RD w8 w8.heap.size A3 1 [(0, 1)]) := hide (fun w8 h8 => ALL3.out w8 (HC10.out.trans (h8.mono HC10.out.size)))
  clear ALL3 BOTH HC10 E10
  go_wp2_with fail
  have M1 := LIT.out w10 #[.int .i64 (-2), .string ⟨#[49]⟩, .int .i64 0, .string ⟨#[50]⟩, .int .i64 2, .string ⟨#[49]⟩] 38
  refine (same17_any A1 (some ⟨w10.heap.size, 0, none⟩) c1 3 3 [(-2, 1), (0, 2), (2, 1)] _ (TRIP.out _ M1).1 (rd_lit w10 _ _ 3 (by simp [cellsO, ns_one, lit_n2]) rfl) (by omega) (by decide)).mono ?_
  rintro en w11 ⟨rfl, m1, h11⟩
  have F11 : Hid (Below w10.heap.size w10 w11) := hide (by rw [h11]; exact below_drewN M1 m1)
  clear M1 h11
  go_wp2_with fail
  have M2 := LIT.out w11 #[.int .i64 0, .string ⟨#[50]⟩, .int .i64 3, .string ⟨#[49]⟩] 38
  refine (same17_any A2 (some ⟨w11.heap.size, 0, none⟩) c2 2 2 [(0, 2), (3, 1)] _ (TRIP.out _ (F11.out.trans (M2.mono F11.out.size))).2.1 (rd_lit w11 _ _ 2 (by simp [cellsO, ns_one, lit_n2]) rfl) (by omega) (by decide)).mono ?_
  rintro en w12 ⟨rfl, m2, h12⟩
  have F12 : Hid (Below w10.heap.size w10 w12) := hide (by rw [h12]; exact below_drewN (F11.out.trans (M2.mono F11.out.size)) m2)
  clear M2 h12
  go_wp2_with fail
  have M3 := LIT.out w12 #[.int .i64 0, .string ⟨#[49]⟩] 38
  refine (same17_any A3 (some ⟨w12.heap.size, 0, none⟩) c3 1 1 [(0, 1)] _ (TRIP.out _ (F12.out.trans (M3.mono F12.out.size))).2.2 (rd_lit w12 _ _ 1 (by simp [cellsO, ns_one, lit_n2]) rfl) (by omega) (by decide)).mono ?_
  rintro en w13 ⟨rfl, m3, h13⟩
  have F13 : Hid (Below w10.heap.size w10 w13) := hide (by rw [h13]; exact below_drewN (F12.out.trans (M3.mono F12.out.size)) m3)
  clear M3 h13
  obtain ⟨⟨k4, k6⟩, hfin⟩ := FIN.out w13 F13.out
  have HFIN := hide hfin
  have p0 : w13.cell? ⟨g4, 0, none⟩ = some (.bool false) := k4.cell 0
  have p1 : w13.cell? ⟨g4, 1, none⟩ = some (.string ⟨#[51]⟩) := k4.cell 1
  have p2 : w13.cell? ⟨g4, 2, none⟩ = some (.string ⟨#[52]⟩) := k4.cell 2
  have q0 : w13.cell? ⟨g6, 0, none⟩ = some (.bool false) := k6.cell 0
  have q1 : w13.cell? ⟨g6, 1, none⟩ = some (.string ⟨#[48]⟩) := k6.cell 1
  have q2 : w13.cell? ⟨g6, 2, none⟩ = some (.string ⟨#[49]⟩) := k6.cell 2
  have k4b : w13.heap[g4]? = some (.cells #[.bool false, .string ⟨#[51]⟩, .string ⟨#[52]⟩] 31 (0, 0)) := k4
  have k6b : w13.heap[g6]? = some (.cells #[.bool false, .string ⟨#[48]⟩, .string ⟨#[49]⟩] 31 (0, 0)) := k6
  clear k4 k6 hfin F13 F12 F11 TRIP FIN
  go_wp2
  go_ret
  exact ⟨rfl, HFIN.out⟩
end Go.Proofs.YtlkgoljpjeieiaaGreatDoor
