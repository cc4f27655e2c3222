/-
  bound's leaves: beyond, over, flags, times.
-/
import Derived.Test.YtmelebfpkjnfdaaGreatDoorBndP
import Derived.Test.YtmelebfpkjnfdaaGreatDoorNodA
import Derived.Test.YtmelebfpkjnfdaaGreatDoorFloat
import Derived.WalkLawsBesides
set_option linter.unusedVariables false
set_option linter.unusedSimpArgs false
namespace Go.Proofs.YtmelebfpkjnfdaaGreatDoor
open Go.RowKit Go.Deep Go.Maps

theorem beyond_any (n : Int) (w : World) : Calls Tryz.prog 54 #[.int .i64 n] w fun e w' => e = .returned (.bool (beyondL n)) ∧ w = w' := by
  have HB : Hid (beyondL n = (decide (n < -1000000000000) || decide (1000000000000 < n))) := rfl
  by_cases h1 : n < -1000000000000
  · have h1' : decide (n < -1000000000000) = true := decide_eq_true h1
    rw [h1', Bool.true_or] at HB
    go_enter Tryz.func54, Tryz.ntmps54
    go_wp2
    go_ret
    exact ⟨by rw [HB.out]; rfl, rfl⟩
  · have h1' : decide (n < -1000000000000) = false := decide_eq_false h1
    rw [h1', Bool.false_or] at HB
    by_cases h2 : 1000000000000 < n
    · have h2' : decide (1000000000000 < n) = true := decide_eq_true h2
      rw [h2'] at HB
      go_enter Tryz.func54, Tryz.ntmps54
      go_wp2
      go_ret
      exact ⟨by rw [HB.out]; rfl, rfl⟩
    · have h2' : decide (1000000000000 < n) = false := decide_eq_false h2
      rw [h2'] at HB
      go_enter Tryz.func54, Tryz.ntmps54
      go_wp2
      go_ret
      exact ⟨by rw [HB.out]; rfl, rfl⟩

/-- Two numbers are a value. -/
abbrev spanV (s : Int × Int) : Value := .agg #[.int .i64 s.1, .int .i64 s.2]
theorem flags_any (m n : Bool) (w : World) : Calls Tryz.prog 91 #[.bool m, .bool n] w fun e w' => e = .returned (spanV (flagsL m n)) ∧ Below w.heap.size w w' := by
  cases m
  · go_enter Tryz.func91, Tryz.ntmps91
    go_wp2
    exact bodyPost_ret (v := .agg #[.int .i64 0, .int .i64 0]) (by simp [results, Tryz.results91, go_sem]) rfl ⟨rfl, (Below.refl _ _).alloc (Nat.le_refl _) _⟩
  · cases n
    · go_enter Tryz.func91, Tryz.ntmps91
      go_wp2
      exact bodyPost_ret (v := .agg #[.int .i64 1, .int .i64 1]) (by simp [results, Tryz.results91, go_sem]) rfl ⟨rfl, (Below.refl _ _).alloc (Nat.le_refl _) _⟩
    · go_enter Tryz.func91, Tryz.ntmps91
      go_wp2
      exact bodyPost_ret (v := .agg #[.int .i64 0, .int .i64 1]) (by simp [results, Tryz.results91, go_sem]) rfl ⟨rfl, (Below.refl _ _).alloc (Nat.le_refl _) _⟩

theorem tdiv_bd (a b : Int) (ha : -1000000000000 ≤ a ∧ a ≤ 1000000000000) : -1000000000000 ≤ a.tdiv b ∧ a.tdiv b ≤ 1000000000000 := by
  have h := Int.natAbs_tdiv a b
  have h2 : a.natAbs / b.natAbs ≤ a.natAbs := Nat.div_le_self _ _
  have h3 : (a.tdiv b).natAbs ≤ a.natAbs := by rw [h]; exact h2
  omega
set_option maxHeartbeats 400000 in
theorem over_any (a b : Int) (w : World) (ha : -1000000000000 ≤ a ∧ a ≤ 1000000000000) : Calls Tryz.prog 90 #[.int .i64 a, .int .i64 b] w fun e w' => e = .returned (.int .i64 (overL a b)) ∧ w = w' := by
  have hd := tdiv_bd a b ha
  obtain ⟨ha1, ha2⟩ := ha
  by_cases hb : b = 0
  · subst hb
    go_enter Tryz.func90, Tryz.ntmps90
    go_wp2
    go_ret
    exact ⟨rfl, rfl⟩
  · have hb' : (b == 0) = false := beq_eq_false_iff_ne.2 hb
    have HO : Hid (overL a b = if a.tmod b ≠ 0 ∧ (decide (a < 0) ≠ decide (b < 0)) then a.tdiv b - 1 else a.tdiv b) := by
      show _ = _
      unfold overL
      rw [if_neg hb]
    go_enter Tryz.func90, Tryz.ntmps90
    go_wp2
    · go_ret
      have hm : a.tmod b = 0 := by assumption
      exact ⟨by rw [HO.out, if_neg (fun h => h.1 hm)]; rfl, rfl⟩
    · go_ret
      have hc : (a.tmod b != 0) = true ∧ (!decide (a < 0) == decide (b < 0)) = true := by assumption
      have h2 : decide (a < 0) ≠ decide (b < 0) := by
        intro e
        have := hc.2
        rw [e] at this
        revert this
        cases decide (b < 0) <;> decide
      exact ⟨by rw [HO.out, if_pos ⟨bne_iff_ne.1 hc.1, h2⟩]; rfl, rfl⟩
    · go_ret
      have hc : (a.tmod b != 0) = false ∨ (!decide (a < 0) == decide (b < 0)) = false := by assumption
      have h2 : ¬ (a.tmod b ≠ 0 ∧ decide (a < 0) ≠ decide (b < 0)) := by
        rintro ⟨e1, e2⟩
        rcases hc with hc | hc
        · rw [bne_iff_ne.2 e1] at hc
          cases hc
        · revert hc e2
          cases decide (a < 0) <;> cases decide (b < 0) <;> decide
      exact ⟨by rw [HO.out, if_neg h2]; rfl, rfl⟩

theorem times_lit (a b : Int) : timesL a b = if 2000000000000 < a * b then 2000000000000 else if a * b < -2000000000000 then -2000000000000 else a * b := by
  unfold timesL MB
  rfl
theorem read_gt : Ieee.double.read 4791014804267466752 = .number false (2000000000000 * 4096) (-12) := by decide +kernel
theorem read_lt : Ieee.double.read 14014386841122242560 = .number true (2000000000000 * 4096) (-12) := by decide +kernel
theorem held_gt {c : Nat} {v : Int} (h : Holds c v) : (FloatKind.f64.format.order c 4791014804267466752 == some Ordering.gt) = decide (2000000000000 < v) := by
  have := h.gt
  rw [← read_gt] at this
  exact this
theorem held_lt {c : Nat} {v : Int} (h : Holds c v) : (FloatKind.f64.format.order c 14014386841122242560 == some Ordering.lt) = decide (v < -2000000000000) := by
  have := h.lt
  rw [← read_lt] at this
  exact this
set_option maxHeartbeats 400000 in
theorem times_any (a b : Int) (w : World) (ha : -1000000000000 ≤ a ∧ a ≤ 1000000000000) (hb : -1000000000000 ≤ b ∧ b ≤ 1000000000000) : Calls Tryz.prog 89 #[.int .i64 a, .int .i64 b] w fun e w' => e = .returned (.int .i64 (timesL a b)) ∧ w = w' := by
  obtain ⟨c, hc, hh⟩ := mul_holds a b ha hb
  obtain ⟨ha1, ha2⟩ := ha
  obtain ⟨hb1, hb2⟩ := hb
  have hc' : floatBits .mul .f64 (floatOfInt .f64 a) (floatOfInt .f64 b) = some c := hc
  have hmul := run_float_arith (P := Tryz.prog) (w := w) .mul 153 .f64 _ _ c hc'
  have HH := hide hh
  clear hc hc' hh
  go_enter Tryz.func89, Tryz.ntmps89
  go_wp2
  · go_ret
    have hg : (FloatKind.f64.format.order c 4791014804267466752 == some Ordering.gt) = true := by assumption
    rw [held_gt HH.out] at hg
    refine ⟨ret_int ?_, rfl⟩
    rw [times_lit]
    rw [if_pos (of_decide_eq_true hg)]
  · go_ret
    have hg : (FloatKind.f64.format.order c 4791014804267466752 == some Ordering.gt) = false := by assumption
    have hl : (FloatKind.f64.format.order c 14014386841122242560 == some Ordering.lt) = true := by assumption
    rw [held_gt HH.out] at hg
    rw [held_lt HH.out] at hl
    refine ⟨ret_int ?_, rfl⟩
    rw [times_lit]
    rw [if_neg (of_decide_eq_false hg), if_pos (of_decide_eq_true hl)]
  · go_ret
    have hg : (FloatKind.f64.format.order c 4791014804267466752 == some Ordering.gt) = false := by assumption
    have hl : (FloatKind.f64.format.order c 14014386841122242560 == some Ordering.lt) = false := by assumption
    rw [held_gt HH.out] at hg
    rw [held_lt HH.out] at hl
    have g1 := of_decide_eq_false hg
    have g2 := of_decide_eq_false hl
    refine ⟨ret_int ?_, rfl⟩
    rw [times_lit]
    rw [if_neg g1, if_neg g2]
    exact W_in (by omega)

theorem hull_same (y : Int) (l : List Int) : hullL (y :: l) = l.foldl (fun h n => (min h.1 n, max h.2 n)) (min y y, max y y) := by
  rw [Int.min_self, Int.max_self]
  rfl
/-- The hull of the first k numbers, beginning with the first one itself. -/
def hullK (y : Int) (l : List Int) : Int × Int := l.foldl (fun h n => (min h.1 n, max h.2 n)) (y, y)
theorem hullK_snoc (y : Int) (l : List Int) (x : Int) : hullK y (l ++ [x]) = (min (hullK y l).1 x, max (hullK y l).2 x) := by
  unfold hullK
  rw [List.foldl_append]
  rfl
theorem hullK_all (y : Int) (l : List Int) : hullK y (y :: l) = hullL (y :: l) := by
  rw [hull_same]
  rfl

set_option maxHeartbeats 1000000 in
theorem hull_any (A : Option Addr) (n c : Nat) (xs : List Int) (w : World) (h : RI w w.heap.size A n xs) (hn : 0 < n) (hm : n ≤ maxLen) :
    Calls Tryz.prog 88 #[.slice A n c] w fun e w' => e = .returned (spanV (hullL xs)) ∧ Below w.heap.size w w' := by
  unfold maxLen at hm
  have hlen := h.len
  obtain ⟨b, off, rfl, hb, g0⟩ := h.at_ (k := 0) hn
  rw [Nat.add_zero] at g0
  have h0 : (0 : Int) < (n : Int) := by omega
  have H := hide h
  have hA : ∀ (o : Obj) (bb off : Nat), bb < w.heap.size → (w.alloc o).cell? ⟨bb, off, none⟩ = w.cell? ⟨bb, off, none⟩ := fun o bb off h => World.cell?_alloc_lt w o ⟨bb, off, none⟩ h
  go_enter Tryz.func88, Tryz.ntmps88
  go_wp2
  go_region
  have b2 : Blk ((w.alloc (Obj.cells #[.int .i64 0, .int .i64 0] 88)).alloc (Obj.cells #[.int .i64 (nth xs 0), .int .i64 (nth xs 0)] 88)).drew w.heap.size 88 #[.int .i64 0, .int .i64 0] := (Blk.new _ _ _).alloc _
  have b3 : Blk ((w.alloc (Obj.cells #[.int .i64 0, .int .i64 0] 88)).alloc (Obj.cells #[.int .i64 (nth xs 0), .int .i64 (nth xs 0)] 88)).drew (w.heap.size + 1) 88 #[.int .i64 (nth xs 0), .int .i64 (nth xs 0)] := by
    have := Blk.new (w.alloc (Obj.cells #[.int .i64 0, .int .i64 0] 88)) 88 #[.int .i64 (nth xs 0), .int .i64 (nth xs 0)]
    rw [show (w.alloc (Obj.cells #[.int .i64 0, .int .i64 0] 88)).heap.size = w.heap.size + 1 from by simp] at this
    exact this
  have hb1 : Below w.heap.size w ((w.alloc (Obj.cells #[.int .i64 0, .int .i64 0] 88)).alloc (Obj.cells #[.int .i64 (nth xs 0), .int .i64 (nth xs 0)] 88)).drew := (((Below.refl _ _).alloc (Nat.le_refl _) _).alloc (by simp) _).drew
  generalize ((w.alloc (Obj.cells #[.int .i64 0, .int .i64 0] 88)).alloc (Obj.cells #[.int .i64 (nth xs 0), .int .i64 (nth xs 0)] 88)).drew = w1 at b2 b3 hb1 ⊢
  clear hA g0 h
  go_wp2
  go_loopw [15] (fun i wr => ∃ k : Nat, k ≤ n ∧ i = .int .i64 k ∧ Blk wr w.heap.size 88 #[.int .i64 0, .int .i64 0] ∧ Blk wr (w.heap.size + 1) 88 #[.int .i64 (hullK (nth xs 0) (xs.take k)).1, .int .i64 (hullK (nth xs 0) (xs.take k)).2] ∧ Below w.heap.size w wr) (fun i _ => n - (intOf i).toNat)
  case atStart => exact ⟨0, Nat.zero_le _, rfl, b2, b3, hb1⟩
  case round =>
    clear b2 b3 hb1
    obtain ⟨k, hk, rfl, b2, b3, hbr⟩ := hrel
    by_cases hlt : k < n
    · obtain ⟨b', off', hA', hb', gk⟩ := H.out.at_ hlt
      injection hA' with hA'
      injection hA' with e1 e2
      subst e1 e2
      have gk' : wr.cell? ⟨b, off + k, none⟩ = some (.int .i64 (nth xs k)) := (hbr.cell (p := ⟨b, off + k, none⟩) hb).trans gk
      have HS := hide (hullK_snoc (nth xs 0) (xs.take k) (nth xs k))
      have HT := hide (nth_take (xs := xs) (k := k) (by omega))
      have B2 := hide b2
      have B3 := hide b3
      generalize hullK (nth xs 0) (xs.take k) = hk2 at HS B3 b3 ⊢
      obtain ⟨lo, hi⟩ := hk2
      dsimp only at HS B3 b3 ⊢
      have c0 : wr.cell? ⟨w.heap.size + 1, 0, none⟩ = some (.int .i64 lo) := b3.cell 0
      have c1 : wr.cell? ⟨w.heap.size + 1, 1, none⟩ = some (.int .i64 hi) := b3.cell 1
      have f0 := b3.frozen 0
      have f1 := b3.frozen 1
      clear gk b2 b3
      go_wp2
      have n2 : Blk ((wr.setCell ⟨w.heap.size + 1, 0, none⟩ (.int .i64 (min lo (nth xs k)))).setCell ⟨w.heap.size + 1, 1, none⟩ (.int .i64 (max hi (nth xs k)))) w.heap.size 88 #[.int .i64 0, .int .i64 0] := (B2.out.far (p := ⟨w.heap.size + 1, 0, none⟩) (by show w.heap.size ≠ w.heap.size + 1; omega) _).far (p := ⟨w.heap.size + 1, 1, none⟩) (by show w.heap.size ≠ w.heap.size + 1; omega) _
      have n3 : Blk ((wr.setCell ⟨w.heap.size + 1, 0, none⟩ (.int .i64 (min lo (nth xs k)))).setCell ⟨w.heap.size + 1, 1, none⟩ (.int .i64 (max hi (nth xs k)))) (w.heap.size + 1) 88 #[.int .i64 (min lo (nth xs k)), .int .i64 (max hi (nth xs k))] := Blk.set_ (Blk.set_ B3.out 0 _) 1 _
      have nb : Below w.heap.size w ((wr.setCell ⟨w.heap.size + 1, 0, none⟩ (.int .i64 (min lo (nth xs k)))).setCell ⟨w.heap.size + 1, 1, none⟩ (.int .i64 (max hi (nth xs k)))) := (hbr.setCell (p := ⟨w.heap.size + 1, 0, none⟩) (Nat.le_succ _) _).setCell (p := ⟨w.heap.size + 1, 1, none⟩) (Nat.le_succ _) _
      go_roundw
      case rel => exact ⟨k + 1, by omega, by go_num, n2, by rw [HT.out, HS.out]; exact n3, nb⟩
      case measure => simp [intOf]; omega
    · obtain rfl : k = n := by omega
      rw [List.take_of_length_le (by omega)] at b3
      have hne : ∃ y l, xs = y :: l := by
        cases xs with
        | nil => simp at hlen; omega
        | cons y l => exact ⟨y, l, rfl⟩
      obtain ⟨y, l, rfl⟩ := hne
      have hy : nth (y :: l) 0 = y := rfl
      rw [hy, hullK_all] at b3
      have B3 := hide b3
      have c0 : wr.cell? ⟨w.heap.size + 1, 0, none⟩ = some (.int .i64 (hullL (y :: l)).1) := b3.cell 0
      have c1 : wr.cell? ⟨w.heap.size + 1, 1, none⟩ = some (.int .i64 (hullL (y :: l)).2) := b3.cell 1
      have d0 : wr.cell? ⟨w.heap.size, 0, none⟩ = some (.int .i64 0) := b2.cell 0
      have d1 : wr.cell? ⟨w.heap.size, 1, none⟩ = some (.int .i64 0) := b2.cell 1
      have f0 := b2.frozen 0
      have f1 := b2.frozen 1
      have B2 := hide b2
      clear b2 b3 hy
      go_wp2
      have r2 : Blk ((wr.setCell ⟨w.heap.size, 0, none⟩ (.int .i64 (hullL (y :: l)).1)).setCell ⟨w.heap.size, 1, none⟩ (.int .i64 (hullL (y :: l)).2)) w.heap.size 88 #[.int .i64 (hullL (y :: l)).1, .int .i64 (hullL (y :: l)).2] := Blk.set_ (Blk.set_ B2.out 0 _) 1 _
      have rb : Below w.heap.size w ((wr.setCell ⟨w.heap.size, 0, none⟩ (.int .i64 (hullL (y :: l)).1)).setCell ⟨w.heap.size, 1, none⟩ (.int .i64 (hullL (y :: l)).2)) := (hbr.setCell (p := ⟨w.heap.size, 0, none⟩) (Nat.le_refl _) _).setCell (p := ⟨w.heap.size, 1, none⟩) (Nat.le_refl _) _
      generalize (wr.setCell ⟨w.heap.size, 0, none⟩ (.int .i64 (hullL (y :: l)).1)).setCell ⟨w.heap.size, 1, none⟩ (.int .i64 (hullL (y :: l)).2) = w5 at r2 rb ⊢
      have e0 : w5.cell? ⟨w.heap.size, 0, none⟩ = some (.int .i64 (hullL (y :: l)).1) := r2.cell 0
      have e1 : w5.cell? ⟨w.heap.size, 1, none⟩ = some (.int .i64 (hullL (y :: l)).2) := r2.cell 1
      exact bodyPost_ret (v := spanV (hullL (y :: l))) (by simp [results, Tryz.results88, go_sem, e0, e1]) rfl ⟨rfl, rb⟩
end Go.Proofs.YtmelebfpkjnfdaaGreatDoor
