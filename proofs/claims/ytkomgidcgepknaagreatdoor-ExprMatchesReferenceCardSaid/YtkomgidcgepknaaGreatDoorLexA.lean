/-
  The lexer's table: classes.
-/
import Derived.Test.YtkomgidcgepknaaGreatDoorLexP
import Derived.Test.YtkomgidcgepknaaGreatDoorTools
set_option linter.unusedVariables false
set_option linter.unusedSimpArgs false
namespace Go.Proofs.YtkomgidcgepknaaGreatDoor
open Go.RowKit Go.Deep

/-- The list xs with c laid at the values of the first k bytes of s. -/
def paintTo (xs : List Int) (s : ByteArray) (c : Int) : Nat → List Int
  | 0 => xs
  | k + 1 => (paintTo xs s c k).set (bAt s k) c
theorem paintTo_len (xs : List Int) (s : ByteArray) (c : Int) : ∀ k, (paintTo xs s c k).length = xs.length
  | 0 => rfl
  | k + 1 => by rw [paintTo, List.length_set, paintTo_len xs s c k]
def paint (xs : List Int) (s : ByteArray) (c : Int) : List Int := paintTo xs s c s.size
theorem paint_len (xs : List Int) (s : ByteArray) (c : Int) : (paint xs s c).length = xs.length := paintTo_len _ _ _ _

set_option maxHeartbeats 1000000 in
theorem paint_any (g : Nat) (s : ByteArray) (c : Int) (xs : List Int) (hl : xs.length = 256) (w : World) (hb : Blk w g 161 (ints xs).toArray) (hs : s.size ≤ maxLen) :
    Calls Tryz.prog 163 #[.string s, .int .i64 c, .pointer (some ⟨g, 0, none⟩)] w fun e w' => e = .returned (.tuple #[]) ∧ Blk w' g 161 (ints (paint xs s c)).toArray ∧ Below g w w' := by
  unfold maxLen at hs
  have HL := hide hl
  clear hl
  go_enter Tryz.func163, Tryz.ntmps163
  go_wp2
  go_loopw [5] (fun i wr => ∃ k : Nat, k ≤ s.size ∧ i = .int .i64 k ∧ Blk wr g 161 (ints (paintTo xs s c k)).toArray ∧ Below g w wr) (fun i _ => s.size - (intOf i).toNat)
  case atStart => exact ⟨0, Nat.zero_le _, rfl, hb, Below.refl _ _⟩
  case round =>
    obtain ⟨k, hk, rfl, hB, hbel⟩ := hrel
    by_cases hlt : k < s.size
    · have hbv := bAt_eq hlt
      have hb256 : bAt s k < 256 := bAt_lt s k
      have hc := hB.int (k := bAt s k) (by rw [paintTo_len, HL.out]; exact hb256)
      have hfr := hB.frozen (bAt s k)
      rw [hbv] at hc hfr hb256
      go_wp2
      go_roundw
      case rel => exact ⟨k + 1, by omega, by go_num, by have := hB.setInt (bAt s k) c; rw [hbv] at this; simpa [paintTo, hbv] using this, hbel.setCell (Nat.le_refl _) _⟩
      case measure => simp [intOf]; omega
    · obtain rfl : k = s.size := by omega
      go_wp2
      go_end0
      exact ⟨rfl, hB, hbel⟩

/-- The table of the classes. -/
def classL : List Int := (List.range 256).map fun c => (cls c : Int)
def zero256 : List Int := List.replicate 256 0
def sLet : ByteArray := { data := #[97, 98, 99, 100, 101, 102, 103, 104, 105, 106, 107, 108, 109, 110, 111, 112, 113, 114, 115, 116, 117, 118, 119, 120, 121, 122, 65, 66, 67, 68, 69, 70, 71, 72, 73, 74, 75, 76, 77, 78, 79, 80, 81, 82, 83, 84, 85, 86, 87, 88, 89, 90] }
def sDig : ByteArray := { data := #[48, 49, 50, 51, 52, 53, 54, 55, 56, 57] }
def sLow : ByteArray := { data := #[95] }
def sBlank : ByteArray := { data := #[32, 9, 10] }
def sHash : ByteArray := { data := #[35] }
def sQuote : ByteArray := { data := #[34] }
def sBang : ByteArray := { data := #[33] }
def sCmp : ByteArray := { data := #[60, 62, 61] }
def sSym : ByteArray := { data := #[59, 44, 46, 58, 40, 41, 91, 93, 123, 125, 43, 45, 42, 47] }
def painted : List Int := paint (paint (paint (paint (paint (paint (paint (paint (paint zero256 sLet 3) sDig 4) sLow 5) sBlank 1) sHash 2) sQuote 6) sBang 7) sCmp 8) sSym 9
theorem painted_eq : painted = classL := by decide +kernel

theorem zero256_eq : Tryz.zeroCells161 = (ints zero256).toArray := by kernel_rfl

theorem below_setRow {B g : Nat} {w0 w : World} (h : Below B w0 w) (hg : B ≤ g) (cs : Array Value) : Below B w0 (w.setRow g cs) :=
  ⟨by rw [setRow_os]; exact h.os, by rw [setRow_tape]; exact h.tape, by rw [setRow_output]; exact h.output, by rw [setRow_size]; exact h.size, fun b hb => by rw [setRow_other w g b cs (by omega)]; exact h.block b hb⟩

set_option maxHeartbeats 1000000 in
theorem classes_any (w : World) :
    Calls Tryz.prog 114 #[] w fun e w' => e = .returned (.agg (ints classL).toArray) ∧ Below w.heap.size w w' := by
  rw [← painted_eq]
  have b0 : Blk ((w.alloc (Obj.cells Tryz.zeroCells161 161)).alloc (Obj.cells Tryz.zeroCells161 161)) (w.heap.size + 1) 161 (ints zero256).toArray := by
    have := Blk.new (w.alloc (Obj.cells Tryz.zeroCells161 161)) 161 (ints zero256).toArray
    rw [← zero256_eq] at this ⊢
    simpa using this
  have c0 : Blk ((w.alloc (Obj.cells Tryz.zeroCells161 161)).alloc (Obj.cells Tryz.zeroCells161 161)) w.heap.size 161 (ints zero256).toArray := by
    have := (Blk.new w 161 (ints zero256).toArray).alloc (Obj.cells (ints zero256).toArray 161)
    rw [← zero256_eq] at this ⊢
    exact this
  have w0 : Below w.heap.size w ((w.alloc (Obj.cells Tryz.zeroCells161 161)).alloc (Obj.cells Tryz.zeroCells161 161)) := ((Below.refl _ _).alloc (Nat.le_refl _) _).alloc (by simp) _
  have l0 : zero256.length = 256 := List.length_replicate
  go_enter Tryz.func114, Tryz.ntmps114
  go_wp2_with fail
  generalize (w.alloc (Obj.cells Tryz.zeroCells161 161)).alloc (Obj.cells Tryz.zeroCells161 161) = v0 at b0 c0 w0 ⊢
  refine (paint_any _ sLet 3 _ l0 v0 b0 (by unfold maxLen; decide)).mono ?_
  rintro e v1 ⟨rfl, b1, d1⟩
  have c1 := c0.below d1 (Nat.lt_succ_self _)
  have w1 := w0.trans (d1.mono (Nat.le_succ _))
  have l1 := (paint_len _ sLet 3).trans l0
  clear b0 c0 w0 l0 d1
  go_wp2_with fail
  refine (paint_any _ sDig 4 _ l1 v1 b1 (by unfold maxLen; decide)).mono ?_
  rintro e v2 ⟨rfl, b2, d2⟩
  have c2 := c1.below d2 (Nat.lt_succ_self _)
  have w2 := w1.trans (d2.mono (Nat.le_succ _))
  have l2 := (paint_len _ sDig 4).trans l1
  clear b1 c1 w1 l1 d2
  go_wp2_with fail
  refine (paint_any _ sLow 5 _ l2 v2 b2 (by unfold maxLen; decide)).mono ?_
  rintro e v3 ⟨rfl, b3, d3⟩
  have c3 := c2.below d3 (Nat.lt_succ_self _)
  have w3 := w2.trans (d3.mono (Nat.le_succ _))
  have l3 := (paint_len _ sLow 5).trans l2
  clear b2 c2 w2 l2 d3
  go_wp2_with fail
  refine (paint_any _ sBlank 1 _ l3 v3 b3 (by unfold maxLen; decide)).mono ?_
  rintro e v4 ⟨rfl, b4, d4⟩
  have c4 := c3.below d4 (Nat.lt_succ_self _)
  have w4 := w3.trans (d4.mono (Nat.le_succ _))
  have l4 := (paint_len _ sBlank 1).trans l3
  clear b3 c3 w3 l3 d4
  go_wp2_with fail
  refine (paint_any _ sHash 2 _ l4 v4 b4 (by unfold maxLen; decide)).mono ?_
  rintro e v5 ⟨rfl, b5, d5⟩
  have c5 := c4.below d5 (Nat.lt_succ_self _)
  have w5 := w4.trans (d5.mono (Nat.le_succ _))
  have l5 := (paint_len _ sHash 2).trans l4
  clear b4 c4 w4 l4 d5
  go_wp2_with fail
  refine (paint_any _ sQuote 6 _ l5 v5 b5 (by unfold maxLen; decide)).mono ?_
  rintro e v6 ⟨rfl, b6, d6⟩
  have c6 := c5.below d6 (Nat.lt_succ_self _)
  have w6 := w5.trans (d6.mono (Nat.le_succ _))
  have l6 := (paint_len _ sQuote 6).trans l5
  clear b5 c5 w5 l5 d6
  go_wp2_with fail
  refine (paint_any _ sBang 7 _ l6 v6 b6 (by unfold maxLen; decide)).mono ?_
  rintro e v7 ⟨rfl, b7, d7⟩
  have c7 := c6.below d7 (Nat.lt_succ_self _)
  have w7 := w6.trans (d7.mono (Nat.le_succ _))
  have l7 := (paint_len _ sBang 7).trans l6
  clear b6 c6 w6 l6 d7
  go_wp2_with fail
  refine (paint_any _ sCmp 8 _ l7 v7 b7 (by unfold maxLen; decide)).mono ?_
  rintro e v8 ⟨rfl, b8, d8⟩
  have c8 := c7.below d8 (Nat.lt_succ_self _)
  have w8 := w7.trans (d8.mono (Nat.le_succ _))
  have l8 := (paint_len _ sCmp 8).trans l7
  clear b7 c7 w7 l7 d8
  go_wp2_with fail
  refine (paint_any _ sSym 9 _ l8 v8 b8 (by unfold maxLen; decide)).mono ?_
  rintro e v9 ⟨rfl, b9, d9⟩
  have c9 := c8.below d9 (Nat.lt_succ_self _)
  have w9 := w8.trans (d9.mono (Nat.le_succ _))
  have l9 := (paint_len _ sSym 9).trans l8
  clear b8 c8 w8 l8 d9
  change Blk v9 _ _ (ints painted).toArray at b9
  have l9' : painted.length = 256 := l9
  have z9 : (ints painted).toArray.size = 256 := by simp [l9']
  have hone : ∀ u ∈ (ints painted).toArray, u.oneCell' = true := fun u hu => ints_oneCell painted u (by simpa using hu)
  generalize hza : (ints painted).toArray = za at b9 z9 hone
  have hz : Tryz.zeroCells161.size = 256 := by kernel_rfl
  rw [← zero256_eq] at c9
  generalize Tryz.zeroCells161 = zb at c9 hz
  go_upto_region 12 with (fail)
  refine wp_region_lit ?_
  have hu : Tryz.prog.underlying 161 = some (.array 256 3) := by kernel_rfl
  have hi : (Tryz.prog.info? 161).map (·.size) = some 256 := by kernel_rfl
  have h1 : za.all (·.oneCell') = true := Array.all_eq_true_iff_forall_mem.2 hone
  refine wpList_load_row rfl 161 (.tmp 1) rfl _ rfl _ za _ (.array 256 3) b9 hu rfl (by rw [z9]; exact hi) ?_
  refine wpList_store_row rfl 161 (.tmp 0) (.tmp 22) rfl _ za rfl rfl _ zb c9 (by rw [z9]; exact hi) (by rw [z9, hz]) h1 ?_
  refine wpList_nil ?_
  have bz : Blk (v9.setRow w.heap.size za) w.heap.size 161 za := setRow_heap v9 _ _ _ _ _ c9
  have wz := below_setRow w9 (Nat.le_refl _) za
  generalize v9.setRow w.heap.size za = vz at bz wz ⊢
  go_wp2
  refine bodyPost_ret (results_cell_row (p := 0) (by kernel_rfl) _ vz w.heap.size 161 za (0, 0) (.array 256 3) rfl bz hu rfl (by rw [z9]; exact hi)) rfl ?_
  exact ⟨by rw [← hza], wz⟩
end Go.Proofs.YtkomgidcgepknaaGreatDoor
