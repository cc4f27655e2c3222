/-
  Chapter 22: the value of a range.
-/
import Derived.Test.YtnlcfbaaomdjdaaDoorFew
set_option linter.unusedVariables false
set_option linter.unusedSimpArgs false
namespace Go.Proofs.YtnlcfbaaomdjdaaDoor
open Go.RowKit Go.Deep Go.Maps

/-- The law's value of a range. -/
def valueL (r : Rng) (raw : Int) : Int := if raw % 4 = 0 then r.low else if raw % 4 = 1 then r.high else r.low + (raw * 7919) % (r.high - r.low + 1)
theorem value_in {r : Rng} {raw : Int} (h : r.low ≤ r.high) : r.low ≤ valueL r raw ∧ valueL r raw ≤ r.high := by
  unfold valueL
  have h1 := Int.emod_nonneg (raw * 7919) (show r.high - r.low + 1 ≠ 0 by omega)
  have h2 := Int.emod_lt_of_pos (raw * 7919) (show 0 < r.high - r.low + 1 by omega)
  split
  · omega
  · split <;> omega
set_option maxHeartbeats 1000000 in
set_option maxRecDepth 20000 in
theorem value_any (r : Rng) (raw : Int) (hraw : 0 ≤ raw ∧ raw ≤ 65535) (hl : -1000000000000 ≤ r.low) (hh : r.high ≤ 1000000000000) (hlh : r.low ≤ r.high) (w : World) :
    Calls Tryd.prog 12 #[.agg #[.string r.name, .int .i64 r.low, .int .i64 r.high], .int .u16 raw] w fun e w' => e = .returned (.int .i64 (valueL r raw)) ∧ Below w.heap.size w w' := by
  have HV : Hid (valueL r raw = if raw % 4 = 0 then r.low else if raw % 4 = 1 then r.high else r.low + (raw * 7919) % (r.high - r.low + 1)) := rfl
  have h1 := Int.emod_nonneg (raw * 7919) (show r.high - r.low + 1 ≠ 0 by omega)
  have h2 := Int.emod_lt_of_pos (raw * 7919) (show 0 < r.high - r.low + 1 by omega)
  have hne : r.high - r.low + 1 ≠ 0 := by omega
  have hB1 : Blk (w.alloc (Obj.cells #[.string r.name, .int .i64 r.low, .int .i64 r.high] 34)) w.heap.size 34 #[.string r.name, .int .i64 r.low, .int .i64 r.high] := Blk.new _ _ _
  have hb1 : Below w.heap.size w (w.alloc (Obj.cells #[.string r.name, .int .i64 r.low, .int .i64 r.high] 34)) := (Below.refl _ _).alloc (Nat.le_refl _) _
  generalize r.low = lo at *
  generalize r.high = hi at *
  go_enter Tryd.func12, Tryd.ntmps12
  go_upto_region 1 with (fail)
  generalize w.alloc (Obj.cells #[.string r.name, .int .i64 lo, .int .i64 hi] 34) = w1 at hB1 hb1 ⊢
  have c1 : w1.cell? ⟨w.heap.size, 1, none⟩ = some (.int .i64 lo) := hB1.cell 1
  have c2 : w1.cell? ⟨w.heap.size, 2, none⟩ = some (.int .i64 hi) := hB1.cell 2
  by_cases m0 : raw % 4 = 0
  · rw [if_pos m0] at HV
    go_wp2
    go_ret
    exact ⟨by rw [HV.out]; rfl, hb1⟩
  · rw [if_neg m0] at HV
    have m0' : (raw % 4 == 0) = false := beq_eq_false_iff_ne.2 m0
    by_cases m1 : raw % 4 = 1
    · rw [if_pos m1] at HV
      go_wp2
      go_ret
      exact ⟨by rw [HV.out]; rfl, hb1⟩
    · rw [if_neg m1] at HV
      have m1' : (raw % 4 == 1) = false := beq_eq_false_iff_ne.2 m1
      go_upto_region 6 with (fail)
      go_quiet (fail)
      go_wp2
      go_ret
      exact ⟨by rw [HV.out]; rfl, below_drewN hb1 _⟩
end Go.Proofs.YtnlcfbaaomdjdaaDoor
