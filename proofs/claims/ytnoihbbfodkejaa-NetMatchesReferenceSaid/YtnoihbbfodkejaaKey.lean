/-
  Chapter 54: ways (arrays of two numbers) compared, and as the keys of maps.
-/
import Derived.Test.YtnoihbbfodkejaaNModel
import Derived.Test.YtnoihbbfodkejaaChecked
import Derived.Laws.StructEq
import Derived.DeepKeys4
namespace Go.Proofs.Ytnoihbbfodkejaa
open Go.RowKit
theorem eq_ways (d0 : Nat) (a b c d : Int) (w : World) : (Op.equalIn (d0 + 1 + 1) 59 (.agg #[.int .i64 a, .int .i64 b]) (.agg #[.int .i64 c, .int .i64 d])).run Try.prog w = .ok (a == c && b == d) w := by
  have hu := Try.underlying59
  have hs := Try.sizeOf3
  have hi := Try.underlying3
  have hp0 : ∀ (x y : Value), (part 3 #[x, y] 0).run Try.prog w = .ok x w := by
    intro x y
    unfold part
    simp [isAgg, sizeOf]
  have hp1 : ∀ (x y : Value), (part 3 #[x, y] 1).run Try.prog w = .ok y w := by
    intro x y
    unfold part
    simp [isAgg, sizeOf]
  have he := fun a b => run_equalIn_int (P := Try.prog) w d0 3 .i64 .i64 a b hi
  unfold Op.equalIn
  simp only [Sem.run_bind, run_underlying hu, Result.andThen_ok, hs]
  by_cases h1 : a = c <;> by_cases h2 : b = d <;> simp [List.range', hp0, hp1, he, Result.andThen, h1, h2]
theorem eq_way (a b c d : Int) (w : World) : (Op.equalIn 10000 59 (.agg #[.int .i64 a, .int .i64 b]) (.agg #[.int .i64 c, .int .i64 d])).run Try.prog w = .ok (a == c && b == d) w := eq_ways 9998 a b c d w
theorem keyed : Go.Maps.Keyed Try.prog 59 :=
  Go.Maps.Keyed.of_law (deep_law_laid (of_decide_eq_true (by kernel_rfl)) (m := 2) (by omega) (of_decide_eq_true (by kernel_rfl)) (by kernel_rfl) (by rw [Try.underlying59]))
theorem key_lits (d : Nat) (a b : Int) (ha : (Lit.int .i64 a).wf = true) (hb : (Lit.int .i64 b).wf = true) :
    Try.prog.keyLits (d + 1 + 1) 59 [.int .i64 a, .int .i64 b] = some [.int .i64 a, .int .i64 b] := by
  have hc : Try.prog.cellsOf 59 = 2 := by kernel_rfl
  have hc1 : Try.prog.cellsOf 3 = 1 := by kernel_rfl
  simp [Program.keyLits, Try.underlying59, Try.underlying3, hc, hc1, ha, hb, List.range, List.range.loop]
theorem key_some (a b : Int) (ha : (Lit.int .i64 a).wf = true) (hb : (Lit.int .i64 b).wf = true) : (keyOf Try.prog 59 (.agg #[.int .i64 a, .int .i64 b])).isSome = true := by
  unfold keyOf
  rw [Try.underlying59]
  simp only []
  have h1 : Try.prog.keyType 59 = true := by kernel_rfl
  have h2 : (Value.agg #[.int .i64 a, .int .i64 b]).formed Try.prog 59 = true := by
    simp [Value.formed, Try.underlying59]
    kernel_rfl
  rw [h1, h2]
  have h3 : Try.prog.types.size + 1 = Try.prog.types.size - 1 + 1 + 1 := by
    have : Try.prog.types.size ≠ 0 := of_decide_eq_true (by kernel_rfl)
    omega
  have h4 := key_lits (Try.prog.types.size - 1) a b ha hb
  rw [← h3] at h4
  simp only [Bool.and_self, if_true, Value.cells]
  rw [h4]
  rfl
end Go.Proofs.Ytnoihbbfodkejaa
