/-
  NoiseShifts, as the card asks it.
-/
import Derived.Test.YtlkgoljpjeieiaaGreatDoorShiM
set_option linter.unusedVariables false
namespace Go.Proofs.YtlkgoljpjeieiaaGreatDoor
open Go.RowKit Go.Deep Go.Maps
theorem shifts_walk (A : Option Addr) (len ca : Nat) (tape : List Int) (n z : Int) (W : World) (hp : Pow W) (h : RI W W.heap.size A len tape) (hm : len ≤ maxLen) (hb : ∀ z ∈ tape, -9223372036854775808 ≤ z ∧ z ≤ 9223372036854775807) (hn : (Lit.int .i64 n).wf = true) (hz : (Lit.int .i64 z).wf = true) :
    Calls Tryz.prog 4 #[.slice A len ca, .int .i64 n, .int .i64 z] W fun en w' => en = .returned (.bool true) ∧ Below W.heap.size W w' := by
  obtain rfl : tape.length = len := h.len
  exact shifts_any A ca tape n z W h hm hp
end Go.Proofs.YtlkgoljpjeieiaaGreatDoor
