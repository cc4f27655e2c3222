/-
  NoiseTails, as the card asks it.
-/
import Derived.Test.YtlkgoljpjeieiaaGreatDoorTlsM
set_option linter.unusedVariables false
namespace Go.Proofs.YtlkgoljpjeieiaaGreatDoor
open Go.RowKit Go.Deep Go.Maps
theorem tails_walk (A : Option Addr) (len ca : Nat) (tape : List Int) (n b : Int) (W : World) (hp : Pow W) (h : RI W W.heap.size A len tape) (hm : len ≤ maxLen) (hb : ∀ z ∈ tape, -9223372036854775808 ≤ z ∧ z ≤ 9223372036854775807) (hn : (Lit.int .i64 n).wf = true) (hz : (Lit.int .i64 b).wf = true) :
    Calls Tryz.prog 8 #[.slice A len ca, .int .i64 n, .int .i64 b] W fun en w' => en = .returned (.bool true) ∧ Below W.heap.size W w' := by
  obtain rfl : tape.length = len := h.len
  exact tails_any A ca tape n b W h hm hp
end Go.Proofs.YtlkgoljpjeieiaaGreatDoor
