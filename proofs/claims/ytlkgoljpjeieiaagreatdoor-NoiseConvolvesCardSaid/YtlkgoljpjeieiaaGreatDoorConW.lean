/-
  NoiseConvolves, as the card asks it.
-/
import Derived.Test.YtlkgoljpjeieiaaGreatDoorConM
set_option linter.unusedVariables false
namespace Go.Proofs.YtlkgoljpjeieiaaGreatDoor
open Go.RowKit Go.Deep Go.Maps
theorem conv_walk (A : Option Addr) (len ca : Nat) (tape : List Int) (r s : Int) (W : World) (hp : Pow W) (h : RI W W.heap.size A len tape) (hm : len ≤ maxLen) (hb : ∀ z ∈ tape, -9223372036854775808 ≤ z ∧ z ≤ 9223372036854775807) (hr : (Lit.int .u8 r).wf = true) (hs : (Lit.int .u8 s).wf = true) :
    Calls Tryz.prog 6 #[.slice A len ca, .int .u8 r, .int .u8 s] W fun en w' => en = .returned (.bool true) ∧ Below W.heap.size W w' := by
  obtain rfl : tape.length = len := h.len
  have hr2 : 0 ≤ r ∧ r ≤ 255 := by
    simp only [Lit.wf, Bool.and_eq_true, IntKind.min, IntKind.max] at hr
    simpa [IntKind.signed, IntKind.bits] using hr
  have hs2 : 0 ≤ s ∧ s ≤ 255 := by
    simp only [Lit.wf, Bool.and_eq_true, IntKind.min, IntKind.max] at hs
    simpa [IntKind.signed, IntKind.bits] using hs
  obtain ⟨k, rfl⟩ : ∃ k : Nat, r = k := ⟨r.toNat, by omega⟩
  obtain ⟨l, rfl⟩ : ∃ k : Nat, s = k := ⟨s.toNat, by omega⟩
  exact conv_any A ca tape k l W h hm (by omega) (by omega) hp
end Go.Proofs.YtlkgoljpjeieiaaGreatDoor
