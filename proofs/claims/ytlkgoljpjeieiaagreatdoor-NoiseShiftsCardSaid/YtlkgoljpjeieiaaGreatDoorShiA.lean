/-
  NoiseShifts: the walk, rows.
-/
import Derived.Test.YtlkgoljpjeieiaaGreatDoorShiP
import Derived.Test.YtlkgoljpjeieiaaGreatDoorOwnR
set_option linter.unusedVariables false
set_option linter.unusedSimpArgs false
namespace Go.Proofs.YtlkgoljpjeieiaaGreatDoor
open Go.RowKit Go.Deep Go.Maps

/-- Three rows of numbers, apart from each other. -/
structure Rows3 (w : World) (B : Nat) (A8 : Option Addr) (c8 k8 : Nat) (A9 : Option Addr) (c9 k9 : Nat) (At : Option Addr) (ct kt : Nat) (x8 x9 xt : List Int) : Prop where
  o8 : Own w B 3 1 A8 k8 c8 (ints x8)
  o9 : Own w B 3 1 A9 k9 c9 (ints x9)
  ot : Own w B 3 1 At kt ct (ints xt)
  p89 : Apart A8 A9
  p8t : Apart A8 At
  p9t : Apart A9 At
section
variable {w w' : World} {B : Nat} {A8 A9 At A' : Option Addr} {c8 c9 ct k8 k9 kt k' c' : Nat} {x8 x9 xt x' : List Int}
theorem Rows3.alloc (h : Rows3 w B A8 c8 k8 A9 c9 k9 At ct kt x8 x9 xt) (o : Obj) : Rows3 (w.alloc o) B A8 c8 k8 A9 c9 k9 At ct kt x8 x9 xt := ⟨h.o8.alloc o, h.o9.alloc o, h.ot.alloc o, h.p89, h.p8t, h.p9t⟩
theorem Rows3.s8 (h : Rows3 w B A8 c8 k8 A9 c9 k9 At ct kt x8 x9 xt) (hown : Own w' B 3 1 A' k' c' (ints x')) (hg : w.grownBy w' (Value.slice A8 k8 c8).ownBlock) (hat : (Value.slice A' k8 c8).ownBlock = (Value.slice A8 k8 c8).ownBlock ∨ (Value.slice A' k8 c8).ownBlock = some w.heap.size) :
    Rows3 w' B A' c' k' A9 c9 k9 At ct kt x' x9 xt := ⟨hown, h.o9.other hg h.p89, h.ot.other hg h.p8t, h.p89.grown h.o9 hat, h.p8t.grown h.ot hat, h.p9t⟩
theorem Rows3.s9 (h : Rows3 w B A8 c8 k8 A9 c9 k9 At ct kt x8 x9 xt) (hown : Own w' B 3 1 A' k' c' (ints x')) (hg : w.grownBy w' (Value.slice A9 k9 c9).ownBlock) (hat : (Value.slice A' k9 c9).ownBlock = (Value.slice A9 k9 c9).ownBlock ∨ (Value.slice A' k9 c9).ownBlock = some w.heap.size) :
    Rows3 w' B A8 c8 k8 A' c' k' At ct kt x8 x' xt := ⟨h.o8.other hg h.p89.symm, hown, h.ot.other hg h.p9t, (h.p89.symm.grown h.o8 hat).symm, h.p8t, h.p9t.grown h.ot hat⟩
theorem Rows3.st (h : Rows3 w B A8 c8 k8 A9 c9 k9 At ct kt x8 x9 xt) (hown : Own w' B 3 1 A' k' c' (ints x')) (hg : w.grownBy w' (Value.slice At kt ct).ownBlock) (hat : (Value.slice A' kt ct).ownBlock = (Value.slice At kt ct).ownBlock ∨ (Value.slice A' kt ct).ownBlock = some w.heap.size) :
    Rows3 w' B A8 c8 k8 A9 c9 k9 A' c' k' x8 x9 x' := ⟨h.o8.other hg h.p8t.symm, h.o9.other hg h.p9t.symm, hown, h.p89, (h.p8t.symm.grown h.o8 hat).symm, (h.p9t.symm.grown h.o9 hat).symm⟩
end
theorem int_info : (Tryz.prog.info? 3).map (fun i => (i.zero, i.size, i.bytes)) = some (some (.int .i64 0), 1, 8) := by kernel_rfl
theorem shift_bd {n : Nat} {z : Int} (hn : n ≤ 6) (h : -100 ≤ z ∧ z ≤ 100) : -600 ≤ (n : Int) * z ∧ (n : Int) * z ≤ 600 := by
  have : n = 0 ∨ n = 1 ∨ n = 2 ∨ n = 3 ∨ n = 4 ∨ n = 5 ∨ n = 6 := by omega
  rcases this with rfl | rfl | rfl | rfl | rfl | rfl | rfl <;> omega
theorem bad17_long {l : List Int} (h : valid17 l = false) (n : Int) : valid17 l = false ∨ n < 0 ∨ 40 < n := .inl h
end Go.Proofs.YtlkgoljpjeieiaaGreatDoor
