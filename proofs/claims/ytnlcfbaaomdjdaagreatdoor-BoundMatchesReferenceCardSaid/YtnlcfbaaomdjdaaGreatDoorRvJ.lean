/-
  The reference of chapter 22: the bounds of a node, whatever its operator.
-/
import Derived.Test.YtnlcfbaaomdjdaaGreatDoorRvO
import Derived.Test.YtnlcfbaaomdjdaaGreatDoorRvP
set_option linter.unusedVariables false
set_option linter.unusedSimpArgs false
namespace Go.Proofs.YtnlcfbaaomdjdaaGreatDoor
open Go.RowKit Go.Deep

theorem pairs1 {l : List (Int × Int)} (h : (l.length : Int) = 1) : ∃ a, l = [a] := List.length_eq_one_iff.1 (by omega)
theorem pairs2 {l : List (Int × Int)} (h : (l.length : Int) = 2) : ∃ a b, l = [a, b] := by
  rcases l with _ | ⟨a, _ | ⟨b, _ | ⟨c, l⟩⟩⟩
  · simp at h
  · simp at h
  · exact ⟨a, b, rfl⟩
  · simp at h; omega
theorem pairs3 {l : List (Int × Int)} (h : (l.length : Int) = 3) : ∃ a b c, l = [a, b, c] := by
  rcases l with _ | ⟨a, _ | ⟨b, _ | ⟨c, _ | ⟨d, l⟩⟩⟩⟩
  · simp at h
  · simp at h
  · simp at h
  · exact ⟨a, b, c, rfl⟩
  · simp at h; omega
theorem refNodeS_any (op : Int) (A : Option Addr) (n c : Nat) (K : List (Int × Int)) (w : World) (h : RSp w w.heap.size A n K) (hK : ∀ s ∈ K, inS s) (hl : (K.length : Int) = operands op) (h3 : 3 ≤ op ∧ op ≤ 12) :
    Calls Tryz.prog 25 #[.int .i64 op, .slice A n c] w fun e w' => e = .returned (growV (growL (candR op (K.getD 0 (0, 0)) (K.getD 1 (0, 0)) (K.getD 2 (0, 0))))) ∧ Below w.heap.size w w' := by
  have : op = 3 ∨ op = 4 ∨ op = 5 ∨ op = 6 ∨ op = 7 ∨ op = 8 ∨ op = 9 ∨ op = 10 ∨ op = 11 ∨ op = 12 := by omega
  rcases this with rfl | rfl | rfl | rfl | rfl | rfl | rfl | rfl | rfl | rfl
  · obtain ⟨x, y, rfl⟩ := pairs2 (hl.trans rfl)
    exact refNode3 A n c x y w h (hK x (by simp)) (hK y (by simp))
  · obtain ⟨x, y, rfl⟩ := pairs2 (hl.trans rfl)
    exact refNode4 A n c x y w h (hK x (by simp)) (hK y (by simp))
  · obtain ⟨x, y, rfl⟩ := pairs2 (hl.trans rfl)
    exact refNode5 A n c x y w h (hK x (by simp)) (hK y (by simp))
  · obtain ⟨x, y, rfl⟩ := pairs2 (hl.trans rfl)
    exact refNode6 A n c x y w h (hK x (by simp)) (hK y (by simp))
  · obtain ⟨x, y, rfl⟩ := pairs2 (hl.trans rfl)
    exact refNode7 A n c x y w h (hK x (by simp)) (hK y (by simp))
  · obtain ⟨x, y, rfl⟩ := pairs2 (hl.trans rfl)
    exact refNode8 A n c x y w h (hK x (by simp)) (hK y (by simp))
  · obtain ⟨x, y, z, rfl⟩ := pairs3 (hl.trans rfl)
    exact refNode9 A n c x y z w h (hK x (by simp)) (hK y (by simp)) (hK z (by simp))
  · obtain ⟨x, y, rfl⟩ := pairs2 (hl.trans rfl)
    exact refNode10 A n c x y w h (hK x (by simp)) (hK y (by simp))
  · obtain ⟨x, y, rfl⟩ := pairs2 (hl.trans rfl)
    exact refNode11 A n c x y w h (hK x (by simp)) (hK y (by simp))
  · obtain ⟨x, rfl⟩ := pairs1 (hl.trans rfl)
    have := refNode12 A n c x w h (hK x (by simp))
    rw [← Int.zero_sub x.1, ← Int.zero_sub x.2] at this
    exact this
end Go.Proofs.YtnlcfbaaomdjdaaGreatDoor
