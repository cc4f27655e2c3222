/-
  Chapter 17, the laws' head: the chapter's examples.
-/
import Derived.Test.YtlkgoljpjeieiaaGreatDoorLwB
set_option linter.unusedVariables false
set_option linter.unusedSimpArgs false
namespace Go.Proofs.YtlkgoljpjeieiaaGreatDoor
open Go.RowKit Go.Deep Go.Maps

theorem ex1 : dist17 [-1, 1] 2 = [(-2, 1), (0, 2), (2, 1)] := by decide +kernel
theorem ex2 : dist17 [0, 0, 3] 1 = [(0, 2), (3, 1)] := by decide +kernel
theorem ex3 : dist17 [7, 8] 0 = [(0, 1)] := by decide +kernel
theorem ex4 : low17 (someT (dist17 [-1, 1] 2) 0) (allT (dist17 [-1, 1] 2)) = (3, 4) := by rw [ex1]; decide +kernel
theorem ex5 : low17 (someT (dist17 [-1, 1] 2) 3) (allT (dist17 [-1, 1] 2)) = (0, 1) := by rw [ex1]; decide +kernel
/-- A distribution that is known. -/
def KnownPost (l : List (Int × Nat)) (N : Nat) (w : World) (en : Ending) (w' : World) : Prop :=
  ∃ A c, en = .returned (.tuple #[.slice A N c, .int .i64 0]) ∧ RD w' w'.heap.size A N l ∧ Below w.heap.size w w'
theorem h1_any (g c : Nat) (w : World) (h : RI w w.heap.size (some ⟨g, 0, none⟩) 2 [-1, 1]) (hp : Pow w) : Calls Tryz.prog 11 #[.slice (some ⟨g, 0, none⟩) 2 c, .int .i64 2] w (KnownPost [(-2, 1), (0, 2), (2, 1)] 3 w) := by
  have := dist_ok (some ⟨g, 0, none⟩) c [-1, 1] 2 w h (by decide) (by omega) hp
  unfold DistPost at this
  rw [ex1] at this
  exact this
theorem h2_any (g c : Nat) (w : World) (h : RI w w.heap.size (some ⟨g, 0, none⟩) 3 [0, 0, 3]) (hp : Pow w) : Calls Tryz.prog 11 #[.slice (some ⟨g, 0, none⟩) 3 c, .int .i64 1] w (KnownPost [(0, 2), (3, 1)] 2 w) := by
  have := dist_ok (some ⟨g, 0, none⟩) c [0, 0, 3] 1 w h (by decide) (by omega) hp
  unfold DistPost at this
  rw [ex2] at this
  exact this
theorem h3_any (g c : Nat) (w : World) (h : RI w w.heap.size (some ⟨g, 0, none⟩) 2 [7, 8]) (hp : Pow w) : Calls Tryz.prog 11 #[.slice (some ⟨g, 0, none⟩) 2 c, .int .i64 0] w (KnownPost [(0, 1)] 1 w) := by
  have := dist_ok (some ⟨g, 0, none⟩) c [7, 8] 0 w h (by decide) (by omega) hp
  unfold DistPost at this
  rw [ex3] at this
  exact this
theorem h4_any (g c : Nat) (w : World) (h : RI w w.heap.size (some ⟨g, 0, none⟩) 2 [-1, 1]) (hp : Pow w) : Calls Tryz.prog 13 #[.slice (some ⟨g, 0, none⟩) 2 c, .int .i64 2, .int .i64 0] w fun en w' => en = .returned (.tuple #[.agg #[.bool false, .string ⟨#[51]⟩, .string ⟨#[52]⟩], .int .i64 0]) ∧ Below w.heap.size w w' := by
  have := tail_ok (some ⟨g, 0, none⟩) c [-1, 1] 2 0 w h (by decide) (by omega) hp
  rw [ex4] at this
  have e3 : NS 3 = ⟨#[51]⟩ := by unfold NS; rw [Lib.decDigits, dif_pos (by decide)]; rfl
  have e4 : NS 4 = ⟨#[52]⟩ := by unfold NS; rw [Lib.decDigits, dif_pos (by decide)]; rfl
  unfold RV at this
  rw [e3, e4] at this
  exact this
theorem h5_any (g c : Nat) (w : World) (h : RI w w.heap.size (some ⟨g, 0, none⟩) 2 [-1, 1]) (hp : Pow w) : Calls Tryz.prog 13 #[.slice (some ⟨g, 0, none⟩) 2 c, .int .i64 2, .int .i64 3] w fun en w' => en = .returned (.tuple #[.agg #[.bool false, .string ⟨#[48]⟩, .string ⟨#[49]⟩], .int .i64 0]) ∧ Below w.heap.size w w' := by
  have := tail_ok (some ⟨g, 0, none⟩) c [-1, 1] 2 3 w h (by decide) (by omega) hp
  rw [ex5] at this
  unfold RV at this
  rw [ns_zero, ns_one] at this
  exact this
theorem h6_any (w : World) : Calls Tryz.prog 11 #[.slice none 0 0, .int .i64 2] w fun en w' => en = .returned (.tuple #[.slice none 0 0, .int .i64 1]) ∧ Below w.heap.size w w' :=
  dist_err none 0 [] 2 w RI.none_ (by unfold maxLen; decide) (.inl (by decide))
theorem h7_any (g c : Nat) (w : World) (h : RI w w.heap.size (some ⟨g, 0, none⟩) 1 [51]) : Calls Tryz.prog 11 #[.slice (some ⟨g, 0, none⟩) 1 c, .int .i64 2] w fun en w' => en = .returned (.tuple #[.slice none 0 0, .int .i64 1]) ∧ Below w.heap.size w w' :=
  dist_err (some ⟨g, 0, none⟩) c [51] 2 w h (by unfold maxLen; decide) (.inl (by decide))
theorem h8_any (g c : Nat) (w : World) (h : RI w w.heap.size (some ⟨g, 0, none⟩) 1 [1]) : Calls Tryz.prog 11 #[.slice (some ⟨g, 0, none⟩) 1 c, .int .i64 41] w fun en w' => en = .returned (.tuple #[.slice none 0 0, .int .i64 1]) ∧ Below w.heap.size w w' :=
  dist_err (some ⟨g, 0, none⟩) c [1] 41 w h (by unfold maxLen; decide) (.inr (.inr (by decide)))
end Go.Proofs.YtlkgoljpjeieiaaGreatDoor
