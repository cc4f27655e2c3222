/-
  Chapter 17: Distribution without an answer; Tail.
-/
import Derived.Test.YtlkgoljpjeieiaaGreatDoorDisD
import Derived.Test.YtlkgoljpjeieiaaGreatDoorRatA
set_option linter.unusedVariables false
set_option linter.unusedSimpArgs false
namespace Go.Proofs.YtlkgoljpjeieiaaGreatDoor
open Go.RowKit Go.Deep Go.Maps

set_option maxRecDepth 100000 in
theorem dist_err (A : Option Addr) (ca : Nat) (tape : List Int) (n : Int) (w : World) (h : RI w w.heap.size A tape.length tape) (hm : tape.length ≤ maxLen) (hv : valid17 tape = false ∨ n < 0 ∨ 40 < n) :
    Calls Tryz.prog 11 #[.slice A tape.length ca, .int .i64 n] w fun en w' => en = .returned (.tuple #[.slice none 0 0, .int .i64 1]) ∧ Below w.heap.size w w' := by
  have HB : Hid (Below w.heap.size w (w.alloc (.cells #[.slice A tape.length ca] 22))) := hide ((Below.refl _ _).alloc (Nat.le_refl _) _)
  have HV := hide (nv17_any A ca tape (w.alloc (.cells #[.slice A tape.length ca] 22)) (h.allocs _) hm)
  unfold maxLen at hm
  clear h
  go_enter Tryz.func11, Tryz.ntmps11
  go_wp2_with fail
  refine HV.out.mono ?_
  rintro en w' ⟨rfl, hw'⟩
  subst hw'
  cases hva : valid17 tape
  · go_wp2
    go_ret2
    exact ⟨rfl, HB.out⟩
  · rw [hva] at hv
    have hv : n < 0 ∨ 40 < n := hv.resolve_left (by decide)
    by_cases h0 : n < 0
    · go_wp2
      go_ret2
      exact ⟨rfl, HB.out⟩
    · have h4 : 40 < n := hv.resolve_left h0
      go_wp2
      go_ret2
      exact ⟨rfl, HB.out⟩
/-- The sums of the counts, and of those from a bound on. -/
def allT (l : List (Int × Nat)) : Nat := (l.map (·.2)).sum
def someT (l : List (Int × Nat)) (b : Int) : Nat := ((l.filter fun p => decide (b ≤ p.1)).map (·.2)).sum
theorem allT_snoc (l : List (Int × Nat)) (p : Int × Nat) : allT (l ++ [p]) = allT l + p.2 := by simp [allT]
theorem someT_snoc (l : List (Int × Nat)) (b : Int) (p : Int × Nat) : someT (l ++ [p]) b = someT l b + if b ≤ p.1 then p.2 else 0 := by
  unfold someT
  rw [List.filter_append, List.map_append, List.sum_append]
  by_cases h : b ≤ p.1 <;> simp [h]
theorem take_snocO {l : List (Int × Nat)} {j : Nat} (hj : j < l.length) : l.take (j + 1) = l.take j ++ [dAt l j] := by
  rw [List.take_succ_eq_append_getElem hj]
  have := dAt_get hj
  rw [List.getElem?_eq_getElem hj] at this
  rw [Option.some.inj this]
theorem allT_le (l : List (Int × Nat)) : ∀ j, allT (l.take j) ≤ allT l := fun j => by
  have hg : ∀ a b : List (Int × Nat), allT (a ++ b) = allT a + allT b := fun a b => by simp [allT]
  have h := hg (l.take j) (l.drop j)
  rw [List.take_append_drop] at h
  omega
theorem someT_le (l : List (Int × Nat)) (b : Int) : someT l b ≤ allT l := by
  induction l with
  | nil => simp [someT, allT]
  | cons p l ih =>
    have h1 : allT (p :: l) = p.2 + allT l := by simp [allT]
    have h2 : someT (p :: l) b = (if b ≤ p.1 then p.2 else 0) + someT l b := by
      unfold someT
      by_cases h : b ≤ p.1 <;> simp [h]
    rw [h1, h2]
    split <;> omega
set_option maxHeartbeats 1000000 in
set_option maxRecDepth 100000 in
theorem tail_err (A : Option Addr) (ca : Nat) (tape : List Int) (n b : Int) (w : World) (h : RI w w.heap.size A tape.length tape) (hm : tape.length ≤ maxLen) (hv : valid17 tape = false ∨ n < 0 ∨ 40 < n) :
    Calls Tryz.prog 13 #[.slice A tape.length ca, .int .i64 n, .int .i64 b] w fun en w' => en = .returned (.tuple #[.agg #[.bool false, .string ⟨#[]⟩, .string ⟨#[]⟩], .int .i64 1]) ∧ Below w.heap.size w w' := by
  have hb1 : Below w.heap.size w (w.alloc (Obj.cells #[.bool false, .string ⟨#[]⟩, .string ⟨#[]⟩] 31)) := (Below.refl _ _).alloc (Nat.le_refl _) _
  have HB1 := hide hb1
  have HK1 := hide (Blk.new w 31 #[.bool false, .string ⟨#[]⟩, .string ⟨#[]⟩])
  have HD := hide (dist_err A ca tape n (w.alloc (Obj.cells #[.bool false, .string ⟨#[]⟩, .string ⟨#[]⟩] 31)) (h.allocs _) hm hv)
  clear h hb1 hv
  unfold maxLen at hm
  go_enter Tryz.func13, Tryz.ntmps13
  go_wp2_with fail
  generalize w.alloc (Obj.cells #[.bool false, .string ⟨#[]⟩, .string ⟨#[]⟩] 31) = w1 at HB1 HK1 HD ⊢
  obtain ⟨g, hgq⟩ : ∃ g, g = w.heap.size := ⟨_, rfl⟩
  have HQ := hide hgq
  rw [← hgq] at HB1 HK1 ⊢
  clear hgq
  refine HD.out.mono ?_
  rintro en w2 ⟨rfl, hb2⟩
  have HB2 := hide (HB1.out.trans (hb2.mono (Nat.le_of_lt HK1.out.lt)))
  have hk2 := HK1.out.below hb2 HK1.out.lt
  have c0 : w2.cell? ⟨g, 0, none⟩ = some (.bool false) := hk2.cell 0
  have c1 : w2.cell? ⟨g, 1, none⟩ = some (.string ⟨#[]⟩) := hk2.cell 1
  have c2 : w2.cell? ⟨g, 2, none⟩ = some (.string ⟨#[]⟩) := hk2.cell 2
  have f0 := hk2.frozen 0
  have f1 := hk2.frozen 1
  have f2 := hk2.frozen 2
  have hk4b : w2.heap[g]? = some (.cells #[.bool false, .string ⟨#[]⟩, .string ⟨#[]⟩] 31 (0, 0)) := hk2
  have SET := hide (set3 hk2 (.bool false) (.string ⟨#[]⟩) (.string ⟨#[]⟩))
  have HBS := hide (below3 HB2.out (g := g) (Nat.le_refl _) (.bool false) (.string ⟨#[]⟩) (.string ⟨#[]⟩))
  clear hb2 HB2 HB1 HK1 HD hk2
  go_wp2
  refine bodyPost_ret (results_cell1 rfl _ _ g 31 _ (0, 0) _ rfl SET.out Tryz.underlying31 rfl (by kernel_rfl)) rfl ?_
  exact ⟨rfl, by rw [← HQ.out]; exact HBS.out⟩
end Go.Proofs.YtlkgoljpjeieiaaGreatDoor
