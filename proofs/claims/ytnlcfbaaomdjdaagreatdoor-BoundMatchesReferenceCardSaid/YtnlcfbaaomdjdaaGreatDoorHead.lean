/-
  Chapter 22: the examples of the chapter.
-/
import Derived.Test.YtnlcfbaaomdjdaaGreatDoorBndO
import Derived.Test.YtnlcfbaaomdjdaaGreatDoorExpP
set_option linter.unusedVariables false
set_option linter.unusedSimpArgs false
namespace Go.Proofs.YtnlcfbaaomdjdaaGreatDoor
open Go.RowKit Go.Deep Go.Maps

/-- The ranges of the chapter's examples. -/
def RNG : List Rng := [⟨⟨#[97]⟩, 1, 3⟩, ⟨⟨#[98]⟩, -2, 2⟩]
def okHead (s : ByteArray) (lo hi err : Int) : Bool :=
  (lexL s).err == 0 && (match parF s.size 100 (jLevel 1 (lexL s).toks []) with
    | none => false
    | some res => (endP res).err == 0 && (boundsL (endP res).out RNG).1 == lo && (boundsL (endP res).out RNG).2.1 == hi && (boundsL (endP res).out RNG).2.2 == err)
theorem okHead_is {s : ByteArray} {lo hi err : Int} (h : okHead s lo hi err = true) : ∃ r, ParseIs s r ∧ r.err = 0 ∧ boundsL r.out RNG = (lo, hi, err) := by
  unfold okHead at h
  simp only [Bool.and_eq_true, beq_iff_eq] at h
  obtain ⟨h1, h2⟩ := h
  cases hp : parF s.size 100 (jLevel 1 (lexL s).toks []) with
  | none => rw [hp] at h2; cases h2
  | some res =>
    rw [hp] at h2
    simp only [Bool.and_eq_true, beq_iff_eq] at h2
    obtain ⟨⟨⟨g1, g2⟩, g3⟩, g4⟩ := h2
    refine ⟨endP res, ?_, g1, ?_⟩
    · unfold ParseIs
      rw [if_neg (by rw [h1]; simp)]
      exact ⟨100, res, hp, rfl⟩
    · rw [← g2, ← g3, ← g4]
theorem hd1 : okHead ⟨#[97, 32, 45, 32, 98]⟩ (-1) 5 0 = true := by kernel_rfl
theorem hd2 : okHead ⟨#[97, 32, 42, 32, 98]⟩ (-6) 6 0 = true := by kernel_rfl
theorem hd3 : okHead ⟨#[54, 32, 47, 32, 98]⟩ (-6) 6 0 = true := by kernel_rfl
theorem hd4 : okHead ⟨#[55, 32, 47, 32, 97]⟩ (2) 7 0 = true := by kernel_rfl
theorem hd5 : okHead ⟨#[105, 102, 40, 98, 44, 32, 97, 44, 32, 57, 41]⟩ (1) 9 0 = true := by kernel_rfl
theorem hd6 : okHead ⟨#[105, 102, 40, 97, 44, 32, 49, 44, 32, 98, 41]⟩ (1) 1 0 = true := by kernel_rfl
theorem hd7 : okHead ⟨#[97, 32, 60, 32, 52]⟩ (1) 1 0 = true := by kernel_rfl
theorem hd8 : okHead ⟨#[97, 32, 61, 61, 32, 98]⟩ (0) 1 0 = true := by kernel_rfl
theorem hd9 : okHead ⟨#[97, 32, 45, 32, 97]⟩ (-2) 2 0 = true := by kernel_rfl
theorem hd10 : okHead ⟨#[99]⟩ (0) 0 7 = true := by kernel_rfl
theorem hd11 : okHead ⟨#[49, 48, 48, 48, 48, 48, 48, 32, 42, 32, 49, 48, 48, 48, 48, 48, 48, 32, 42, 32, 97]⟩ (0) 0 9 = true := by kernel_rfl

theorem rng_eight : ∀ r ∈ RNG, r.name.size ≤ maxLen := by
  intro r hr
  unfold RNG at hr
  simp only [List.mem_cons, List.not_mem_nil, or_false] at hr
  rcases hr with rfl | rfl <;> decide
theorem rng_any (w : World) : Calls Tryz.prog 27 #[] w fun e w' => (∃ A c, e = .returned (.slice A 2 c) ∧ RRg w' w'.heap.size A 2 RNG) ∧ Below w.heap.size w w' := by
  go_enter Tryz.func27, Tryz.ntmps27
  go_wp2
  go_ret
  refine ⟨⟨_, _, rfl, ?_⟩, (Below.refl _ _).alloc (Nat.le_refl _) _⟩
  have := reads_new w #[.string ⟨#[97]⟩, .int .i64 1, .int .i64 3, .string ⟨#[98]⟩, .int .i64 (-2), .int .i64 2] 50 3 2 rfl
  exact Reads.more this (by simp)
set_option maxHeartbeats 1000000 in
theorem is_any (s : ByteArray) (lo hi err : Int) (w : World) (hs : s.size ≤ maxLen) (h : okHead s lo hi err = true) : Calls Tryz.prog 8 #[.string s, .int .i64 lo, .int .i64 hi, .int .i64 err] w fun e w' => e = .returned (.bool true) ∧ Below w.heap.size w w' := by
  obtain ⟨r, hp, he, hb⟩ := okHead_is h
  obtain ⟨out, er, off⟩ := r
  dsimp only at he hb
  subst he
  have HB := hide hb
  clear h hb
  go_enter Tryz.func8, Tryz.ntmps8
  go_wp2_with fail
  refine (parse_any s w hs hp).mono ?_
  rintro e w1 ⟨A, c, rfl, hex, hnam, hlen, hb1⟩
  dsimp only at hex hnam hlen ⊢
  have HEX := hide hex
  have HNM := hide hnam
  have hz1 := hb1.size
  clear hex hnam hp
  go_wp2_with fail
  refine (rng_any w1).mono ?_
  rintro e w2 ⟨⟨A2, c2, rfl, hrg⟩, hb2⟩
  have HEX2 := hide (HEX.out.next hb2)
  have HRG := hide hrg
  have hb12 := hb1.trans (hb2.mono hz1)
  clear hrg hb1 hb2
  go_wp2_with fail
  refine (bounds_any A c out A2 2 c2 RNG w2 HEX2.out HNM.out (by unfold maxLen; omega) HRG.out (by unfold maxLen; omega) rng_eight).mono ?_
  rintro e w3 ⟨rfl, hb3⟩
  rw [HB.out]
  dsimp only
  have hb13 := hb12.trans (hb3.mono hb12.size)
  clear HB HEX HNM HEX2 HRG hb12 hb3
  go_wp2
  go_ret
  exact ⟨rfl, hb13⟩
set_option maxHeartbeats 4000000 in
set_option maxRecDepth 20000 in
theorem head_any (w : World) : Calls Tryz.prog 4 #[] w fun e w' => e = .returned (.bool true) ∧ Below w.heap.size w w' := by
  go_enter Tryz.func4, Tryz.ntmps4
  go_wp2_with fail
  refine (is_any _ _ _ _ w (by decide) hd1).mono ?_
  rintro e w1 ⟨rfl, hb1⟩
  have g1 := hb1
  go_wp2_with fail
  refine (is_any _ _ _ _ w1 (by decide) hd2).mono ?_
  rintro e w2 ⟨rfl, hb2⟩
  have g2 := g1.trans (hb2.mono g1.size)
  clear hb2 g1
  go_wp2_with fail
  refine (is_any _ _ _ _ w2 (by decide) hd3).mono ?_
  rintro e w3 ⟨rfl, hb3⟩
  have g3 := g2.trans (hb3.mono g2.size)
  clear hb3 g2
  go_wp2_with fail
  refine (is_any _ _ _ _ w3 (by decide) hd4).mono ?_
  rintro e w4 ⟨rfl, hb4⟩
  have g4 := g3.trans (hb4.mono g3.size)
  clear hb4 g3
  go_wp2_with fail
  refine (is_any _ _ _ _ w4 (by decide) hd5).mono ?_
  rintro e w5 ⟨rfl, hb5⟩
  have g5 := g4.trans (hb5.mono g4.size)
  clear hb5 g4
  go_wp2_with fail
  refine (is_any _ _ _ _ w5 (by decide) hd6).mono ?_
  rintro e w6 ⟨rfl, hb6⟩
  have g6 := g5.trans (hb6.mono g5.size)
  clear hb6 g5
  go_wp2_with fail
  refine (is_any _ _ _ _ w6 (by decide) hd7).mono ?_
  rintro e w7 ⟨rfl, hb7⟩
  have g7 := g6.trans (hb7.mono g6.size)
  clear hb7 g6
  go_wp2_with fail
  refine (is_any _ _ _ _ w7 (by decide) hd8).mono ?_
  rintro e w8 ⟨rfl, hb8⟩
  have g8 := g7.trans (hb8.mono g7.size)
  clear hb8 g7
  go_wp2_with fail
  refine (is_any _ _ _ _ w8 (by decide) hd9).mono ?_
  rintro e w9 ⟨rfl, hb9⟩
  have g9 := g8.trans (hb9.mono g8.size)
  clear hb9 g8
  go_wp2_with fail
  refine (is_any _ _ _ _ w9 (by decide) hd10).mono ?_
  rintro e w10 ⟨rfl, hb10⟩
  have g10 := g9.trans (hb10.mono g9.size)
  clear hb10 g9
  go_wp2_with fail
  refine (is_any _ _ _ _ w10 (by decide) hd11).mono ?_
  rintro e w11 ⟨rfl, hb11⟩
  have g11 := g10.trans (hb11.mono g10.size)
  clear hb11 g10
  go_wp2
  go_ret
  exact ⟨rfl, g11⟩
end Go.Proofs.YtnlcfbaaomdjdaaGreatDoor
