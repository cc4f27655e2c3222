/-
  Chapter 23: the examples of the chapter.
-/
import Derived.Test.YtkofmiegnfgbjaaGreatDoorMeE
import Derived.Test.YtkofmiegnfgbjaaGreatDoorExpP
set_option linter.unusedVariables false
set_option linter.unusedSimpArgs false
namespace Go.Proofs.YtkofmiegnfgbjaaGreatDoor
open Go.RowKit Go.Deep Go.Maps

def okHas (s : ByteArray) (l : List Vr) (n r : Int) : Bool :=
  (lexL s).err == 0 && (match parF s.size 100 (jLevel 1 (lexL s).toks []) with
    | none => false
    | some res => (endP res).err == 0 && (evalM (endP res).out l).1 == n && (evalM (endP res).out l).2 == r)
theorem okHas_is {s : ByteArray} {l : List Vr} {n r : Int} (h : okHas s l n r = true) : ∃ p, ParseIs s p ∧ p.err = 0 ∧ evalM p.out l = (n, r) := by
  unfold okHas at h
  simp only [Bool.and_eq_true, beq_iff_eq] at h
  obtain ⟨h1, h2⟩ := h
  cases hp : parF s.size 100 (jLevel 1 (lexL s).toks []) with
  | none => rw [hp] at h2; cases h2
  | some res =>
    rw [hp] at h2
    simp only [Bool.and_eq_true, beq_iff_eq] at h2
    obtain ⟨⟨g1, g2⟩, g3⟩ := h2
    refine ⟨endP res, ?_, g1, ?_⟩
    · unfold ParseIs
      rw [if_neg (by rw [h1]; simp)]
      exact ⟨100, res, hp, rfl⟩
    · rw [← g2, ← g3]
def VX (n : Int) : List Vr := [⟨⟨#[120]⟩, n⟩]
def VAA : List Vr := [⟨⟨#[97, 103, 101]⟩, 7⟩, ⟨⟨#[97, 105, 114, 109, 97, 115, 115]⟩, 1000⟩]
theorem hm1 : okHas ⟨#[97, 103, 101, 32, 42, 32, 49, 48, 32, 45, 32, 97, 105, 114, 109, 97, 115, 115, 32, 47, 32, 51]⟩ VAA (-263) 0 = true := by kernel_rfl
theorem hm2 : okHas ⟨#[105, 102, 40, 120, 32, 60, 32, 51, 44, 32, 109, 105, 110, 40, 120, 44, 32, 57, 41, 44, 32, 45, 120, 41]⟩ (VX 2) 2 0 = true := by kernel_rfl
theorem hm3 : okHas ⟨#[105, 102, 40, 120, 32, 60, 32, 51, 44, 32, 109, 105, 110, 40, 120, 44, 32, 57, 41, 44, 32, 45, 120, 41]⟩ (VX 5) (-5) 0 = true := by kernel_rfl
theorem hm4 : okHas ⟨#[45, 55, 32, 47, 32, 50, 32, 43, 32, 55, 32, 47, 32, 48]⟩ [] (-4) 0 = true := by kernel_rfl
theorem hm5 : okHas ⟨#[49, 48, 48, 48, 48, 48, 48, 32, 42, 32, 49, 48, 48, 48, 48, 48, 48, 32, 42, 32, 50]⟩ [] 0 9 = true := by kernel_rfl
theorem hm6 : okHas ⟨#[120, 32, 43, 32, 121]⟩ (VX 1) 0 7 = true := by kernel_rfl

theorem vx_any (n : Int) (w : World) : Calls Tryz.prog 64 #[.int .i64 n] w fun e w' => e = .returned (.slice (some ⟨w.heap.size, 0, none⟩) 1 1) ∧ RVr w' w'.heap.size (some ⟨w.heap.size, 0, none⟩) 1 (VX n) ∧ Below w.heap.size w w' := by
  go_enter Tryz.func64, Tryz.ntmps64
  go_wp2
  go_ret
  refine ⟨rfl, ?_, (Below.refl _ _).alloc (Nat.le_refl _) _⟩
  have := reads_new w #[.string ⟨#[120]⟩, .int .i64 n] 44 2 1 rfl
  exact Reads.more this (by simp)
set_option maxHeartbeats 1000000 in
theorem has_any (s : ByteArray) (A : Option Addr) (m c : Nat) (l : List Vr) (n : Int) (w : World) (hs : s.size ≤ maxLen) (hl : RVr w w.heap.size A m l) (hm : m ≤ maxLen) (hn : ∀ r ∈ l, r.name.size ≤ maxLen) (h : okHas s l n 0 = true) :
    Calls Tryz.prog 65 #[.string s, .slice A m c, .int .i64 n] w fun e w' => e = .returned (.bool true) ∧ Below w.heap.size w w' := by
  obtain ⟨r, hp, he, hb⟩ := okHas_is h
  obtain ⟨out, er, off⟩ := r
  dsimp only at he hb
  subst he
  have HB := hide hb
  have HL := hide hl
  clear h hb hl
  go_enter Tryz.func65, Tryz.ntmps65
  go_wp2_with fail
  refine (parse_any s w hs hp).mono ?_
  rintro e w1 ⟨A1, c1, rfl, hex, hnam, hlen, hb1⟩
  dsimp only at hex hnam hlen ⊢
  have HEX := hide hex
  have HNM := hide hnam
  have hz1 := hb1.size
  have HL1 := hide (HL.out.next hb1)
  clear hex hnam hp HL
  go_wp2_with fail
  refine (meritEval_any A1 c1 out A m c l w1 HEX.out HNM.out (by unfold maxLen; omega) HL1.out hm hn).mono ?_
  rintro e w2 ⟨rfl, hb2⟩
  rw [HB.out]
  dsimp only
  have hb12 := hb1.trans (hb2.mono hz1)
  clear HB HEX HNM HL1 hb1 hb2 hn
  go_wp2
  go_ret
  exact ⟨rfl, hb12⟩
set_option maxHeartbeats 1000000 in
theorem fails_any (s : ByteArray) (A : Option Addr) (m c : Nat) (l : List Vr) (n r : Int) (w : World) (hs : s.size ≤ maxLen) (hl : RVr w w.heap.size A m l) (hm : m ≤ maxLen) (hn : ∀ r ∈ l, r.name.size ≤ maxLen) (h : okHas s l n r = true) :
    Calls Tryz.prog 66 #[.string s, .slice A m c, .int .i64 r] w fun e w' => e = .returned (.bool true) ∧ Below w.heap.size w w' := by
  obtain ⟨p, hp, he, hb⟩ := okHas_is h
  obtain ⟨out, er, off⟩ := p
  dsimp only at he hb
  subst he
  have HB := hide hb
  have HL := hide hl
  clear h hb hl
  go_enter Tryz.func66, Tryz.ntmps66
  go_wp2_with fail
  refine (parse_any s w hs hp).mono ?_
  rintro e w1 ⟨A1, c1, rfl, hex, hnam, hlen, hb1⟩
  dsimp only at hex hnam hlen ⊢
  have HEX := hide hex
  have HNM := hide hnam
  have hz1 := hb1.size
  have HL1 := hide (HL.out.next hb1)
  clear hex hnam hp HL
  go_wp2_with fail
  refine (meritEval_any A1 c1 out A m c l w1 HEX.out HNM.out (by unfold maxLen; omega) HL1.out hm hn).mono ?_
  rintro e w2 ⟨rfl, hb2⟩
  rw [HB.out]
  dsimp only
  have hb12 := hb1.trans (hb2.mono hz1)
  clear HB HEX HNM HL1 hb1 hb2 hn
  go_wp2
  go_ret
  exact ⟨rfl, hb12⟩
theorem vx_eight (n : Int) : ∀ r ∈ VX n, r.name.size ≤ maxLen := by
  intro r hr
  unfold VX at hr
  simp only [List.mem_cons, List.not_mem_nil, or_false] at hr
  rw [hr]
  show 1 ≤ maxLen
  decide
theorem vaa_eight : ∀ r ∈ VAA, r.name.size ≤ maxLen := by
  intro r hr
  unfold VAA at hr
  simp only [List.mem_cons, List.not_mem_nil, or_false] at hr
  rcases hr with rfl | rfl <;> decide
theorem clamp_at (n v : Int) (w : World) (h : clampL n = v) : Calls Tryz.prog 67 #[.int .i64 n] w fun e w' => e = .returned (.int .i64 v) ∧ w = w' := by
  have := meritClamp_any n w
  rw [h] at this
  exact this
set_option maxHeartbeats 4000000 in
set_option maxRecDepth 20000 in
theorem head_any (w : World) : Calls Tryz.prog 24 #[] w fun e w' => e = .returned (.bool true) ∧ Below w.heap.size w w' := by
  have b0 : Below w.heap.size w (w.alloc (Obj.cells (cellsV VAA).toArray 44)) := (Below.refl _ _).alloc (Nat.le_refl _) _
  have r0 : RVr (w.alloc (Obj.cells (cellsV VAA).toArray 44)) (w.alloc (Obj.cells (cellsV VAA).toArray 44)).heap.size (some ⟨w.heap.size, 0, none⟩) 2 VAA := by
    have := reads_new w (cellsV VAA).toArray 44 2 2 rfl
    exact Reads.more (by simpa using this) (by simp)
  have B0 := hide b0
  have R0 := hide r0
  clear b0 r0
  go_enter Tryz.func24, Tryz.ntmps24
  go_wp2_with fail
  have B0' : Hid (Below w.heap.size w (w.alloc (Obj.cells #[.string ⟨#[97, 103, 101]⟩, .int .i64 7, .string ⟨#[97, 105, 114, 109, 97, 115, 115]⟩, .int .i64 1000] 44))) := B0.out
  have R0' : Hid (RVr (w.alloc (Obj.cells #[.string ⟨#[97, 103, 101]⟩, .int .i64 7, .string ⟨#[97, 105, 114, 109, 97, 115, 115]⟩, .int .i64 1000] 44)) (w.alloc (Obj.cells #[.string ⟨#[97, 103, 101]⟩, .int .i64 7, .string ⟨#[97, 105, 114, 109, 97, 115, 115]⟩, .int .i64 1000] 44)).heap.size (some ⟨w.heap.size, 0, none⟩) 2 VAA) := R0.out
  generalize w.alloc (Obj.cells #[.string ⟨#[97, 103, 101]⟩, .int .i64 7, .string ⟨#[97, 105, 114, 109, 97, 115, 115]⟩, .int .i64 1000] 44) = w0 at B0' R0' ⊢
  clear B0 R0
  refine (has_any _ _ 2 2 VAA _ w0 (by decide) R0'.out (by decide) vaa_eight hm1).mono ?_
  rintro e w1 ⟨rfl, hb1⟩
  have g := B0'.out.trans (hb1.mono B0'.out.size)
  clear hb1 B0' R0'
  go_wp2_with fail
  refine (vx_any 2 w1).mono ?_
  rintro e v1 ⟨rfl, hr, hb⟩
  have HR := hide hr
  have g := g.trans (hb.mono g.size)
  clear hr hb
  generalize w1.heap.size = q at HR ⊢
  go_wp2_with fail
  refine (has_any _ _ 1 1 (VX 2) _ v1 (by decide) HR.out (by decide) (vx_eight _) hm2).mono ?_
  rintro e w2 ⟨rfl, hb⟩
  have g := g.trans (hb.mono g.size)
  clear hb HR
  go_wp2_with fail
  refine (vx_any 5 w2).mono ?_
  rintro e v2 ⟨rfl, hr, hb⟩
  have HR := hide hr
  have g := g.trans (hb.mono g.size)
  clear hr hb
  generalize w2.heap.size = q at HR ⊢
  go_wp2_with fail
  refine (has_any _ _ 1 1 (VX 5) _ v2 (by decide) HR.out (by decide) (vx_eight _) hm3).mono ?_
  rintro e w3 ⟨rfl, hb⟩
  have g := g.trans (hb.mono g.size)
  clear hb HR
  go_wp2_with fail
  refine (has_any _ none 0 0 [] _ w3 (by decide) Reads.none_ (by decide) (by simp) hm4).mono ?_
  rintro e w4 ⟨rfl, hb⟩
  have g := g.trans (hb.mono g.size)
  clear hb
  go_wp2_with fail
  refine (fails_any _ none 0 0 [] 0 9 w4 (by decide) Reads.none_ (by decide) (by simp) hm5).mono ?_
  rintro e w5 ⟨rfl, hb⟩
  have g := g.trans (hb.mono g.size)
  clear hb
  go_wp2_with fail
  refine (vx_any 1 w5).mono ?_
  rintro e v5 ⟨rfl, hr, hb⟩
  have HR := hide hr
  have g := g.trans (hb.mono g.size)
  clear hr hb
  generalize w5.heap.size = q at HR ⊢
  go_wp2_with fail
  refine (fails_any _ _ 1 1 (VX 1) 0 7 v5 (by decide) HR.out (by decide) (vx_eight _) hm6).mono ?_
  rintro e w6 ⟨rfl, hb⟩
  have g := g.trans (hb.mono g.size)
  clear hb HR
  go_wp2_with fail
  refine (clamp_at 0 1 w6 (by decide)).mono ?_
  rintro e w' ⟨rfl, rfl⟩
  go_wp2_with fail
  refine (clamp_at 10001 10000 w6 (by decide)).mono ?_
  rintro e w' ⟨rfl, rfl⟩
  go_wp2_with fail
  refine (clamp_at 77 77 w6 (by decide)).mono ?_
  rintro e w' ⟨rfl, rfl⟩
  go_wp2
  go_ret
  exact ⟨rfl, g⟩
end Go.Proofs.YtkofmiegnfgbjaaGreatDoor
