/-
  Chapter 3, natural.Compare; chapter 4, rational: Valid.
-/
import Derived.Test.YtlkgoljpjeieiaaGreatDoorTotM
import Derived.Test.YtlkgoljpjeieiaaGreatDoorFmtU
set_option linter.unusedVariables false
set_option linter.unusedSimpArgs false
namespace Go.Proofs.YtlkgoljpjeieiaaGreatDoor
open Go.RowKit Go.Deep Go.Maps

set_option maxHeartbeats 1000000 in
set_option maxRecDepth 100000 in
theorem ncmp_any (a b : Nat) (w : World) (ha : a < 1000000000) (hb : b < 1000000000) :
    Calls Tryz.prog 38 #[.string (NS a), .string (NS b)] w fun en w' => en = .returned (.int .i64 (cmpN a b)) ∧ Below w.heap.size w w' := by
  go_enter Tryz.func38, Tryz.ntmps38
  go_wp2_with fail
  refine (nvalid_any a ha w).mono ?_
  rintro en w1 ⟨rfl, hb1⟩
  have HB1 := hide hb1
  clear hb1
  go_wp2_with fail
  refine (nvalid_any b hb w1).mono ?_
  rintro en w2 ⟨rfl, hb2⟩
  have HB2 := hide (HB1.out.trans (hb2.mono HB1.out.size))
  clear hb2 HB1
  go_wp2_with fail
  refine (read_any a ha w2).mono ?_
  rintro en w3 ⟨b3, c3, rfl, r3, q3, m3, hb3, _⟩
  have HB3 := hide (HB2.out.trans (hb3.mono HB2.out.size))
  have HR3 := hide r3
  clear hb3 r3 HB2
  go_wp2_with fail
  refine (read_any b hb w3).mono ?_
  rintro en w4 ⟨b4, c4, rfl, r4, q4, m4, hb4, _⟩
  have HB4 := hide (HB3.out.trans (hb4.mono HB3.out.size))
  have hn : ∀ x, x < 1000000000 → nlim x ≤ 50 := fun x hx => Nat.le_trans (nlim_bd (k := 1) (by rw [Nat.pow_one]; exact hx)) (by omega)
  have HD := hide (lcomp_any (some ⟨b3, 0, none⟩) (some ⟨b4, 0, none⟩) c3 c4 a b _ _ w4 (HR3.out.next hb4) r4 (hn a ha) (hn b hb))
  clear hb4 r4 HB3 HR3 hn
  go_wp2_with fail
  refine HD.out.mono ?_
  rintro en w5 ⟨rfl, m5, hw5⟩
  have HB5 : Hid (Below w.heap.size w w5) := hide (by rw [hw5]; exact below_drewN HB4.out _)
  clear hw5
  go_wp2
  go_ret
  exact ⟨rfl, HB5.out⟩
/-- A quotient that is in lowest terms, not negative, of small numbers. -/
def Good (p : Nat × Nat) : Prop := p.1 < 1000000000 ∧ p.2 < 1000000000 ∧ p.2 ≠ 0 ∧ (p.1 = 0 → p.2 = 1) ∧ Nat.gcd p.1 p.2 = 1
theorem low17_good {s a : Nat} (hsa : s ≤ a) (ha : a < 1000000000) (h0 : a ≠ 0) : Good (low17 s a) := by
  have h1 := low17_le hsa (Nat.pos_of_ne_zero h0)
  have h2 := low17_den (s := s) (Nat.pos_of_ne_zero h0)
  refine ⟨by omega, by omega, by omega, fun h => ?_, ?_⟩
  · by_cases hs : s = 0
    · rw [hs]; unfold low17; rw [if_pos rfl]
    · have h3 := low17_co hs (Nat.pos_of_ne_zero h0)
      rw [h, Nat.gcd_zero_left] at h3
      exact h3
  · by_cases hs : s = 0
    · rw [hs]; unfold low17; rw [if_pos rfl]; decide
    · exact low17_co hs (Nat.pos_of_ne_zero h0)
set_option maxHeartbeats 1000000 in
set_option maxRecDepth 100000 in
theorem rvalid_any (p : Nat × Nat) (w : World) (h : Good p) (hp : Pow w) :
    Calls Tryz.prog 35 #[RV false p] w fun en w' => en = .returned (.bool true) ∧ Below w.heap.size w w' := by
  obtain ⟨x, y⟩ := p
  obtain ⟨hx, hy, hy0, hx1, hg⟩ := h
  replace hx : x < 1000000000 := hx
  replace hy : y < 1000000000 := hy
  replace hy0 : y ≠ 0 := hy0
  replace hx1 : x = 0 → y = 1 := hx1
  replace hg : Nat.gcd x y = 1 := hg
  unfold RV
  have HP := hide hp
  have ey : ((NS y).toList == [48]) = false := by rw [ns_is0]; exact decide_eq_false hy0
  have HB0 : Hid (Below w.heap.size w (w.alloc (Obj.cells #[.bool false, .string (NS x), .string (NS y)] 31))) := hide ((Below.refl _ _).alloc (Nat.le_refl _) _)
  have HK0 := hide (Blk.new w 31 #[.bool false, .string (NS x), .string (NS y)])
  clear hp
  go_enter Tryz.func35, Tryz.ntmps35
  go_wp2_with fail
  generalize w.alloc (Obj.cells #[.bool false, .string (NS x), .string (NS y)] 31) = w1 at HB0 HK0 ⊢
  obtain ⟨g, hgq⟩ : ∃ g, g = w.heap.size := ⟨_, rfl⟩
  have HQ := hide hgq
  rw [← hgq] at HB0 HK0 ⊢
  clear hgq
  refine (nvalid_any x hx w1).mono ?_
  rintro en w2 ⟨rfl, hb2⟩
  have HB2 := hide (HB0.out.trans (hb2.mono (Nat.le_of_lt HK0.out.lt)))
  have HK2 := hide (HK0.out.below hb2 HK0.out.lt)
  have c2 : w2.cell? ⟨g, 2, none⟩ = some (.string (NS y)) := HK2.out.cell 2
  clear hb2 HB0 HK0
  go_wp2_with fail
  refine (nvalid_any y hy w2).mono ?_
  rintro en w3 ⟨rfl, hb3⟩
  have HB3 := hide (HB2.out.trans (hb3.mono (Nat.le_of_lt HK2.out.lt)))
  have HK3 := hide (HK2.out.below hb3 HK2.out.lt)
  have d0 : w3.cell? ⟨g, 0, none⟩ = some (.bool false) := HK3.out.cell 0
  have d1 : w3.cell? ⟨g, 1, none⟩ = some (.string (NS x)) := HK3.out.cell 1
  have d2 : w3.cell? ⟨g, 2, none⟩ = some (.string (NS y)) := HK3.out.cell 2
  clear hb3 HB2 HK2 c2
  by_cases h0 : x = 0
  · subst h0
    have hy1 := hx1 rfl
    subst hy1
    have ex : ((NS 0).toList == [48]) = true := by rw [ns_is0]; rfl
    rw [ns_zero] at d1 ex
    rw [ns_one] at d2 ey
    have hk : w3.heap[g]? = some (.cells #[.bool false, .string ⟨#[48]⟩, .string ⟨#[49]⟩] 31 (0, 0)) := by
      have := HK3.out
      rw [ns_zero, ns_one] at this
      exact this
    clear hx1 hg
    go_wp2
    go_ret
    exact ⟨rfl, by rw [← HQ.out]; exact HB3.out⟩
  · have ex : ((NS x).toList == [48]) = false := by rw [ns_is0]; exact decide_eq_false h0
    have HG := hide (ngcd_any x y w3 hx hy (by rw [hg]; decide) (HP.out.below HB3.out (by rw [HQ.out]; exact HP.out.lt)))
    rw [hg] at HG
    have eg : ((NS 1).toList == [49]) = true := by rw [ns_one, Lib.toList_data]; rfl
    clear hx1 hg
    go_wp2_with fail
    refine HG.out.mono ?_
    rintro en w4 ⟨rfl, hb4⟩
    have HB4 := hide (HB3.out.trans (hb4.mono (Nat.le_of_lt HK3.out.lt)))
    clear hb4 HB3 HK3 HG d0 d1 d2
    go_wp2
    go_ret
    exact ⟨rfl, by rw [← HQ.out]; exact HB4.out⟩
set_option maxRecDepth 100000 in
theorem abs_any (s : Nat) (w : World) (hs : s < 1000000000) (hp : Pow w) :
    Calls Tryz.prog 34 #[.int .i64 s] w fun en w' => en = .returned (.string (NS s)) ∧ Below w.heap.size w w' := by
  have HF := hide (fmtU_any s (by omega) w hp)
  clear hp
  go_enter Tryz.func34, Tryz.ntmps34
  go_wp2_with fail
  refine HF.out.mono ?_
  rintro en w1 ⟨rfl, k, os, rfl⟩
  go_wp2
  go_ret
  exact ⟨rfl, below_grow _ _ _⟩
set_option maxHeartbeats 1000000 in
set_option maxRecDepth 100000 in
theorem rof_any (s a : Nat) (w : World) (hs : s < 1000000000) (ha : a < 1000000000) (ha0 : a ≠ 0) (hp : Pow w) :
    Calls Tryz.prog 20 #[.int .i64 s, .int .i64 a] w fun en w' => en = .returned (.tuple #[RV false (low17 s a), .int .i64 0]) ∧ Below w.heap.size w w' := by
  have HP := hide hp
  clear hp
  have HB1 : Hid (Below w.heap.size w (w.alloc (Obj.cells #[.bool false, .string ⟨#[]⟩, .string ⟨#[]⟩] 31))) := hide ((Below.refl _ _).alloc (Nat.le_refl _) _)
  have HK1 := hide (Blk.new w 31 #[.bool false, .string ⟨#[]⟩, .string ⟨#[]⟩])
  have q0 : (decide ((s : Int) < 0) == decide ((a : Int) < 0)) = true := by rw [decide_eq_false (by omega), decide_eq_false (by omega)]; rfl
  go_enter Tryz.func20, Tryz.ntmps20
  go_wp2_with fail
  generalize w.alloc (Obj.cells #[.bool false, .string ⟨#[]⟩, .string ⟨#[]⟩] 31) = w1 at HB1 HK1 ⊢
  obtain ⟨g, hgq⟩ : ∃ g, g = w.heap.size := ⟨_, rfl⟩
  have HQ := hide hgq
  rw [← hgq] at HB1 HK1 ⊢
  clear hgq
  refine (abs_any s w1 hs (HP.out.below HB1.out (by rw [HQ.out]; exact HP.out.lt))).mono ?_
  rintro en w2 ⟨rfl, hb2⟩
  have HB2 := hide (HB1.out.trans (hb2.mono (Nat.le_of_lt HK1.out.lt)))
  have HK2 := hide (HK1.out.below hb2 HK1.out.lt)
  clear hb2 HB1 HK1
  have HA2 := hide (abs_any a w2 ha (HP.out.below HB2.out (by rw [HQ.out]; exact HP.out.lt)))
  go_wp2_with fail
  refine HA2.out.mono ?_
  rintro en w3 ⟨rfl, hb3⟩
  have HB3 := hide (HB2.out.trans (hb3.mono (Nat.le_of_lt HK2.out.lt)))
  have HK3 := hide (HK2.out.below hb3 HK2.out.lt)
  clear hb3 HB2 HK2 HA2
  have HLW := hide (make_any s a w3 hs ha ha0 (HP.out.below HB3.out (by rw [HQ.out]; exact HP.out.lt)))
  go_wp2_with fail
  refine HLW.out.mono ?_
  rintro en w4 ⟨rfl, hb4⟩
  have HB4 := hide (HB3.out.trans (hb4.mono (Nat.le_of_lt HK3.out.lt)))
  have hk4 := HK3.out.below hb4 HK3.out.lt
  have c0 : w4.cell? ⟨g, 0, none⟩ = some (.bool false) := hk4.cell 0
  have c1 : w4.cell? ⟨g, 1, none⟩ = some (.string ⟨#[]⟩) := hk4.cell 1
  have c2 : w4.cell? ⟨g, 2, none⟩ = some (.string ⟨#[]⟩) := hk4.cell 2
  have f0 := hk4.frozen 0
  have f1 := hk4.frozen 1
  have f2 := hk4.frozen 2
  have hk4b : w4.heap[g]? = some (.cells #[.bool false, .string ⟨#[]⟩, .string ⟨#[]⟩] 31 (0, 0)) := hk4
  have SET := hide (set3 hk4 (.bool false) (.string (NS (low17 s a).1)) (.string (NS (low17 s a).2)))
  have HBS := hide (below3 HB4.out (g := g) (Nat.le_refl _) (.bool false) (.string (NS (low17 s a).1)) (.string (NS (low17 s a).2)))
  clear hb4 HB3 HK3 HLW hk4 HB4
  unfold RV
  go_wp2
  refine bodyPost_ret (results_cell1 rfl _ _ g 31 _ (0, 0) _ rfl SET.out Tryz.underlying31 rfl (by kernel_rfl)) rfl ?_
  exact ⟨rfl, by rw [← HQ.out]; exact HBS.out⟩
end Go.Proofs.YtlkgoljpjeieiaaGreatDoor
