/-
  Chapter 17: Tail.
-/
import Derived.Test.YtlkgoljpjeieiaaGreatDoorTaiA
set_option linter.unusedVariables false
set_option linter.unusedSimpArgs false
namespace Go.Proofs.YtlkgoljpjeieiaaGreatDoor
open Go.RowKit Go.Deep Go.Maps

theorem allT_dist {tape : List Int} (ht : ∀ t ∈ tape, -50 ≤ t ∧ t ≤ 50) (h1 : 1 ≤ tape.length) (h9 : tape.length ≤ 9) {n : Nat} (hn : n ≤ 6) : allT (dist17 tape n) ≤ 531441 ∧ allT (dist17 tape n) ≠ 0 := by
  have h : allT (dist17 tape n) = tape.length ^ n := total17 ht n
  rw [h]
  constructor
  · refine Nat.le_trans (Nat.pow_le_pow_left h9 n) ?_
    exact Nat.le_trans (Nat.pow_le_pow_right (by omega) hn) (by decide)
  · exact Nat.ne_of_gt (Nat.pow_pos (by omega))
set_option maxHeartbeats 1000000 in
set_option maxRecDepth 100000 in
theorem tail_ok (A : Option Addr) (ca : Nat) (tape : List Int) (n : Nat) (b : Int) (w : World) (h : RI w w.heap.size A tape.length tape) (hv : valid17 tape = true) (hn : n ≤ 6) (hp : Pow w) :
    Calls Tryz.prog 13 #[.slice A tape.length ca, .int .i64 n, .int .i64 b] w fun en w' => en = .returned (.tuple #[RV false (low17 (someT (dist17 tape n) b) (allT (dist17 tape n))), .int .i64 0]) ∧ Below w.heap.size w w' := by
  obtain ⟨t1, t9, ht⟩ := valid17_ok hv
  have HP := hide hp
  obtain ⟨ha1, ha2⟩ := allT_dist ht t1 t9 hn
  have hb1 : Below w.heap.size w (w.alloc (Obj.cells #[.bool false, .string ⟨#[]⟩, .string ⟨#[]⟩] 31)) := (Below.refl _ _).alloc (Nat.le_refl _) _
  have HB1 := hide hb1
  have HK1 := hide (Blk.new w 31 #[.bool false, .string ⟨#[]⟩, .string ⟨#[]⟩])
  have hd0 := dist_ok A ca tape n (w.alloc (Obj.cells #[.bool false, .string ⟨#[]⟩, .string ⟨#[]⟩] 31)) (h.allocs _) hv hn (hp.below hb1 hp.lt)
  unfold DistPost at hd0
  obtain ⟨l, hl⟩ : ∃ l, l = dist17 tape n := ⟨_, rfl⟩
  have hlb : (dist17 tape n).length ≤ 601 := by
    unfold dist17 supp17
    rw [List.length_map]
    refine Nat.le_trans (List.length_filter_le _ _) ?_
    rw [List.length_map, List.length_range]
    omega
  rw [← hl] at hd0 ha1 ha2 hlb ⊢
  have HD := hide hd0
  have HALL : Hid (∀ j, allT (l.take j) ≤ 531441 ∧ someT (l.take j) b ≤ 531441) := hide (fun j => by
    have h1 := allT_le l j
    have h2 := someT_le (l.take j) b
    omega)
  clear h hb1 hv ht hp hd0 hl
  go_enter Tryz.func13, Tryz.ntmps13
  go_wp2_with fail
  generalize w.alloc (Obj.cells #[.bool false, .string ⟨#[]⟩, .string ⟨#[]⟩] 31) = w1 at HB1 HK1 HD ⊢
  obtain ⟨g, hgq⟩ : ∃ g, g = w.heap.size := ⟨_, rfl⟩
  have HQ := hide hgq
  rw [← hgq] at HB1 HK1 ⊢
  clear hgq
  refine HD.out.mono ?_
  rintro en w2 ⟨A2, c2, rfl, hrd, hb2⟩
  have HRD := hide hrd
  have HB2 := hide (HB1.out.trans (hb2.mono (Nat.le_of_lt HK1.out.lt)))
  have HK2 := hide (HK1.out.below hb2 HK1.out.lt)
  obtain ⟨N, hN⟩ : ∃ N, N = l.length := ⟨_, rfl⟩
  have HN := hide hN
  rw [← hN] at HRD hlb ⊢
  clear hrd hb2 HB1 HK1 HD hN
  go_wp2
  rw [← ns_zero]
  go_loopw [10, 11, 26] (fun t10 t11 t26 wr => ∃ j : Nat, j ≤ N ∧ t26 = .int .i64 j ∧ t10 = .string (NS (someT (l.take j) b)) ∧ t11 = .string (NS (allT (l.take j))) ∧ Below w2.heap.size w2 wr) (fun _ _ t26 _ => N - (intOf t26).toNat)
  case atStart => exact ⟨0, Nat.zero_le _, rfl, rfl, rfl, Below.refl _ _⟩
  case round =>
    obtain ⟨j, hj, rfl, rfl, rfl, hbr⟩ := hrel
    have HBR := hide hbr
    clear hbr
    obtain ⟨hs1, hs2⟩ := HALL.out j
    by_cases hjl : j < N
    · obtain ⟨b2, o2, rfl, hb2, x0, x1⟩ := HRD.out.at_ hjl
      have x0 := (HBR.out.cell (p := ⟨b2, o2 + j * 2, none⟩) hb2).trans x0
      have x1 := (HBR.out.cell (p := ⟨b2, o2 + j * 2 + 1, none⟩) hb2).trans x1
      obtain ⟨hs3, hs4⟩ := HALL.out (j + 1)
      have htk := take_snocO (l := l) (j := j) (by rw [← HN.out]; exact hjl)
      rw [htk, allT_snoc] at hs3
      rw [htk, someT_snoc] at hs4
      have HTK := hide htk
      generalize dAt l j = p at x0 x1 hs3 hs4 HTK
      have HA2 : Hid (allT (l.take (j + 1)) = allT (l.take j) + p.2 ∧ someT (l.take (j + 1)) b = someT (l.take j) b + if b ≤ p.1 then p.2 else 0) := hide (by rw [HTK.out]; exact ⟨allT_snoc _ _, someT_snoc _ _ _⟩)
      generalize allT (l.take j) = al at hs1 hs3 HA2 ⊢
      generalize someT (l.take j) b = so at hs2 hs4 HA2 ⊢
      have HB5 : Hid (Below w2.heap.size w2 (wr.alloc (Obj.cells #[.int .i64 p.1, .string (NS p.2)] 38))) := hide (HBR.out.alloc HBR.out.size _)
      have HK5 := hide (Blk.new wr 38 #[.int .i64 p.1, .string (NS p.2)])
      clear htk
      go_upto_region 8 with (fail)
      generalize wr.alloc (Obj.cells #[.int .i64 p.1, .string (NS p.2)] 38) = w5 at HB5 HK5 ⊢
      generalize wr.heap.size = q5 at HK5 ⊢
      have y0 : w5.cell? ⟨q5, 0, none⟩ = some (.int .i64 p.1) := HK5.out.cell 0
      have y1 : w5.cell? ⟨q5, 1, none⟩ = some (.string (NS p.2)) := HK5.out.cell 1
      have hpw5 : Pow w5 := HP.out.below (HB2.out.trans (HB5.out.mono (by have := HK2.out.lt; omega))) (by rw [HQ.out]; exact HP.out.lt)
      have HPW := hide hpw5
      have HAD := hide (nadd_any al p.2 w5 (by omega) (by omega) (by omega) hpw5 hpw5.lt)
      clear x0 x1 hpw5
      go_wp2_with fail
      refine HAD.out.mono ?_
      rintro en w6 ⟨rfl, hb6⟩
      have HK6 := hide (HK5.out.below hb6 HK5.out.lt)
      have HB6 := hide (HB5.out.trans (hb6.mono HB5.out.size))
      have z0 : w6.cell? ⟨q5, 0, none⟩ = some (.int .i64 p.1) := HK6.out.cell 0
      have z1 : w6.cell? ⟨q5, 1, none⟩ = some (.string (NS p.2)) := HK6.out.cell 1
      have hpw6 : Pow w6 := HPW.out.below hb6 HPW.out.lt
      clear hb6 HAD y0 y1 HK5 HB5
      by_cases hle : b ≤ p.1
      · rw [if_pos hle] at hs4 HA2
        have HAD2 := hide (nadd_any so p.2 w6 (by omega) (by omega) (by omega) hpw6 hpw6.lt)
        clear hpw6
        go_wp2_with fail
        refine HAD2.out.mono ?_
        rintro en w7 ⟨rfl, hb7⟩
        have HB7 := hide (HB6.out.trans (hb7.mono HB6.out.size))
        clear hb7 HAD2 z0 z1
        go_wp2
        go_roundw
        case rel => exact ⟨j + 1, by omega, by go_num, by rw [HA2.out.2], by rw [HA2.out.1], HB7.out⟩
        case measure => simp [intOf] <;> omega
      · rw [if_neg hle] at hs4 HA2
        have d1 : decide (b ≤ p.1) = false := decide_eq_false hle
        clear hpw6
        go_wp2
        go_roundw
        case rel => exact ⟨j + 1, by omega, by go_num, by rw [HA2.out.2, Nat.add_zero], by rw [HA2.out.1], HB6.out⟩
        case measure => simp [intOf] <;> omega
    · obtain rfl : j = N := by omega
      have htl : l.take j = l := by rw [HN.out]; exact List.take_length
      rw [htl]
      have hs5 : someT l b ≤ 531441 := by rw [← htl]; exact hs2
      have HB4 := hide (HB2.out.trans (HBR.out.mono (by have := HK2.out.lt; omega)))
      have HK4 := hide (HK2.out.below HBR.out HK2.out.lt)
      have HM := hide (make_any (someT l b) (allT l) wr (by omega) (by omega) ha2 (HP.out.below HB4.out (by rw [HQ.out]; exact HP.out.lt)))
      clear HK2 HB2 HBR HRD htl hs1 hs2 hs5
      go_wp2_with fail
      refine HM.out.mono ?_
      rintro en w5 ⟨rfl, hb5⟩
      have hk5 := HK4.out.below hb5 HK4.out.lt
      have HB5 := hide (HB4.out.trans (hb5.mono (Nat.le_of_lt HK4.out.lt)))
      have c0 : w5.cell? ⟨g, 0, none⟩ = some (.bool false) := hk5.cell 0
      have c1 : w5.cell? ⟨g, 1, none⟩ = some (.string ⟨#[]⟩) := hk5.cell 1
      have c2 : w5.cell? ⟨g, 2, none⟩ = some (.string ⟨#[]⟩) := hk5.cell 2
      have f0 := hk5.frozen 0
      have f1 := hk5.frozen 1
      have f2 := hk5.frozen 2
      have hk4b : w5.heap[g]? = some (.cells #[.bool false, .string ⟨#[]⟩, .string ⟨#[]⟩] 31 (0, 0)) := hk5
      have SET := hide (set3 hk5 (.bool false) (.string (NS (low17 (someT l b) (allT l)).1)) (.string (NS (low17 (someT l b) (allT l)).2)))
      have HBS := hide (below3 HB5.out (g := g) (Nat.le_refl _) (.bool false) (.string (NS (low17 (someT l b) (allT l)).1)) (.string (NS (low17 (someT l b) (allT l)).2)))
      clear hb5 HB5 HM hk5 HK4 HB4
      unfold RV
      go_wp2
      refine bodyPost_ret (results_cell1 rfl _ _ g 31 _ (0, 0) _ rfl SET.out Tryz.underlying31 rfl (by kernel_rfl)) rfl ?_
      exact ⟨rfl, by rw [← HQ.out]; exact HBS.out⟩
end Go.Proofs.YtlkgoljpjeieiaaGreatDoor
