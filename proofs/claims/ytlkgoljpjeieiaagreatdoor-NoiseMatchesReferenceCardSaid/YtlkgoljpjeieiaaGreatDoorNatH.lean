/-
  Chapter 3, natural: div, of numbers of one limb.
-/
import Derived.Test.YtlkgoljpjeieiaaGreatDoorNatG
set_option linter.unusedVariables false
set_option linter.unusedSimpArgs false
namespace Go.Proofs.YtlkgoljpjeieiaaGreatDoor
open Go.RowKit Go.Deep Go.Maps

/-- What div leaves. -/
def DivPost (q r : Nat) (w : World) (en : Ending) (w' : World) : Prop :=
  ∃ A c A' c', en = .returned (.tuple #[.slice A (nlim q) c, .slice A' (nlim r) c']) ∧ RI w' w'.heap.size A (nlim q) (lim q) ∧ RI w' w'.heap.size A' (nlim r) (lim r) ∧ nlim q ≤ c ∧ c ≤ maxLen ∧ nlim r ≤ c' ∧ c' ≤ maxLen ∧ Below w.heap.size w w'
set_option maxHeartbeats 1000000 in
set_option maxRecDepth 100000 in
theorem ldiv_zero (A1 A2 : Option Addr) (c1 c2 n2 : Nat) (w : World) :
    Calls Tryz.prog 56 #[.slice A1 0 c1, .slice A2 n2 c2] w (DivPost 0 0 w) := by
  have hmk : ∀ w : World, (Instr.makeSlice 72 (.int .i64 0) (.int .i64 0)).run Tryz.prog w = .ok (.slice (some ⟨w.heap.size, 0, none⟩) 0 0) (w.alloc (.cells (Array.replicate 0 (.int .i64 0)) 3)) := fun w => make_run (P := Tryz.prog) 72 3 (.int .i64 0) 8 Tryz.underlying72 ints_info rfl 0 (by omega) (by omega) w
  go_enter Tryz.func56, Tryz.ntmps56
  go_upto_region 2 with (fail)
  have hb0 : Below w.heap.size w ((w.alloc (Obj.cells #[] 3)).alloc (Obj.cells #[] 3)) := ((Below.refl _ _).alloc (Nat.le_refl _) _).alloc (by simp) _
  have HB0 := hide hb0
  generalize (w.alloc (Obj.cells #[] 3)).alloc (Obj.cells #[] 3) = w0 at HB0 ⊢
  clear hb0 hmk
  go_wp2
  go_loopw [7, 8] (fun t7 t8 wr => ∃ z : Int, z < 0 ∧ t7 = .slice (some ⟨w.heap.size + 1, 0, none⟩) 0 0 ∧ t8 = .int .i64 z ∧ wr = w0) (fun _ t8 _ => (intOf t8).toNat)
  case atStart => exact ⟨_, by omega, rfl, rfl, rfl⟩
  case round =>
    obtain ⟨z, hz, rfl, rfl, rfl⟩ := hrel
    have d1 : decide ((0 : Int) ≤ z) = false := decide_eq_false (by omega)
    go_wp2_with fail
    refine (trimmed_lim w.heap.size 0 0 0 wr Reads.none_ (by decide) (by omega) (by omega) (by unfold maxLen; omega)).mono ?_
    rintro en w' ⟨rfl, h1, h2, rfl⟩
    have H1 := hide h1
    go_wp2
    go_ret2
    exact ⟨_, _, some ⟨w.heap.size + 1, 0, none⟩, 0, by rw [nlim_zero]; rfl, H1.out, by rw [nlim_zero, lim_zero]; exact Reads.none_, by rw [nlim_zero]; exact Nat.zero_le _, by unfold maxLen; omega, by rw [nlim_zero]; exact Nat.zero_le _, by unfold maxLen; omega, HB0.out⟩
theorem reads_far {w : World} {B b n : Nat} {xs : List Int} {p : Addr} (hne : b ≠ p.block) (u : Value) (h : RI w B (some ⟨b, 0, none⟩) n xs) : RI (w.setCell p u) B (some ⟨b, 0, none⟩) n xs := by
  refine ⟨h.1, fun h0 => ?_⟩
  obtain ⟨ad, hA, hb, hc⟩ := h.2 h0
  injection hA with hA
  subst hA
  refine ⟨_, rfl, hb, fun j v hv => ?_⟩
  rw [← hc j v hv]
  have hblk := Below.heap_setCell w p u b hne
  rw [add_lit]
  unfold World.cell?
  rw [hblk]
theorem cmpN_neg {a b : Nat} : cmpN a b < 0 ↔ a < b := by
  unfold cmpN
  split
  · exact ⟨fun _ => by assumption, fun _ => by decide⟩
  · split
    · exact ⟨fun h => absurd h (by decide), fun h => by omega⟩
    · exact ⟨fun h => absurd h (by decide), fun h => by omega⟩
theorem cmpN_nonpos {a b : Nat} : cmpN a b ≤ 0 ↔ a ≤ b := by
  unfold cmpN
  split
  · exact ⟨fun _ => by omega, fun _ => by decide⟩
  · split
    · exact ⟨fun _ => by omega, fun _ => by decide⟩
    · exact ⟨fun h => absurd h (by decide), fun h => by omega⟩
set_option maxHeartbeats 4000000 in
set_option maxRecDepth 100000 in
theorem ldiv_pos (A1 A2 : Option Addr) (c1 c2 a b n2 : Nat) (w : World) (h1 : RI w w.heap.size A1 1 (lim a)) (h2 : RI w w.heap.size A2 n2 (lim b)) (ha : a < 1000000000) (ha0 : a ≠ 0) (hb : b < 1000000000) (hb0 : b ≠ 0) :
    Calls Tryz.prog 56 #[.slice A1 1 c1, .slice A2 n2 c2] w (DivPost (a / b) (a % b) w) := by
  have hmk : ∀ w : World, (Instr.makeSlice 72 (.int .i64 1) (.int .i64 1)).run Tryz.prog w = .ok (.slice (some ⟨w.heap.size, 0, none⟩) 1 1) (w.alloc (.cells (Array.replicate 1 (.int .i64 0)) 3)) := fun w => make_run (P := Tryz.prog) 72 3 (.int .i64 0) 8 Tryz.underlying72 ints_info rfl 1 (by omega) (by omega) w
  have H2 := hide h2
  have hn2 : n2 ≤ 1 := by
    rw [lim_n h2]
    exact nlim_one hb
  rw [lim_small ha ha0] at h1
  obtain ⟨bx, ox, rfl, hbx, g0⟩ := h1.at_ (k := 0) (by omega)
  have g0 : w.cell? ⟨bx, ox, none⟩ = some (.int .i64 a) := g0
  have G0 := hide g0
  have HDM : Hid (b * (a / b) + a % b = a ∧ a / b ≤ a ∧ a % b < b) := hide ⟨Nat.div_add_mod a b, Nat.div_le_self _ _, Nat.mod_lt _ (by omega)⟩
  clear h1 h2 g0
  go_enter Tryz.func56, Tryz.ntmps56
  go_upto_region 2 with (fail)
  have k0 : Blk ((w.alloc (Obj.cells #[.int .i64 0] 3)).alloc (Obj.cells #[] 3)) w.heap.size 3 #[.int .i64 0] := (Blk.new _ _ _).alloc _
  have hb0' : Below w.heap.size w ((w.alloc (Obj.cells #[.int .i64 0] 3)).alloc (Obj.cells #[] 3)) := ((Below.refl _ _).alloc (Nat.le_refl _) _).alloc (by simp) _
  have HB0 := hide hb0'
  have K0 := hide k0
  obtain ⟨g, hg⟩ : ∃ g, g = w.heap.size := ⟨_, rfl⟩
  have HG := hide hg
  generalize (w.alloc (Obj.cells #[.int .i64 0] 3)).alloc (Obj.cells #[] 3) = w0 at K0 HB0 ⊢
  rw [← hg] at K0 HB0 hbx ⊢
  clear hg hmk k0 hb0'
  go_wp2
  go_loopw [7, 8] (fun t7 t8 wr => (t8 = .int .i64 0 ∧ t7 = .slice (some ⟨g + 1, 0, none⟩) 0 0 ∧ wr = w0) ∨
      (∃ z A c, z < 0 ∧ t8 = .int .i64 z ∧ t7 = .slice A (nlim (a % b)) c ∧ RI wr wr.heap.size A (nlim (a % b)) (lim (a % b)) ∧ nlim (a % b) ≤ c ∧ c ≤ maxLen ∧ Blk wr g 3 #[.int .i64 ((a / b : Nat) : Int)] ∧ Below g w wr)) (fun _ t8 _ => (intOf t8 + 1).toNat)
  case atStart => exact .inl ⟨by go_num, rfl, rfl⟩
  case round =>
    rcases hrel with ⟨rfl, rfl, rfl⟩ | ⟨z, A, c, hz, rfl, rfl, hri, hnc, hcm, hk, hbr⟩
    · have g0 : wr.cell? ⟨bx, ox, none⟩ = some (.int .i64 a) := (HB0.out.cell (p := ⟨bx, ox, none⟩) hbx).trans G0.out
      have hri7 : RI (wr.alloc (Obj.cells #[.int .i64 a] 3)) (wr.alloc (Obj.cells #[.int .i64 a] 3)).heap.size (some ⟨wr.heap.size, 0, none⟩) 1 (padL a 1) := by
        rw [padL_one ha]
        exact RI.lit wr [(a : Int)] 1 3 rfl
      have HB7 : Hid (Below g w (wr.alloc (Obj.cells #[.int .i64 a] 3))) := hide (HB0.out.alloc (by have := K0.out.lt; omega) _)
      have HK7 : Hid (Blk (wr.alloc (Obj.cells #[.int .i64 a] 3)) g 3 #[.int .i64 0]) := hide (K0.out.alloc _)
      have HR7 := hide hri7
      clear hri7
      go_wp2_with fail
      generalize wr.alloc (Obj.cells #[.int .i64 a] 3) = w7 at HB7 HK7 HR7 ⊢
      generalize wr.heap.size = g7 at HR7 ⊢
      refine (trimmed_lim g7 1 a 1 w7 HR7.out (by rw [Nat.pow_one]; exact ha) (by omega) (Nat.le_refl _) (by unfold maxLen; omega)).mono ?_
      rintro en w8 ⟨rfl, h8, h8', rfl⟩
      have H8 := hide h8
      clear h8 HR7 K0 HB0
      have HY : Hid (∀ W, Below g w W → RI W W.heap.size A2 n2 (lim b)) := hide (fun W hW => (H2.out.below (by rw [← HG.out]; exact hW)).more hW.size)
      have hna := nlim_one ha
      obtain ⟨na, hna'⟩ : ∃ na, na = nlim a := ⟨_, rfl⟩
      have HNA := hide hna'
      rw [← hna'] at H8 hna h8' ⊢
      clear hna'
      obtain ⟨k, hk⟩ : ∃ k, k = cmpN a b := ⟨_, rfl⟩
      have HCM := hide (lcomp_any (some ⟨g7, 0, none⟩) A2 1 c2 a b na n2 w8 H8.out (HY.out w8 HB7.out) (by omega) (by omega))
      rw [← hk] at HCM
      go_wp2_with fail
      refine HCM.out.mono ?_
      rintro en w9 ⟨rfl, m9, rfl⟩
      have HB9 := hide (below_drewN HB7.out m9)
      have HK9 := hide (HK7.out.drewN m9)
      have H9 := hide (H8.out.drewNs m9)
      clear HCM H8 HB7 HK7
      generalize w8.drewN m9 = w9 at HB9 HK9 H9 ⊢
      by_cases hab : a < b
      · have d1 : decide (k < 0) = true := decide_eq_true (by rw [hk]; exact cmpN_neg.2 hab)
        have e1 : a % b = a := Nat.mod_eq_of_lt hab
        have e2 : a / b = 0 := Nat.div_eq_of_lt hab
        have HREL : Hid (RI w9 w9.heap.size (some ⟨g7, 0, none⟩) (nlim (a % b)) (lim (a % b)) ∧ nlim (a % b) ≤ 1 ∧ Blk w9 g 3 #[.int .i64 ((a / b : Nat) : Int)] ∧ (.slice (some ⟨g7, 0, none⟩) na 1 : Value) = .slice (some ⟨g7, 0, none⟩) (nlim (a % b)) 1) := hide (by
          rw [e1, e2, ← HNA.out]
          exact ⟨H9.out, hna, HK9.out, rfl⟩)
        clear hk e1 e2 hab
        go_wp2
        go_roundw
        case rel => exact .inr ⟨-1, some ⟨g7, 0, none⟩, 1, by omega, by go_num, HREL.out.2.2.2, HREL.out.1, HREL.out.2.1, by unfold maxLen; omega, HREL.out.2.2.1, HB9.out⟩
        case measure => simp [intOf]
      · have d1 : decide (k < 0) = false := decide_eq_false (by rw [hk]; exact fun h => hab (cmpN_neg.1 h))
        have hq1 : 1 ≤ a / b := Nat.div_pos (by omega) (by omega)
        have hq2 : a / b ≤ 999999999 := Nat.le_trans HDM.out.2.1 (by omega)
        clear hk
        go_wp2
        go_loopw [9, 10] (fun t9 t10 wq => ∃ lo hi : Nat, t9 = .int .i64 lo ∧ t10 = .int .i64 hi ∧ 1 ≤ lo ∧ lo ≤ a / b ∧ a / b ≤ hi ∧ hi ≤ 999999999 ∧ Below w9.heap.size w9 wq) (fun t9 t10 _ => (intOf t10 - intOf t9).toNat)
        case atStart => exact ⟨1, 999999999, rfl, rfl, Nat.le_refl _, hq1, hq2, Nat.le_refl _, Below.refl _ _⟩
        case round =>
          obtain ⟨lo, hi, rfl, rfl, l1, l2, l3, l4, hbq⟩ := hrel
          have HBQ := hide hbq
          have HBW := hide (HB9.out.trans (hbq.mono (Nat.le_of_lt HK9.out.lt)))
          have H9q := hide (H9.out.next hbq)
          clear hbq
          by_cases hlh : lo < hi
          · obtain ⟨mid, hmid⟩ : ∃ mid, mid = (lo + hi + 1) / 2 := ⟨_, rfl⟩
            have e1 : ((lo : Int) + hi + 1).tdiv 2 = (mid : Int) := by rw [Int.tdiv_eq_ediv_of_nonneg (by omega)]; omega
            have e2 : ((lo : Int) + hi + 1) / 2 = (mid : Int) := by omega
            have m1 : lo < mid ∧ mid ≤ hi := by omega
            clear hmid
            have HTM := hide (ltimes_any A2 c2 b n2 mid wr (HY.out wr HBW.out) (by omega) (by omega))
            have hml : mid * b < LB ^ 2 := by
              have h3 : mid * b ≤ 1000000000 * 999999999 := Nat.mul_le_mul (by omega) (by omega)
              have h4 : LB ^ 2 = 1000000000000000000 := rfl
              omega
            have hn5 : nlim (mid * b) ≤ 2 := nlim_bd hml
            go_wp2_with fail
            refine HTM.out.mono ?_
            rintro en w5 ⟨b5, c5, rfl, r5, q5, m5, hb5, fr5⟩
            have HB5 := hide (HBQ.out.trans (hb5.mono HBQ.out.size))
            obtain ⟨k5, hk5⟩ : ∃ k, k = cmpN (mid * b) a := ⟨_, rfl⟩
            have HC5 := hide (lcomp_any (some ⟨b5, 0, none⟩) (some ⟨g7, 0, none⟩) c5 1 (mid * b) a (nlim (mid * b)) na w5 r5 (H9q.out.next hb5) (by omega) (by omega))
            rw [← hk5] at HC5
            clear r5 hb5 hml HTM HBQ H9q HBW hn5
            go_wp2_with fail
            refine HC5.out.mono ?_
            rintro en w6 ⟨rfl, m6, rfl⟩
            have HB6 := hide (below_drewN HB5.out m6)
            clear HC5 HB5
            generalize w5.drewN m6 = w6 at HB6 ⊢
            by_cases hle : mid * b ≤ a
            · have d5 : decide (k5 ≤ 0) = true := decide_eq_true (by rw [hk5]; exact cmpN_nonpos.2 hle)
              have hlm : mid ≤ a / b := (Nat.le_div_iff_mul_le (by omega)).2 hle
              clear hk5 hle e1 e2
              go_wp2
              go_roundw
              case rel => exact ⟨mid, hi, rfl, rfl, by omega, hlm, l3, l4, HB6.out⟩
              case measure => simp [intOf] <;> omega
            · have d5 : decide (k5 ≤ 0) = false := decide_eq_false (by rw [hk5]; exact fun h => hle (cmpN_nonpos.1 h))
              have hlm : a / b < mid := (Nat.div_lt_iff_lt_mul (by omega)).2 (by omega)
              have e3 : (mid : Int) - 1 = ((mid - 1 : Nat) : Int) := by omega
              clear hk5 hle e1 e2
              go_wp2
              go_roundw
              case rel => exact ⟨lo, mid - 1, rfl, by rw [← e3], l1, l2, by omega, by omega, HB6.out⟩
              case measure => simp [intOf] <;> omega
          · have hlo : lo = a / b := by omega
            have d2 : decide ((lo : Int) < (hi : Int)) = false := decide_eq_false (by omega)
            have hlb : lo * b ≤ a := by rw [hlo]; exact Nat.div_mul_le_self a b
            have hres : a - lo * b = a % b := by
              have := HDM.out.1
              rw [hlo, Nat.mul_comm]
              omega
            have hn5 : nlim (lo * b) ≤ 1 := nlim_one (by omega)
            have HTM := hide (ltimes_any A2 c2 b n2 lo wr (HY.out wr HBW.out) (by omega) (by omega))
            have HLO := hide hlo
            clear hlo l2 l3
            go_wp2_with fail
            refine HTM.out.mono ?_
            rintro en w5 ⟨b5, c5, rfl, r5, q5, m5, hb5, fr5⟩
            have HB5 := hide (HBQ.out.trans (hb5.mono HBQ.out.size))
            have HSB := hide (lsub_any (some ⟨g7, 0, none⟩) (some ⟨b5, 0, none⟩) 1 c5 a (lo * b) na (nlim (lo * b)) w5 (H9q.out.next hb5) r5 ha hlb)
            rw [hres] at HSB
            clear r5 hb5 HTM HBQ H9q HBW hres hlb
            go_wp2_with fail
            refine HSB.out.mono ?_
            rintro en w6 ⟨b6, c6, rfl, r6, q6, m6, hb6, fr6⟩
            have HB6 : Hid (Below w9.heap.size w9 w6) := hide (HB5.out.trans (hb6.mono HB5.out.size))
            have HBG : Hid (Below g w w6) := hide (HB9.out.trans (HB6.out.mono (Nat.le_of_lt HK9.out.lt)))
            have HKG : Hid (Blk w6 g 3 #[.int .i64 0]) := hide (HK9.out.below HB6.out HK9.out.lt)
            have c0 : w6.cell? ⟨g, 0, none⟩ = some (.int .i64 0) := HKG.out.cell 0
            have f0 := HKG.out.frozen 0
            have HNEW : Hid (Blk (w6.setCell ⟨g, 0, none⟩ (.int .i64 lo)) g 3 #[.int .i64 ((a / b : Nat) : Int)]) := hide (by
              have := HKG.out.set_ 0 (.int .i64 lo)
              rw [← HLO.out]
              exact this)
            have HBN : Hid (Below g w (w6.setCell ⟨g, 0, none⟩ (.int .i64 lo))) := hide (HBG.out.setCell (p := ⟨g, 0, none⟩) (Nat.le_refl _) _)
            have HRN : Hid (RI (w6.setCell ⟨g, 0, none⟩ (.int .i64 lo)) (w6.setCell ⟨g, 0, none⟩ (.int .i64 lo)).heap.size (some ⟨b6, 0, none⟩) (nlim (a % b)) (lim (a % b))) := hide (by
              have hne : b6 ≠ g := by
                have h3 := HK9.out.lt
                have h4 := HB5.out.size
                omega
              have := reads_far (p := ⟨g, 0, none⟩) hne (.int .i64 lo) r6
              simpa using this)
            clear r6 hb6 HKG HBG HB6 HB5 HSB
            go_wp2
            go_roundw
            case rel => exact .inr ⟨-1, _, c6, by omega, by go_num, rfl, HRN.out, q6, m6, HNEW.out, HBN.out⟩
            case measure => simp [intOf]
    · have d1 : decide ((0 : Int) ≤ z) = false := decide_eq_false (by omega)
      have HRI := hide hri
      have HB := hide hbr
      have HQ : Hid (RI wr wr.heap.size (some ⟨g, 0, none⟩) 1 (padL (a / b) 1)) := hide (by
        rw [padL_one (by have := HDM.out.2.1; exact Nat.lt_of_le_of_lt this ha)]
        exact RI.of_blk (xs := [((a / b : Nat) : Int)]) hk rfl)
      clear hri hbr hk K0 HB0
      go_wp2_with fail
      refine (trimmed_lim g 1 (a / b) 1 wr HQ.out (by rw [Nat.pow_one]; exact Nat.lt_of_le_of_lt HDM.out.2.1 ha) (by omega) (Nat.le_refl _) (by unfold maxLen; omega)).mono ?_
      rintro en w' ⟨rfl, r1, r2, rfl⟩
      have R1 := hide r1
      go_wp2
      go_ret2
      exact ⟨_, _, _, _, rfl, R1.out, HRI.out, r2, by unfold maxLen; omega, hnc, hcm, by rw [← HG.out]; exact HB.out⟩
end Go.Proofs.YtlkgoljpjeieiaaGreatDoor
