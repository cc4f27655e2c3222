/-
  Chapter 37: FilterMatchesReference.
-/
import Derived.Test.YtkomgidcgepknaaGreatDoorParM
import Derived.Test.YtkomgidcgepknaaGreatDoorRfb
import Derived.StillTailTactics
import Derived.Test.YtkomgidcgepknaaGreatDoorCndP
set_option linter.unusedVariables false
set_option linter.unusedSimpArgs false
namespace Go.Proofs.YtkomgidcgepknaaGreatDoor
open Go.RowKit Go.Deep Go.Maps

theorem rin_any (n lo hi : Int) (w : World) : Calls Tryz.prog 52 #[.int .i64 n, .int .i64 lo, .int .i64 hi] w fun e w' => e = .returned (.bool (btw n lo hi)) ∧ w = w' := by
  obtain ⟨b, hb⟩ : ∃ b, b = btw n lo hi := ⟨_, rfl⟩
  rw [← hb]
  by_cases h1 : lo ≤ n
  · have d1 : decide (lo ≤ n) = true := decide_eq_true h1
    by_cases h2 : n ≤ hi
    · have d2 : decide (n ≤ hi) = true := decide_eq_true h2
      have HB : Hid (b = true) := hide (by rw [hb, btw, d1, d2]; rfl)
      clear hb
      go_enter Tryz.func52, Tryz.ntmps52
      go_wp2
      go_ret
      exact ⟨by rw [HB.out]; rfl, rfl⟩
    · have d2 : decide (n ≤ hi) = false := decide_eq_false h2
      have HB : Hid (b = false) := hide (by rw [hb, btw, d1, d2]; rfl)
      clear hb
      go_enter Tryz.func52, Tryz.ntmps52
      go_wp2
      go_ret
      exact ⟨by rw [HB.out]; rfl, rfl⟩
  · have d1 : decide (lo ≤ n) = false := decide_eq_false h1
    have HB : Hid (b = false) := hide (by rw [hb, btw, d1]; rfl)
    clear hb
    go_enter Tryz.func52, Tryz.ntmps52
    go_wp2
    go_ret
    exact ⟨by rw [HB.out]; rfl, rfl⟩

set_option maxHeartbeats 2000000 in
theorem ralert_any (a : Al) (w : World) : Calls Tryz.prog 21 #[.agg a.cells] w fun e w' => e = .returned (.bool (alValid a)) ∧ Below w.heap.size w w' := by
  have hb : Blk (w.alloc (Obj.cells #[.int .i64 a.tile, .int .i64 a.cell, .int .i64 a.filt, .int .i64 a.val, .int .i64 a.mom] 28)) w.heap.size 28 #[.int .i64 a.tile, .int .i64 a.cell, .int .i64 a.filt, .int .i64 a.val, .int .i64 a.mom] := Blk.new _ _ _
  have HB : Hid (Below w.heap.size w (w.alloc (Obj.cells #[.int .i64 a.tile, .int .i64 a.cell, .int .i64 a.filt, .int .i64 a.val, .int .i64 a.mom] 28))) := hide ((Below.refl _ _).alloc (Nat.le_refl _) _)
  have c0 := hb.cell 0
  have c1 := hb.cell 1
  have c2 := hb.cell 2
  have c3 := hb.cell 3
  have c4 := hb.cell 4
  have HV : Hid (alValid a = (btw a.tile 0 511 && btw a.cell 0 3 && btw a.filt 0 7 && btw a.val 0 65535 && btw a.mom 0 38399)) := rfl
  unfold Al.cells
  go_enter Tryz.func21, Tryz.ntmps21
  go_upto_region 1 with (fail)
  generalize w.alloc (Obj.cells #[.int .i64 a.tile, .int .i64 a.cell, .int .i64 a.filt, .int .i64 a.val, .int .i64 a.mom] 28) = w1 at hb HB c0 c1 c2 c3 c4 ⊢
  obtain ⟨q, hq⟩ : ∃ q, q = w.heap.size := ⟨_, rfl⟩
  rw [← hq] at c0 c1 c2 c3 c4 ⊢
  clear hq hb
  go_wp2_with fail
  refine (rin_any a.tile 0 511 w1).mono ?_
  rintro e w' ⟨rfl, rfl⟩
  cases h0 : btw a.tile 0 511
  · have HR : Hid (alValid a = false) := hide (by rw [HV.out, h0]; rfl)
    clear h0
    go_wp2
    go_ret
    exact ⟨by rw [HR.out]; rfl, HB.out⟩
  · have H0 := hide h0
    clear h0
    go_wp2_with fail
    refine (rin_any a.cell 0 3 w1).mono ?_
    rintro e w' ⟨rfl, rfl⟩
    cases h1 : btw a.cell 0 3
    · have HR : Hid (alValid a = false) := hide (by rw [HV.out, h1]; simp)
      clear h1
      go_wp2
      go_ret
      exact ⟨by rw [HR.out]; rfl, HB.out⟩
    · have H1 := hide h1
      clear h1
      go_wp2_with fail
      refine (rin_any a.filt 0 7 w1).mono ?_
      rintro e w' ⟨rfl, rfl⟩
      cases h2 : btw a.filt 0 7
      · have HR : Hid (alValid a = false) := hide (by rw [HV.out, h2]; simp)
        clear h2
        go_wp2
        go_ret
        exact ⟨by rw [HR.out]; rfl, HB.out⟩
      · have H2 := hide h2
        clear h2
        go_wp2_with fail
        refine (rin_any a.val 0 65535 w1).mono ?_
        rintro e w' ⟨rfl, rfl⟩
        cases h3 : btw a.val 0 65535
        · have HR : Hid (alValid a = false) := hide (by rw [HV.out, h3]; simp)
          clear h3
          go_wp2
          go_ret
          exact ⟨by rw [HR.out]; rfl, HB.out⟩
        · have HR : Hid (alValid a = btw a.mom 0 38399) := hide (by rw [HV.out, H0.out, H1.out, H2.out, h3]; rfl)
          clear h3
          go_wp2_with fail
          refine (rin_any a.mom 0 38399 w1).mono ?_
          rintro e w' ⟨rfl, rfl⟩
          generalize btw a.mom 0 38399 = b at HR ⊢
          go_wp2
          go_ret
          exact ⟨by rw [HR.out]; rfl, HB.out⟩

set_option maxHeartbeats 4000000 in
theorem rvalid_any (s : Sb) (K : Option Addr) (c : Nat) (w : World) (he : ExprAt w w.heap.size K s.whn) (hn : ∀ x ∈ s.whn, x.name.size ≤ maxLen) (hm : s.whn.length ≤ maxLen) :
    Calls Tryz.prog 17 #[.agg #[.int .i64 s.prog, .int .i64 s.tile, .int .i64 s.filt, .slice K s.whn.length c]] w fun e w' => e = .returned (.bool (sbValid s)) ∧ Below w.heap.size w w' := by
  have hb : Blk (w.alloc (Obj.cells #[.int .i64 s.prog, .int .i64 s.tile, .int .i64 s.filt, .slice K s.whn.length c] 26)) w.heap.size 26 #[.int .i64 s.prog, .int .i64 s.tile, .int .i64 s.filt, .slice K s.whn.length c] := Blk.new _ _ _
  have hbel : Below w.heap.size w (w.alloc (Obj.cells #[.int .i64 s.prog, .int .i64 s.tile, .int .i64 s.filt, .slice K s.whn.length c] 26)) := (Below.refl _ _).alloc (Nat.le_refl _) _
  have HB := hide hbel
  have HE := hide (he.next hbel)
  have HN := hide hn
  have HM := hide hm
  have HV : Hid (sbValid s = (decide ((boundsL s.whn rngs37).2.2 = 0) && btw s.prog 0 63 && btw s.tile (-1) 511 && btw s.filt (-1) 7)) := rfl
  clear he hn hbel hm
  go_enter Tryz.func17, Tryz.ntmps17
  go_upto_region 1 with (fail)
  generalize w.alloc (Obj.cells #[.int .i64 s.prog, .int .i64 s.tile, .int .i64 s.filt, .slice K s.whn.length c] 26) = w1 at hb HB HE ⊢
  obtain ⟨q, hq⟩ : ∃ q, q = w.heap.size := ⟨_, rfl⟩
  rw [← hq] at hb ⊢
  clear hq
  have c0 : w1.cell? ⟨q, 0, none⟩ = some (.int .i64 s.prog) := hb.cell 0
  have c1 : w1.cell? ⟨q, 1, none⟩ = some (.int .i64 s.tile) := hb.cell 1
  have c2 : w1.cell? ⟨q, 2, none⟩ = some (.int .i64 s.filt) := hb.cell 2
  have c3 : w1.cell? ⟨q, 3, none⟩ = some (.slice K s.whn.length c) := hb.cell 3
  obtain ⟨res, hres⟩ : ∃ res, res = boundsL s.whn rngs37 := ⟨_, rfl⟩
  have HRES := hide hres.symm
  rw [← hres] at HV
  clear hres hb
  obtain ⟨rl, rh, re⟩ := res
  dsimp only at HV
  go_wp2_with fail
  refine (rin_any s.prog 0 63 w1).mono ?_
  rintro e w' ⟨rfl, rfl⟩
  cases h0 : btw s.prog 0 63
  · have HR : Hid (sbValid s = false) := hide (by rw [HV.out, h0]; simp)
    clear h0
    go_wp2
    go_ret
    exact ⟨by rw [HR.out]; rfl, HB.out⟩
  · have H0 := hide h0
    clear h0
    go_wp2_with fail
    refine (rin_any s.tile (-1) 511 w1).mono ?_
    rintro e w' ⟨rfl, rfl⟩
    cases h1 : btw s.tile (-1) 511
    · have HR : Hid (sbValid s = false) := hide (by rw [HV.out, h1]; simp)
      clear h1
      go_wp2
      go_ret
      exact ⟨by rw [HR.out]; rfl, HB.out⟩
    · have H1 := hide h1
      clear h1
      go_wp2_with fail
      refine (rin_any s.filt (-1) 7 w1).mono ?_
      rintro e w' ⟨rfl, rfl⟩
      cases h2 : btw s.filt (-1) 7
      · have HR : Hid (sbValid s = false) := hide (by rw [HV.out, h2]; simp)
        clear h2
        go_wp2
        go_ret
        exact ⟨by rw [HR.out]; rfl, HB.out⟩
      · have H2 := hide h2
        clear h2
        have HRG : Hid (RRg (w1.alloc (Obj.cells (cellsR rngs37).toArray 89)) (w1.alloc (Obj.cells (cellsR rngs37).toArray 89)).heap.size (some ⟨w1.heap.size, 0, none⟩) 4 rngs37) := hide (by
          have h := reads_new w1 (cellsR rngs37).toArray 89 3 4 rfl
          exact h.more (by rw [World.size_alloc]; exact Nat.le_refl _))
        have HB2 : Hid (Below w.heap.size w (w1.alloc (Obj.cells (cellsR rngs37).toArray 89))) := hide (HB.out.alloc HB.out.size _)
        have HE2 := hide (HE.out.next ((Below.refl w1.heap.size w1).alloc (Nat.le_refl _) (Obj.cells (cellsR rngs37).toArray 89)))
        go_wp2_with fail
        change Calls _ _ _ (w1.alloc (Obj.cells (cellsR rngs37).toArray 89)) _
        refine (refBounds_any K c s.whn _ 4 4 rngs37 _ HE2.out HN.out HM.out HRG.out (by unfold maxLen; omega) rngs37_names).mono ?_
        rintro e w3 ⟨rfl, hb3⟩
        rw [HRES.out]
        dsimp only
        have HB3 := hide (HB2.out.trans (hb3.mono HB2.out.size))
        have HR : Hid (sbValid s = decide (re = 0)) := hide (by rw [HV.out, H0.out, H1.out, H2.out]; simp)
        clear hb3 HB2 HE2 HRG c0 c1 c2 c3
        by_cases hre : re = 0
        · subst hre
          go_wp2
          go_ret
          exact ⟨by rw [HR.out]; rfl, HB3.out⟩
        · have hre' : (re == 0) = false := beq_eq_false_iff_ne.2 hre
          have HR2 : Hid (sbValid s = false) := hide (by rw [HR.out, decide_eq_false hre])
          clear hre HR
          go_wp2
          go_ret
          exact ⟨by rw [HR2.out]; rfl, HB3.out⟩
set_option maxHeartbeats 4000000 in
theorem rconc_any (s : Sb) (a : Al) (K : Option Addr) (n c : Nat) (w : World) :
    Calls Tryz.prog 44 #[.agg #[.int .i64 s.prog, .int .i64 s.tile, .int .i64 s.filt, .slice K n c], .agg a.cells] w fun e w' => e = .returned (.bool (conc s a)) ∧ Below w.heap.size w w' := by
  have hs0 : Blk (w.alloc (Obj.cells #[.int .i64 s.prog, .int .i64 s.tile, .int .i64 s.filt, .slice K n c] 26)) w.heap.size 26 #[.int .i64 s.prog, .int .i64 s.tile, .int .i64 s.filt, .slice K n c] := Blk.new _ _ _
  have hs := hs0.alloc (Obj.cells a.cells 28)
  have ha := Blk.new (w.alloc (Obj.cells #[.int .i64 s.prog, .int .i64 s.tile, .int .i64 s.filt, .slice K n c] 26)) 28 a.cells
  rw [World.size_alloc] at ha
  have hbel : Below w.heap.size w ((w.alloc (Obj.cells #[.int .i64 s.prog, .int .i64 s.tile, .int .i64 s.filt, .slice K n c] 26)).alloc (Obj.cells a.cells 28)) := ((Below.refl _ _).alloc (Nat.le_refl _) _).alloc (by simp) _
  have HB := hide hbel
  have HC : Hid (conc s a = ((decide (s.tile = -1) || decide (s.tile = a.tile)) && (decide (s.filt = -1) || decide (s.filt = a.filt)))) := rfl
  clear hbel hs0
  go_enter Tryz.func44, Tryz.ntmps44
  go_upto_region 1 with (fail)
  change Code.wp _ _ _ _ ((w.alloc (Obj.cells #[.int .i64 s.prog, .int .i64 s.tile, .int .i64 s.filt, .slice K n c] 26)).alloc (Obj.cells a.cells 28))
  generalize (w.alloc (Obj.cells #[.int .i64 s.prog, .int .i64 s.tile, .int .i64 s.filt, .slice K n c] 26)).alloc (Obj.cells a.cells 28) = w1 at hs ha HB ⊢
  obtain ⟨q, hq⟩ : ∃ q, q = w.heap.size := ⟨_, rfl⟩
  rw [← hq] at hs ha ⊢
  clear hq
  have c1 : w1.cell? ⟨q, 1, none⟩ = some (.int .i64 s.tile) := hs.cell 1
  have c2 : w1.cell? ⟨q, 2, none⟩ = some (.int .i64 s.filt) := hs.cell 2
  have d0 : w1.cell? ⟨q + 1, 0, none⟩ = some (.int .i64 a.tile) := ha.cell 0
  have d2 : w1.cell? ⟨q + 1, 2, none⟩ = some (.int .i64 a.filt) := ha.cell 2
  clear hs ha
  obtain ⟨cc, hcc⟩ : ∃ cc, cc = conc s a := ⟨_, rfl⟩
  have HCE := hide hcc.symm
  rw [← hcc] at HC
  clear hcc
  generalize s.tile = st at c1 HC
  generalize s.filt = sf at c2 HC
  generalize a.tile = ta at d0 HC
  generalize a.filt = fa at d2 HC
  by_cases t1 : st = -1
  · subst t1
    by_cases f1 : sf = -1
    · subst f1
      have HR : Hid (cc = true) := hide (by rw [HC.out]; simp)
      clear HC
      go_wp2
      go_ret
      exact ⟨by rw [HCE.out, HR.out]; rfl, HB.out⟩
    · have m1 : (sf == (-1 : Int)) = false := beq_eq_false_iff_ne.2 f1
      by_cases f2 : sf = fa
      · subst f2
        have HR : Hid (cc = true) := hide (by rw [HC.out]; simp)
        clear HC
        go_wp2
        go_ret
        exact ⟨by rw [HCE.out, HR.out]; rfl, HB.out⟩
      · have m2 : (sf == fa) = false := beq_eq_false_iff_ne.2 f2
        have HR : Hid (cc = false) := hide (by rw [HC.out]; simp [f1, f2])
        clear HC
        go_wp2
        go_ret
        exact ⟨by rw [HCE.out, HR.out]; rfl, HB.out⟩
  · have n1 : (st == (-1 : Int)) = false := beq_eq_false_iff_ne.2 t1
    by_cases t2 : st = ta
    · subst t2
      by_cases f1 : sf = -1
      · subst f1
        have HR : Hid (cc = true) := hide (by rw [HC.out]; simp)
        clear HC
        go_wp2
        go_ret
        exact ⟨by rw [HCE.out, HR.out]; rfl, HB.out⟩
      · have m1 : (sf == (-1 : Int)) = false := beq_eq_false_iff_ne.2 f1
        by_cases f2 : sf = fa
        · subst f2
          have HR : Hid (cc = true) := hide (by rw [HC.out]; simp)
          clear HC
          go_wp2
          go_ret
          exact ⟨by rw [HCE.out, HR.out]; rfl, HB.out⟩
        · have m2 : (sf == fa) = false := beq_eq_false_iff_ne.2 f2
          have HR : Hid (cc = false) := hide (by rw [HC.out]; simp [f1, f2])
          clear HC
          go_wp2
          go_ret
          exact ⟨by rw [HCE.out, HR.out]; rfl, HB.out⟩
    · have n2 : (st == ta) = false := beq_eq_false_iff_ne.2 t2
      have HR : Hid (cc = false) := hide (by rw [HC.out]; simp [t1, t2])
      clear HC
      go_wp2
      go_ret
      exact ⟨by rw [HCE.out, HR.out]; rfl, HB.out⟩
theorem sbsV_snoc {l : List Sb} {i : Nat} (hi : i < l.length) : (l.take (i + 1)).all sbValid = ((l.take i).all sbValid && sbValid (sbAt l i)) := by
  rw [sb_take hi, List.all_append]
  simp
theorem sbsV_false {l : List Sb} {i : Nat} (hi : i < l.length) (h : sbValid (sbAt l i) = false) : sbsValid l = false := by
  cases hv : sbsValid l
  · rfl
  · unfold sbsValid at hv
    simp only [Bool.and_eq_true, List.all_eq_true] at hv
    rw [hv.2 _ (sbAt_mem hi)] at h
    cases h
set_option maxHeartbeats 4000000 in
theorem rlist_any (A : Option Addr) (c : Nat) (l : List Sb) (w : World) (h : SubsAt w w.heap.size A l) (ho : SbsOk l) (hn : l.length ≤ 100000) :
    Calls Tryz.prog 19 #[.slice A l.length c] w fun e w' => e = .returned (.bool (sbsValid l)) ∧ Below w.heap.size w w' := by
  have H := hide h
  have HO := hide ho
  have HV : Hid (sbsValid l = (decide (l.length ≤ 64) && l.all sbValid)) := rfl
  clear h ho
  go_enter Tryz.func19, Tryz.ntmps19
  by_cases h64 : l.length ≤ 64
  · have d : decide ((64 : Int) < (l.length : Int)) = false := decide_eq_false (by omega)
    have d' : decide (64 < l.length) = false := decide_eq_false (by omega)
    have HV2 : Hid (sbsValid l = l.all sbValid) := hide (by rw [HV.out, decide_eq_true h64]; rfl)
    clear HV
    go_wp2
    go_loopw [3] (fun t3 wr => ∃ i : Nat, i ≤ l.length ∧ t3 = .int .i64 i ∧ (l.take i).all sbValid = true ∧ Below w.heap.size w wr) (fun t3 _ => l.length - (intOf t3).toNat)
    case atStart => exact ⟨0, Nat.zero_le _, rfl, rfl, Below.refl _ _⟩
    case round =>
      obtain ⟨i, hi, rfl, hall, hb⟩ := hrel
      have HALL := hide hall
      have HB := hide hb
      clear hall hb
      by_cases hin : i < l.length
      · obtain ⟨b, off, K, kc, rfl, hbb, g0, g1, g2, g3, hex⟩ := (H.out.next HB.out).at_ hin
        have HEX := hide hex
        have hin' : (i : Int) < (l.length : Int) := Int.ofNat_lt.2 hin
        have i0 : (0 : Int) ≤ (i : Int) := Int.natCast_nonneg i
        have HSO := hide (HO.out _ (sbAt_mem hin))
        have ST := hide (sbsV_snoc hin)
        have SF : Hid (sbValid (sbAt l i) = false → sbsValid l = false) := hide (sbsV_false hin)
        clear hex
        generalize sbAt l i = s at g0 g1 g2 g3 HEX HSO ST SF
        go_wp2_with fail
        refine (rvalid_any s K kc wr HEX.out HSO.out.1 HSO.out.2.1).mono ?_
        rintro e w3 ⟨rfl, hb3⟩
        have HB3 := hide (HB.out.trans (hb3.mono HB.out.size))
        clear hb3 g0 g1 g2 g3
        cases hv : sbValid s
        · have HF := hide (SF.out hv)
          clear hv SF ST
          go_wp2
          go_ret
          exact ⟨by rw [HF.out]; rfl, HB3.out⟩
        · have HT : Hid ((l.take (i + 1)).all sbValid = true) := hide (by rw [ST.out, HALL.out, hv]; rfl)
          clear hv SF ST
          go_wp2
          go_roundw
          case rel => exact ⟨i + 1, by omega, by go_num, HT.out, HB3.out⟩
          case measure => simp [intOf]; omega
      · obtain rfl : i = l.length := by omega
        have HT : Hid (sbsValid l = true) := hide (by rw [HV2.out]; have := HALL.out; rwa [List.take_length] at this)
        go_wp2
        go_ret
        exact ⟨by rw [HT.out]; rfl, HB.out⟩
  · have d : decide ((64 : Int) < (l.length : Int)) = true := decide_eq_true (by omega)
    have d' : decide (64 < l.length) = true := decide_eq_true (by omega)
    have HF : Hid (sbsValid l = false) := hide (by rw [HV.out, decide_eq_false h64]; rfl)
    go_wp2
    go_ret
    exact ⟨by rw [HF.out]; rfl, Below.refl _ _⟩
end Go.Proofs.YtkomgidcgepknaaGreatDoor

set_option linter.unusedVariables false
set_option linter.unusedSimpArgs false
namespace Go.Proofs.YtkomgidcgepknaaGreatDoor
open Go.RowKit Go.Deep Go.Maps

/-- Nine cells: a subscription's and an alert's. -/
theorem nine_below {w w' : World} {B b o q : Nat} {v0 v1 v2 v3 u0 u1 u2 u3 u4 : Value} (hb : Below B w w') (h1 : b < B) (h2 : q < B)
    (h : w.cell? ⟨b, o, none⟩ = some v0 ∧ w.cell? ⟨b, o + 1, none⟩ = some v1 ∧ w.cell? ⟨b, o + 2, none⟩ = some v2 ∧ w.cell? ⟨b, o + 3, none⟩ = some v3 ∧ w.cell? ⟨q, 0, none⟩ = some u0 ∧ w.cell? ⟨q, 1, none⟩ = some u1 ∧ w.cell? ⟨q, 2, none⟩ = some u2 ∧ w.cell? ⟨q, 3, none⟩ = some u3 ∧ w.cell? ⟨q, 4, none⟩ = some u4) :
    w'.cell? ⟨b, o, none⟩ = some v0 ∧ w'.cell? ⟨b, o + 1, none⟩ = some v1 ∧ w'.cell? ⟨b, o + 2, none⟩ = some v2 ∧ w'.cell? ⟨b, o + 3, none⟩ = some v3 ∧ w'.cell? ⟨q, 0, none⟩ = some u0 ∧ w'.cell? ⟨q, 1, none⟩ = some u1 ∧ w'.cell? ⟨q, 2, none⟩ = some u2 ∧ w'.cell? ⟨q, 3, none⟩ = some u3 ∧ w'.cell? ⟨q, 4, none⟩ = some u4 := by
  obtain ⟨a0, a1, a2, a3, a4, a5, a6, a7, a8⟩ := h
  exact ⟨(hb.cell (p := ⟨b, o, none⟩) h1).trans a0, (hb.cell (p := ⟨b, o + 1, none⟩) h1).trans a1, (hb.cell (p := ⟨b, o + 2, none⟩) h1).trans a2, (hb.cell (p := ⟨b, o + 3, none⟩) h1).trans a3,
    (hb.cell (p := ⟨q, 0, none⟩) h2).trans a4, (hb.cell (p := ⟨q, 1, none⟩) h2).trans a5, (hb.cell (p := ⟨q, 2, none⟩) h2).trans a6, (hb.cell (p := ⟨q, 3, none⟩) h2).trans a7, (hb.cell (p := ⟨q, 4, none⟩) h2).trans a8⟩
set_option maxRecDepth 100000 in
set_option maxHeartbeats 8000000 in
theorem rconcd_any (A : Option Addr) (c : Nat) (l : List Sb) (a : Al) (w : World) (h : SubsAt w w.heap.size A l) (hn : l.length ≤ 100000) :
    Calls Tryz.prog 22 #[.slice A l.length c, .agg a.cells] w fun e w' => e = .returned (.int .i64 ((selL (fun s => conc s a) l).length : Int)) ∧ Below w.heap.size w w' := by
  have hb0 : Below w.heap.size w (w.alloc (Obj.cells a.cells 28)) := (Below.refl _ _).alloc (Nat.le_refl _) _
  have hq0 : Blk (w.alloc (Obj.cells a.cells 28)) w.heap.size 28 a.cells := Blk.new _ _ _
  have H := hide (h.next hb0)
  have HB0 := hide hb0
  have HQ0 := hide hq0
  clear h hb0 hq0
  go_enter Tryz.func22, Tryz.ntmps22
  go_wp2_with fail
  generalize w.alloc (Obj.cells a.cells 28) = w0 at H HB0 HQ0 ⊢
  obtain ⟨q, hq⟩ : ∃ q, q = w.heap.size := ⟨_, rfl⟩
  rw [← hq] at HQ0 ⊢
  clear hq
  go_loopw [5, 6] (fun t5 t6 wr => ∃ i : Nat, i ≤ l.length ∧ t6 = .int .i64 i ∧ t5 = .int .i64 ((selL (fun s => conc s a) (l.take i)).length : Int) ∧ Below w0.heap.size w0 wr) (fun _ t6 _ => l.length - (intOf t6).toNat)
  case atStart => exact ⟨0, Nat.zero_le _, rfl, rfl, Below.refl _ _⟩
  case round =>
    obtain ⟨i, hi, rfl, rfl, hb⟩ := hrel
    have HB1 := hide hb
    clear hb
    by_cases hin : i < l.length
    · obtain ⟨b, off, K, kc, rfl, hbb, g0, g1, g2, g3, hex⟩ := (H.out.next HB1.out).at_ hin
      have hin' : (i : Int) < (l.length : Int) := Int.ofNat_lt.2 hin
      have i0 : (0 : Int) ≤ (i : Int) := Int.natCast_nonneg i
      have SC : Hid (selL (fun s => conc s a) (l.take (i + 1)) = selL (fun s => conc s a) (l.take i) ++ if conc (sbAt l i) a = true then [(i : Int)] else []) := hide (selL_take _ l hin)
      have NC : Hid ((selL (fun s => conc s a) (l.take i)).length ≤ l.length) := hide (Nat.le_trans (selL_len _ _) (by rw [List.length_take]; omega))
      have HQ1 := hide (HQ0.out.below HB1.out HQ0.out.lt)
      obtain ⟨c0, c1, c2, c3, c4⟩ := al_hold HQ1.out
      have NI := hide (show wr.cell? ⟨b, off + i * 4, none⟩ = _ ∧ wr.cell? ⟨b, off + i * 4 + 1, none⟩ = _ ∧ wr.cell? ⟨b, off + i * 4 + 2, none⟩ = _ ∧ wr.cell? ⟨b, off + i * 4 + 3, none⟩ = _ ∧ wr.cell? ⟨q, 0, none⟩ = _ ∧ wr.cell? ⟨q, 1, none⟩ = _ ∧ wr.cell? ⟨q, 2, none⟩ = _ ∧ wr.cell? ⟨q, 3, none⟩ = _ ∧ wr.cell? ⟨q, 4, none⟩ = _ from ⟨g0, g1, g2, g3, c0, c1, c2, c3, c4⟩)
      have HQL := hide HQ1.out.lt
      have HBL := hide hbb
      generalize sbAt l i = s at g0 g1 g2 g3 SC NI
      clear hex HQ1
      go_upto_region 5 with (fail)
      go_region_held3 (fun w' => w'.cell? ⟨b, off + i * 4, none⟩ = some (.int .i64 s.prog) ∧ w'.cell? ⟨b, off + i * 4 + 1, none⟩ = some (.int .i64 s.tile) ∧ w'.cell? ⟨b, off + i * 4 + 2, none⟩ = some (.int .i64 s.filt) ∧ w'.cell? ⟨b, off + i * 4 + 3, none⟩ = some (.slice K s.whn.length kc) ∧ w'.cell? ⟨q, 0, none⟩ = some (.int .i64 a.tile) ∧ w'.cell? ⟨q, 1, none⟩ = some (.int .i64 a.cell) ∧ w'.cell? ⟨q, 2, none⟩ = some (.int .i64 a.filt) ∧ w'.cell? ⟨q, 3, none⟩ = some (.int .i64 a.val) ∧ w'.cell? ⟨q, 4, none⟩ = some (.int .i64 a.mom))
        (first | go_keep | exact NI.out | exact NI2.out)
        (first
          | (go_at_call 44; refine (rconc_any s a K s.whn.length kc wr.drew).mono ?_; rintro en w2 ⟨rfl, b2⟩; have B2 : Hid (Below wr.heap.size wr w2) := hide (Below.trans (Below.drew (Below.refl _ _)) b2); have NI2 := hide (nine_below B2.out HBL.out HQL.out NI.out); clear b2))
      have HB2 := hide (HB1.out.trans (B2.out.mono HB1.out.size))
      clear NI NI2 B2 HB1 g0 g1 g2 g3 c0 c1 c2 c3 c4 HQL HBL
      have nc0 : (0 : Int) ≤ ((selL (fun s => conc s a) (l.take i)).length : Int) := Int.natCast_nonneg _
      have nc1 : ((selL (fun s => conc s a) (l.take i)).length : Int) ≤ 100000 := by have := NC.out; omega
      have SL : Hid ((selL (fun s => conc s a) (l.take (i + 1))).length = (selL (fun s => conc s a) (l.take i)).length + if conc s a = true then 1 else 0) := hide (by rw [SC.out, List.length_append]; split <;> rfl)
      clear SC NC
      generalize (selL (fun s => conc s a) (l.take i)).length = nc at nc0 nc1 SL ⊢
      cases hc : conc s a
      · rw [hc] at SL
        have SL2 : Hid ((selL (fun s => conc s a) (l.take (i + 1))).length = nc) := SL
        clear hc SL
        go_wp2
        go_roundw
        case rel => exact ⟨i + 1, by omega, by go_num, by rw [SL2.out], HB2.out⟩
        case measure => simp [intOf]; omega
      · rw [hc] at SL
        have SL2 : Hid ((selL (fun s => conc s a) (l.take (i + 1))).length = nc + 1) := SL
        clear hc SL
        go_wp2
        go_roundw
        case rel => exact ⟨i + 1, by omega, by go_num, by rw [SL2.out]; first | done | go_num, HB2.out⟩
        case measure => simp [intOf]; omega
    · obtain rfl : i = l.length := by omega
      have HT : Hid (l.take l.length = l) := hide List.take_length
      have HBF := hide (HB0.out.trans (HB1.out.mono HB0.out.size))
      rw [HT.out]
      go_wp2
      go_ret
      exact ⟨rfl, HBF.out⟩
set_option maxRecDepth 100000 in
set_option maxHeartbeats 8000000 in
theorem rmatch_any (A : Option Addr) (c : Nat) (l : List Sb) (a : Al) (w : World) (h : SubsAt w w.heap.size A l) (ho : SbsOk l) (hn : l.length ≤ 100000) :
    Calls Tryz.prog 14 #[.slice A l.length c, .agg a.cells] w (FMPost w l a) := by
  have hb0 : Below w.heap.size w (w.alloc (Obj.cells a.cells 28)) := (Below.refl _ _).alloc (Nat.le_refl _) _
  have hq0 : Blk (w.alloc (Obj.cells a.cells 28)) w.heap.size 28 a.cells := Blk.new _ _ _
  have H := hide (h.next hb0)
  have HO := hide ho
  have HB0 := hide hb0
  have HQ0 := hide hq0
  clear h hb0 hq0 ho
  go_enter Tryz.func14, Tryz.ntmps14
  go_wp2_with fail
  generalize w.alloc (Obj.cells a.cells 28) = w0 at H HB0 HQ0 ⊢
  obtain ⟨q, hq⟩ : ∃ q, q = w.heap.size := ⟨_, rfl⟩
  rw [← hq] at HQ0 ⊢
  clear hq
  refine (rlist_any A c l w0 H.out HO.out hn).mono ?_
  rintro e w1 ⟨rfl, hb1⟩
  have HB1 := hide (HB0.out.trans (hb1.mono HB0.out.size))
  have H1 := hide (H.out.next hb1)
  have HQ1 := hide (HQ0.out.below hb1 HQ0.out.lt)
  clear hb1 H HB0 HQ0
  cases hv : sbsValid l
  · have HF := hide (FMPost.bad (a := a) (fun h => by rw [hv] at h; cases h.1) HB1.out)
    clear hv
    go_wp2
    go_ret2
    exact HF.out
  · have HV := hide hv
    clear hv
    obtain ⟨c0, c1, c2, c3, c4⟩ := al_hold HQ1.out
    go_wp2_with fail
    refine (ralert_any a w1).mono ?_
    rintro e w2 ⟨rfl, hb2⟩
    have HB2 := hide (HB1.out.trans (hb2.mono HB1.out.size))
    have H2 := hide (H1.out.next hb2)
    have HQ2 := hide (HQ1.out.below hb2 HQ1.out.lt)
    clear hb2 H1 HB1 HQ1 c0 c1 c2 c3 c4
    cases ha : alValid a
    · have HF := hide (FMPost.bad (l := l) (fun h => by rw [ha] at h; cases h.2) HB2.out)
      clear ha
      go_wp2
      go_ret2
      exact HF.out
    · have HA := hide ha
      have HM : Hid (matchF l a = (selL (fun s => conc s a && hitS a s) l, 0)) := hide (matchF_val ⟨HV.out, ha⟩)
      have HL : Hid (l.length ≤ 64) := hide (sbs_len HV.out)
      clear ha
      obtain ⟨i0', hi0, hz0, hz1, hz2⟩ := info_parts int_info
      go_wp2_with fail
      go_loopw [6, 7, 8, 9] (fun t6 t7 t8 t9 wr => ∃ (i : Nat) (Aw : Option Addr) (cw : Nat), i ≤ l.length ∧ t7 = .int .i64 i ∧ t6 = .slice Aw (selL (fun s => conc s a && hitS a s) (l.take i)).length cw ∧ Own wr w2.heap.size 3 1 Aw (selL (fun s => conc s a && hitS a s) (l.take i)).length cw (ints (selL (fun s => conc s a && hitS a s) (l.take i))) ∧ Below w2.heap.size w2 wr) (fun _ t7 _ _ _ => l.length - (intOf t7).toNat)
      case atStart => exact ⟨0, none, 0, Nat.zero_le _, rfl, rfl, Own.nil _ _ _ _, Below.refl _ _⟩
      case round =>
        obtain ⟨i, Aw, cw, hi, rfl, rfl, hown, hb⟩ := hrel
        have HB3 := hide hb
        have HOW := hide hown
        clear hb hown
        by_cases hin : i < l.length
        · obtain ⟨b, off, K, kc, rfl, hbb, g0, g1, g2, g3, hex⟩ := (H2.out.next HB3.out).at_ hin
          have hin' : (i : Int) < (l.length : Int) := Int.ofNat_lt.2 hin
          have i0 : (0 : Int) ≤ (i : Int) := Int.natCast_nonneg i
          have ST : Hid (selL (fun s => conc s a && hitS a s) (l.take (i + 1)) = selL (fun s => conc s a && hitS a s) (l.take i) ++ if (conc (sbAt l i) a && hitS a (sbAt l i)) = true then [(i : Int)] else []) := hide (selL_take _ l hin)
          have NC : Hid ((selL (fun s => conc s a && hitS a s) (l.take i)).length ≤ 64) := hide (Nat.le_trans (selL_len _ _) (by rw [List.length_take]; have := HL.out; omega))
          have HQ3 := hide (HQ2.out.below HB3.out HQ2.out.lt)
          have HSO := hide (HO.out _ (sbAt_mem hin))
          have hval := cond_val (sbs_at HV.out hin) HA.out
          obtain ⟨v, hev⟩ : ∃ v, evalM (sbAt l i).whn (vars37 a) = (v, 0) := ⟨(evalM (sbAt l i).whn (vars37 a)).1, by rw [← hval]⟩
          have HEV := hide hev
          have HHS : Hid (hitS a (sbAt l i) = decide (0 < v)) := hide (by unfold hitS; rw [hev]; simp)
          obtain ⟨c0, c1, c2, c3, c4⟩ := al_hold HQ3.out
          have NI := hide (show wr.cell? ⟨b, off + i * 4, none⟩ = _ ∧ wr.cell? ⟨b, off + i * 4 + 1, none⟩ = _ ∧ wr.cell? ⟨b, off + i * 4 + 2, none⟩ = _ ∧ wr.cell? ⟨b, off + i * 4 + 3, none⟩ = _ ∧ wr.cell? ⟨q, 0, none⟩ = _ ∧ wr.cell? ⟨q, 1, none⟩ = _ ∧ wr.cell? ⟨q, 2, none⟩ = _ ∧ wr.cell? ⟨q, 3, none⟩ = _ ∧ wr.cell? ⟨q, 4, none⟩ = _ from ⟨g0, g1, g2, g3, c0, c1, c2, c3, c4⟩)
          have HQL := hide HQ3.out.lt
          have HBL := hide hbb
          have HEX := hide hex
          have hl64 : l.length ≤ 64 := HL.out
          clear hex HQ3 hval hev
          generalize sbAt l i = s at g0 g1 g2 g3 ST NI HEX HSO HEV HHS
          go_upto_region 7 with (fail)
          go_region_held3 (fun w' => w'.cell? ⟨b, off + i * 4, none⟩ = some (.int .i64 s.prog) ∧ w'.cell? ⟨b, off + i * 4 + 1, none⟩ = some (.int .i64 s.tile) ∧ w'.cell? ⟨b, off + i * 4 + 2, none⟩ = some (.int .i64 s.filt) ∧ w'.cell? ⟨b, off + i * 4 + 3, none⟩ = some (.slice K s.whn.length kc) ∧ w'.cell? ⟨q, 0, none⟩ = some (.int .i64 a.tile) ∧ w'.cell? ⟨q, 1, none⟩ = some (.int .i64 a.cell) ∧ w'.cell? ⟨q, 2, none⟩ = some (.int .i64 a.filt) ∧ w'.cell? ⟨q, 3, none⟩ = some (.int .i64 a.val) ∧ w'.cell? ⟨q, 4, none⟩ = some (.int .i64 a.mom))
            (first | go_keep | exact NI.out | exact NI2.out)
            (first
              | (go_at_call 44; refine (rconc_any s a K s.whn.length kc wr.drew).mono ?_; rintro en w4 ⟨rfl, b4⟩; have B4 : Hid (Below wr.heap.size wr w4) := hide (Below.trans (Below.drew (Below.refl _ _)) b4); have NI2 := hide (nine_below B4.out HBL.out HQL.out NI.out); clear b4))
          have HB4 := hide (HB3.out.trans (B4.out.mono HB3.out.size))
          have HOW4 := hide (HOW.out.below B4.out)
          have HEX4 := hide ((HEX.out.below B4.out).more B4.out.size)
          clear g0 g1 g2 g3 c0 c1 c2 c3 c4
          obtain ⟨g0, g1, g2, g3, c0, c1, c2, c3, c4⟩ := NI2.out
          have HQL4 := hide (Nat.lt_of_lt_of_le HQL.out B4.out.size)
          have HBL4 := hide (Nat.lt_of_lt_of_le HBL.out B4.out.size)
          clear NI B4 HB3 HOW HEX HQL HBL
          cases hc : conc s a
          · rw [hc, Bool.false_and] at ST
            have ST2 : Hid (selL (fun s => conc s a && hitS a s) (l.take (i + 1)) = selL (fun s => conc s a && hitS a s) (l.take i)) := hide (by rw [ST.out, if_neg (by decide), List.append_nil])
            clear hc ST g0 g1 g2 g3 c0 c1 c2 c3 c4 NI2
            go_wp2_with fail
            go_roundw
            case rel => exact ⟨i + 1, Aw, cw, by omega, by go_num, by rw [ST2.out], by rw [ST2.out]; exact HOW4.out, HB4.out⟩
            case measure => simp [intOf]; omega
          · rw [hc, Bool.true_and, HHS.out] at ST
            clear hc HHS
            go_upto_region 8 with (fail)
            have HW5 : Hid (Below w4.heap.size w4 (w4.alloc (Obj.cells #[.string ⟨#[118, 97, 108, 117, 101]⟩, .int .i64 a.val, .string ⟨#[99, 101, 108, 108]⟩, .int .i64 a.cell, .string ⟨#[116, 105, 108, 101]⟩, .int .i64 a.tile, .string ⟨#[102, 105, 108, 116, 101, 114]⟩, .int .i64 a.filt] 46))) := hide ((Below.refl _ _).alloc (Nat.le_refl _) _)
            have HRV : Hid (RVr (w4.alloc (Obj.cells #[.string ⟨#[118, 97, 108, 117, 101]⟩, .int .i64 a.val, .string ⟨#[99, 101, 108, 108]⟩, .int .i64 a.cell, .string ⟨#[116, 105, 108, 101]⟩, .int .i64 a.tile, .string ⟨#[102, 105, 108, 116, 101, 114]⟩, .int .i64 a.filt] 46)) (w4.alloc (Obj.cells #[.string ⟨#[118, 97, 108, 117, 101]⟩, .int .i64 a.val, .string ⟨#[99, 101, 108, 108]⟩, .int .i64 a.cell, .string ⟨#[116, 105, 108, 101]⟩, .int .i64 a.tile, .string ⟨#[102, 105, 108, 116, 101, 114]⟩, .int .i64 a.filt] 46)).heap.size (some ⟨w4.heap.size, 0, none⟩) 4 (vars37 a)) := hide (by
              have h := reads_new w4 #[.string ⟨#[118, 97, 108, 117, 101]⟩, .int .i64 a.val, .string ⟨#[99, 101, 108, 108]⟩, .int .i64 a.cell, .string ⟨#[116, 105, 108, 101]⟩, .int .i64 a.tile, .string ⟨#[102, 105, 108, 116, 101, 114]⟩, .int .i64 a.filt] 46 2 4 rfl
              rw [World.size_alloc]
              exact h)
            have NI5 := hide (nine_below HW5.out HBL4.out HQL4.out NI2.out)
            have HEX5 := hide (((HEX4.out.below HW5.out).more HW5.out.size).next (Below.drew (Below.refl _ _)))
            have HRV5 := hide (RVr.next HRV.out (Below.drew (Below.refl _ _)))
            have HWD5 := hide (Below.drew HW5.out)
            go_region_held3 (fun w' => w'.cell? ⟨b, off + i * 4, none⟩ = some (.int .i64 s.prog) ∧ w'.cell? ⟨b, off + i * 4 + 1, none⟩ = some (.int .i64 s.tile) ∧ w'.cell? ⟨b, off + i * 4 + 2, none⟩ = some (.int .i64 s.filt) ∧ w'.cell? ⟨b, off + i * 4 + 3, none⟩ = some (.slice K s.whn.length kc) ∧ w'.cell? ⟨q, 0, none⟩ = some (.int .i64 a.tile) ∧ w'.cell? ⟨q, 1, none⟩ = some (.int .i64 a.cell) ∧ w'.cell? ⟨q, 2, none⟩ = some (.int .i64 a.filt) ∧ w'.cell? ⟨q, 3, none⟩ = some (.int .i64 a.val) ∧ w'.cell? ⟨q, 4, none⟩ = some (.int .i64 a.mom))
              (first | go_keep | exact NI2.out | exact NI5.out | exact NI6.out)
              (first
                | (go_at_call 45; refine (refEval_any K kc s.whn (some ⟨w4.heap.size, 0, none⟩) 4 4 (vars37 a) _ HEX5.out HSO.out.1 HSO.out.2.1 HRV5.out (by unfold maxLen; omega) (vars37_names a)).mono ?_; rintro en w6 ⟨rfl, b6⟩; have B6 : Hid (Below w4.heap.size w4 w6) := hide (HWD5.out.trans (b6.mono HWD5.out.size)); have NI6 := hide (nine_below B6.out HBL4.out HQL4.out NI2.out); clear b6))
            rw [HEV.out]
            dsimp only
            have HB6 := hide (HB4.out.trans (B6.out.mono HB4.out.size))
            have HOW6 := hide (HOW4.out.below B6.out)
            clear B6 NI2 NI5 NI6 HW5 HRV HRV5 HWD5 HEX4 HEX5 HQL4 HBL4 g0 g1 g2 g3 c0 c1 c2 c3 c4 HEV HB4 HOW4 HSO
            generalize (selL (fun s => conc s a && hitS a s) (l.take i)) = ls at ST NC HOW6 ⊢
            by_cases hv0 : 0 < v
            · have hd : decide ((0 : Int) < v) = true := decide_eq_true hv0
              have ST2 : Hid (selL (fun s => conc s a && hitS a s) (l.take (i + 1)) = ls ++ [(i : Int)]) := hide (by rw [ST.out, if_pos hd])
              have RR : Hid (Reads (w6.alloc (Obj.cells #[.int .i64 (i : Int)] 3)) (w6.heap.size + 1) 1 (some ⟨w6.heap.size, 0, none⟩) 1 [.int .i64 (i : Int)]) := hide (reads_new w6 _ 3 1 1 rfl)
              have HO7 := hide (HOW6.out.alloc (Obj.cells #[.int .i64 (i : Int)] 3))
              have HB7 : Hid (Below w2.heap.size w2 (w6.alloc (Obj.cells #[.int .i64 (i : Int)] 3))) := hide (HB6.out.alloc HB6.out.size _)
              have hm0 : ls.length + 1 ≤ maxLen := by have := NC.out; unfold maxLen; omega
              have hm1 : (ls.length + 1) * 8 ≤ 140737488355328 := by have := NC.out; omega
              have hbs := HB7.out.size
              clear ST hv0
              go_wp2_with (at_builtin; refine wpList_app_own (by rfl) (.tmp 55) (.tmp 57) 31 rfl w2.heap.size 3 (.int .i64 0) 1 8 Tryz.underlying31 int_info rfl (by omega) Aw ls.length cw _ rfl HO7.out _ _ 1 _ [.int .i64 (i : Int)] rfl RR.out (by simp [Value.oneCell']) hm0 hm1 hbs ?_; intro A9 c9 w9 hown9 hb9; have HO9 := hide hown9; have HB9 := hide (HB7.out.trans hb9); clear hown9 hb9)
              go_roundw
              case rel => exact ⟨i + 1, A9, c9, by omega, by go_num, by rw [ST2.out, List.length_append]; rfl, by rw [ST2.out, ints_append, List.length_append]; exact HO9.out, HB9.out⟩
              case measure => simp [intOf]; omega
            · have hd : decide ((0 : Int) < v) = false := decide_eq_false hv0
              have ST2 : Hid (selL (fun s => conc s a && hitS a s) (l.take (i + 1)) = ls) := hide (by rw [ST.out, if_neg (by rw [hd]; decide), List.append_nil])
              clear ST hv0
              go_wp2_with fail
              go_roundw
              case rel => exact ⟨i + 1, Aw, cw, by omega, by go_num, by rw [ST2.out], by rw [ST2.out]; exact HOW6.out, HB6.out⟩
              case measure => simp [intOf]; omega
        · obtain rfl : i = l.length := by omega
          have HT : Hid (l.take l.length = l) := hide List.take_length
          have HBF := hide (HB2.out.trans (HB3.out.mono HB2.out.size))
          rw [HT.out] at HOW ⊢
          go_wp2
          go_ret2
          refine ⟨Aw, cw, ?_, ?_, HBF.out⟩
          · rw [HM.out]; rfl
          · rw [HM.out]; exact Own.ri HOW.out
end Go.Proofs.YtkomgidcgepknaaGreatDoor

set_option linter.unusedVariables false
set_option linter.unusedSimpArgs false
namespace Go.Proofs.YtkomgidcgepknaaGreatDoor
open Go.RowKit Go.Deep Go.Maps

theorem subs_one {w : World} {s : Sb} {K : Option Addr} {c : Nat} (h : ExprAt w w.heap.size K s.whn) :
    SubsAt (w.alloc (Obj.cells #[.int .i64 s.prog, .int .i64 s.tile, .int .i64 s.filt, .slice K s.whn.length c] 26)) (w.alloc (Obj.cells #[.int .i64 s.prog, .int .i64 s.tile, .int .i64 s.filt, .slice K s.whn.length c] 26)).heap.size (some ⟨w.heap.size, 0, none⟩) [s] := by
  refine ⟨[(K, c)], rfl, ?_, fun i x k hx hk => ?_⟩
  · have h2 := reads_new w #[.int .i64 s.prog, .int .i64 s.tile, .int .i64 s.filt, .slice K s.whn.length c] 26 4 1 rfl
    rw [World.size_alloc]
    exact h2
  · cases i with
    | zero =>
      simp only [List.getElem?_cons_zero, Option.some.injEq] at hx hk
      subst hx hk
      exact h.next ((Below.refl _ _).alloc (Nat.le_refl _) _)
    | succ i => simp at hx
theorem sb_hold {w : World} {q : Nat} {s : Sb} {K : Option Addr} {kc : Nat} (h : Blk w q 26 #[.int .i64 s.prog, .int .i64 s.tile, .int .i64 s.filt, .slice K s.whn.length kc]) :
    w.cell? ⟨q, 0, none⟩ = some (.int .i64 s.prog) ∧ w.cell? ⟨q, 1, none⟩ = some (.int .i64 s.tile) ∧ w.cell? ⟨q, 2, none⟩ = some (.int .i64 s.filt) ∧ w.cell? ⟨q, 3, none⟩ = some (.slice K s.whn.length kc) :=
  ⟨h.cell 0, h.cell 1, h.cell 2, h.cell 3⟩
set_option maxRecDepth 100000 in
set_option maxHeartbeats 8000000 in
theorem fmatches_any (A : Option Addr) (c : Nat) (l : List Sb) (s : Sb) (K : Option Addr) (kc : Nat) (a : Al) (w : World) (h : SubsAt w w.heap.size A l) (ho : SbsOk l) (hn : l.length ≤ maxLen) (he : ExprAt w w.heap.size K s.whn) (hso : (∀ z ∈ s.whn, z.name.size ≤ maxLen) ∧ s.whn.length ≤ maxLen ∧ ∀ z ∈ s.whn, z.kids.length ≤ maxLen) :
    Calls Tryz.prog 3 #[.slice A l.length c, .agg #[.int .i64 s.prog, .int .i64 s.tile, .int .i64 s.filt, .slice K s.whn.length kc], .agg a.cells] w fun e w' => e = .returned (.bool true) ∧ Below w.heap.size w w' := by
  have HO := hide ho
  have HSO := hide hso
  have hs0 : Blk (w.alloc (Obj.cells #[.int .i64 s.prog, .int .i64 s.tile, .int .i64 s.filt, .slice K s.whn.length kc] 26)) w.heap.size 26 #[.int .i64 s.prog, .int .i64 s.tile, .int .i64 s.filt, .slice K s.whn.length kc] := Blk.new _ _ _
  have hs := hs0.alloc (Obj.cells a.cells 28)
  have ha := Blk.new (w.alloc (Obj.cells #[.int .i64 s.prog, .int .i64 s.tile, .int .i64 s.filt, .slice K s.whn.length kc] 26)) 28 a.cells
  rw [World.size_alloc] at ha
  have hb0 : Below w.heap.size w ((w.alloc (Obj.cells #[.int .i64 s.prog, .int .i64 s.tile, .int .i64 s.filt, .slice K s.whn.length kc] 26)).alloc (Obj.cells a.cells 28)) := ((Below.refl _ _).alloc (Nat.le_refl _) _).alloc (by simp) _
  have H := hide (h.next hb0)
  have HE := hide (he.next hb0)
  have HN := hide hn
  have HB0 := hide hb0
  have HS0 := hide hs
  have HQ0 := hide ha
  clear h ho hn hb0 hs0 hs ha he hso
  go_enter Tryz.func3, Tryz.ntmps3
  go_upto_region 1 with (fail)
  change Code.wp _ _ _ _ ((w.alloc (Obj.cells #[.int .i64 s.prog, .int .i64 s.tile, .int .i64 s.filt, .slice K s.whn.length kc] 26)).alloc (Obj.cells a.cells 28))
  generalize (w.alloc (Obj.cells #[.int .i64 s.prog, .int .i64 s.tile, .int .i64 s.filt, .slice K s.whn.length kc] 26)).alloc (Obj.cells a.cells 28) = w0 at H HE HB0 HS0 HQ0 ⊢
  obtain ⟨q, hq⟩ : ∃ q, q = w.heap.size := ⟨_, rfl⟩
  rw [← hq] at HS0 HQ0 ⊢
  clear hq
  go_wp2_with fail
  refine (head37_any w0).mono ?_
  rintro e w1 ⟨rfl, hb1⟩
  have HB1 := hide (HB0.out.trans (hb1.mono HB0.out.size))
  have H1 := hide (H.out.next hb1)
  have HE1 := hide (HE.out.next hb1)
  have HS1 := hide (HS0.out.below hb1 HS0.out.lt)
  have HQ1 := hide (HQ0.out.below hb1 HQ0.out.lt)
  clear hb1 H HE HB0 HS0 HQ0
  go_wp2_with fail
  refine (lfew37_any A c l w1 H1.out HO.out HN.out).mono ?_
  rintro e w1' ⟨rfl, rfl⟩
  cases hf : few37 l
  · clear hf
    go_wp2
    go_ret
    exact ⟨rfl, HB1.out⟩
  have HL := hide (few37_len hf)
  clear hf
  have HS1' := HS1.out
  have s0 : w1.cell? ⟨q, 0, none⟩ = some (.int .i64 s.prog) := HS1'.cell 0
  have s1 : w1.cell? ⟨q, 1, none⟩ = some (.int .i64 s.tile) := HS1'.cell 1
  have s2 : w1.cell? ⟨q, 2, none⟩ = some (.int .i64 s.filt) := HS1'.cell 2
  have s3 : w1.cell? ⟨q, 3, none⟩ = some (.slice K s.whn.length kc) := HS1'.cell 3
  clear HS1'
  have HONE := hide (subs_one (c := kc) HE1.out)
  have HOK1 : Hid (SbsOk [s]) := hide (fun x hx => by rw [List.mem_singleton] at hx; subst hx; exact HSO.out)
  have hb2 : Below w1.heap.size w1 (w1.alloc (Obj.cells #[.int .i64 s.prog, .int .i64 s.tile, .int .i64 s.filt, .slice K s.whn.length kc] 26)) := (Below.refl _ _).alloc (Nat.le_refl _) _
  have HB2 := hide (HB1.out.trans (hb2.mono HB1.out.size))
  have H2 := hide (H1.out.next hb2)
  have HE2 := hide (HE1.out.next hb2)
  have HS2 := hide (HS1.out.below hb2 HS1.out.lt)
  have HQ2 := hide (HQ1.out.below hb2 HQ1.out.lt)
  clear hb2 HB1 H1 HE1 HS1 HQ1
  go_wp2_with fail
  generalize w1.alloc (Obj.cells #[.int .i64 s.prog, .int .i64 s.tile, .int .i64 s.filt, .slice K s.whn.length kc] 26) = w2 at HONE HB2 H2 HE2 HS2 HQ2 ⊢
  clear s0 s1 s2 s3
  refine (lfew37_any _ 1 [s] w2 HONE.out HOK1.out (show 1 ≤ maxLen by decide)).mono ?_
  rintro e w2' ⟨rfl, rfl⟩
  cases hf : few37 [s]
  · clear hf
    go_wp2
    go_ret
    exact ⟨rfl, HB2.out⟩
  clear hf HONE HOK1
  obtain ⟨c0, c1, c2, c3, c4⟩ := al_hold HQ2.out
  go_wp2_with fail
  refine (fmatch_any A c l a w2 H2.out HO.out HN.out).mono ?_
  rintro e w3 ⟨A3, c3', rfl, hr3, hb3⟩
  have HR3 := hide hr3
  have HB3 := hide (HB2.out.trans (hb3.mono HB2.out.size))
  have H3 := hide (H2.out.next hb3)
  have HE3 := hide (HE2.out.next hb3)
  have HS3 := hide (HS2.out.below hb3 HS2.out.lt)
  have HQ3 := hide (HQ2.out.below hb3 HQ2.out.lt)
  have HN3 : Hid (l.length ≤ 100000) := hide (Nat.le_trans HL.out (by decide))
  clear hr3 hb3 HB2 H2 HE2 HS2 HQ2 c0 c1 c2 c3 c4
  obtain ⟨c0, c1, c2, c3, c4⟩ := al_hold HQ3.out
  go_wp2_with fail
  refine (rmatch_any A c l a w3 H3.out HO.out HN3.out).mono ?_
  rintro e w4 ⟨A4, c4', rfl, hr4, hb4⟩
  have HR4 := hide hr4
  have HR34 := hide (HR3.out.next hb4)
  have HB4 := hide (HB3.out.trans (hb4.mono HB3.out.size))
  have H4 := hide (H3.out.next hb4)
  have HE4 := hide (HE3.out.next hb4)
  have HS4 := hide (HS3.out.below hb4 HS3.out.lt)
  have HQ4 := hide (HQ3.out.below hb4 HQ3.out.lt)
  clear hr4 hb4 HB3 H3 HE3 HS3 HQ3 HR3 c0 c1 c2 c3 c4
  go_wp2_with fail
  refine (fnew_any A c l w4.heap.size w4 (SubsK.of H4.out) (Nat.le_refl _) HO.out HN.out).mono ?_
  rintro e w5 ⟨hp, hb5⟩
  have HR45 := hide (HR4.out.next hb5)
  have HR35 := hide (HR34.out.next hb5)
  have HB5 := hide (HB4.out.trans (hb5.mono HB4.out.size))
  have H5 := hide (H4.out.next hb5)
  have HE5 := hide (HE4.out.next hb5)
  have HS5 := hide (HS4.out.below hb5 HS4.out.lt)
  have HQ5 := hide (HQ4.out.below hb5 HQ4.out.lt)
  have HSZ : Hid (w4.heap.size ≤ w5.heap.size) := hide hb5.size
  clear hb5 HB4 H4 HE4 HS4 HQ4 HR34 HR4
  have HML : Hid ((matchF l a).1.length ≤ 65) := hide (Nat.le_trans (matchF_len l a) HL.out)
  have hme : (matchF l a).2 = if sbsValid l = true ∧ alValid a = true then 0 else 1 := by unfold matchF; split <;> rfl
  have HMF : Hid (sbsValid l = true → alValid a = true → (matchF l a).1 = matchL l a) := hide (fun h1 h2 => by unfold matchF; rw [if_pos ⟨h1, h2⟩])
  generalize matchF l a = mf at HR45 HR35 HML hme HMF ⊢
  obtain ⟨mm, me⟩ := mf
  dsimp only at HR45 HR35 HML hme HMF ⊢
  have hmx : mm.length ≤ 100000 := by have := HML.out; omega
  cases hlv : sbsValid l
  · rw [if_neg (by rw [hlv]; decide)] at hp
    subst hp
    rw [hlv, if_neg (fun h => by cases h.1)] at hme
    subst hme
    have HLV := hide hlv
    clear hlv
    go_upto_region 7 with (fail)
    go_cut [82] (fun t82 wx => t82 = .bool false ∧ Below w5.heap.size w5 wx)
    case first =>
      obtain ⟨s0, s1, s2, s3⟩ := sb_hold HS5.out
      have K5 := hide (sb_hold HS5.out)
      have E5 := hide (HE5.out.next (Below.drew (Below.refl w5.heap.size w5)))
      clear HQ5 HML HMF HSZ HB5
      cases hsv : sbValid s
      all_goals
        have HVB := hide hsv
        clear hsv
        first
          | (go_region_held3 (fun w' => w'.cell? ⟨q, 0, none⟩ = some (.int .i64 s.prog) ∧ w'.cell? ⟨q, 1, none⟩ = some (.int .i64 s.tile) ∧ w'.cell? ⟨q, 2, none⟩ = some (.int .i64 s.filt) ∧ w'.cell? ⟨q, 3, none⟩ = some (.slice K s.whn.length kc))
              (first | go_keep | exact K5.out | exact K6.out | exact K7.out | exact K8.out | exact K9.out)
              (first
                | (go_at_call 16; refine (sbValid_any s K kc w5.drew E5.out HSO.out.1 HSO.out.2.1).mono ?_; rintro en w6 ⟨rfl, b6⟩; rw [HVB.out]; have B6 : Hid (Below w5.heap.size w5 w6) := hide (Below.trans (Below.drew (Below.refl _ _)) b6); have K6 := hide (sb_hold (HS5.out.below B6.out HS5.out.lt)); clear b6)
                | (go_at_call 17; refine (rvalid_any s K kc w6 (HE5.out.next B6.out) HSO.out.1 HSO.out.2.1).mono ?_; rintro en w7 ⟨rfl, b7⟩; rw [HVB.out]; have B7 : Hid (Below w5.heap.size w5 w7) := hide (B6.out.trans (b7.mono B6.out.size)); have K7 := hide (sb_hold (HS5.out.below B7.out HS5.out.lt)); clear b7)
                | (go_at_call 18; refine (ints37_any A3 c3' mm A4 c4' mm w7 (HR35.out.next B7.out) (HR45.out.next B7.out) hmx hmx).mono ?_; rintro en wx ⟨rfl, nz, rfl⟩; rw [decide_eq_true rfl]; have B8 : Hid (Below w5.heap.size w5 (w7.drewN nz)) := hide (below_drewN B7.out nz); have K8 := hide (sb_hold (HS5.out.below B8.out HS5.out.lt)))
                | (go_at_call 19; refine (rlist_any A c l (w7.drewN nz) (H5.out.next B8.out) HO.out HN3.out).mono ?_; rintro en w9 ⟨rfl, b9⟩; rw [HLV.out]; have B9 : Hid (Below w5.heap.size w5 w9) := hide (B8.out.trans (b9.mono B8.out.size)); have K9 := hide (sb_hold (HS5.out.below B9.out HS5.out.lt)); clear b9)))
          | fail
      all_goals
        clear s0 s1 s2 s3 K5 K6 K7 K8 K9 B6 B7 B8
        go_wp2_with fail
        go_meet
        exact ⟨rfl, B9.out⟩
    case rest =>
    obtain ⟨rfl, b9⟩ := hcut
    have B9 := hide b9
    clear b9
    generalize wc = w9 at B9 ⊢
    have HB9 := hide (HB5.out.trans (B9.out.mono HB5.out.size))
    have HQ9 := hide (HQ5.out.below B9.out HQ5.out.lt)
    have H9 := hide (H5.out.next B9.out)
    have HR49 := hide (HR45.out.next B9.out)
    clear HQ5 HB5 HR35 HR45 HS5 HE5 H5
    obtain ⟨c0, c1, c2, c3, c4⟩ := al_hold HQ9.out
    go_wp2_with fail
    refine (imatch_nil a w9).mono ?_
    rintro e w10 ⟨rfl, hb10⟩
    have HB10 := hide (HB9.out.trans (hb10.mono HB9.out.size))
    clear hb10 HB9 B9 HQ9 H9 HR49 c0 c1 c2 c3 c4
    go_wp2
    go_ret
    exact ⟨rfl, HB10.out⟩
  · rw [if_pos hlv] at hp
    obtain ⟨p, rfl, hix⟩ := hp
    have HIX := hide hix
    have HLV := hide hlv
    rw [hlv] at hme
    clear hix hlv
    cases hav : alValid a
    · rw [hav, if_neg (fun h => by cases h.2)] at hme
      subst hme
      have HAV := hide hav
      clear hav
      go_upto_region 7 with (fail)
      go_cut [82] (fun t82 wx => t82 = .bool false ∧ Below w5.heap.size w5 wx)
      case first =>
        obtain ⟨s0, s1, s2, s3⟩ := sb_hold HS5.out
        have K5 := hide (sb_hold HS5.out)
        have E5 := hide (HE5.out.next (Below.drew (Below.refl w5.heap.size w5)))
        clear HQ5 HML HMF HSZ HB5
        cases hsv : sbValid s
        all_goals
          have HVB := hide hsv
          clear hsv
          first
            | (go_region_held (fun w' => w'.cell? ⟨q, 0, none⟩ = some (.int .i64 s.prog) ∧ w'.cell? ⟨q, 1, none⟩ = some (.int .i64 s.tile) ∧ w'.cell? ⟨q, 2, none⟩ = some (.int .i64 s.filt) ∧ w'.cell? ⟨q, 3, none⟩ = some (.slice K s.whn.length kc))
                (first | go_keep | exact K5.out | exact K6.out | exact K7.out | exact K8.out | exact K9.out)
                (first
                  | (go_at_call 16; refine (sbValid_any s K kc w5.drew E5.out HSO.out.1 HSO.out.2.1).mono ?_; rintro en w6 ⟨rfl, b6⟩; rw [HVB.out]; have B6 : Hid (Below w5.heap.size w5 w6) := hide (Below.trans (Below.drew (Below.refl _ _)) b6); have K6 := hide (sb_hold (HS5.out.below B6.out HS5.out.lt)); clear b6)
                  | (go_at_call 17; refine (rvalid_any s K kc w6 (HE5.out.next B6.out) HSO.out.1 HSO.out.2.1).mono ?_; rintro en w7 ⟨rfl, b7⟩; rw [HVB.out]; have B7 : Hid (Below w5.heap.size w5 w7) := hide (B6.out.trans (b7.mono B6.out.size)); have K7 := hide (sb_hold (HS5.out.below B7.out HS5.out.lt)); clear b7)
                  | (go_at_call 18; refine (ints37_any A3 c3' mm A4 c4' mm w7 (HR35.out.next B7.out) (HR45.out.next B7.out) hmx hmx).mono ?_; rintro en wx ⟨rfl, nz, rfl⟩; rw [decide_eq_true rfl]; have B8 : Hid (Below w5.heap.size w5 (w7.drewN nz)) := hide (below_drewN B7.out nz); have K8 := hide (sb_hold (HS5.out.below B8.out HS5.out.lt)))
                  | (go_at_call 19; refine (rlist_any A c l (w7.drewN nz) (H5.out.next B8.out) HO.out HN3.out).mono ?_; rintro en w9 ⟨rfl, b9⟩; rw [HLV.out]; have B9 : Hid (Below w5.heap.size w5 w9) := hide (B8.out.trans (b9.mono B8.out.size)); have K9 := hide (sb_hold (HS5.out.below B9.out HS5.out.lt)); clear b9)))
            | fail
        all_goals
          clear s0 s1 s2 s3 K5 K6 K7 K8 K9 B6 B7 B8
          go_wp2_with fail
          go_meet
          exact ⟨rfl, B9.out⟩
      case rest =>
      obtain ⟨rfl, b9⟩ := hcut
      have B9 := hide b9
      clear b9
      generalize wc = w9 at B9 ⊢
      have HB9 := hide (HB5.out.trans (B9.out.mono HB5.out.size))
      have HQ9 := hide (HQ5.out.below B9.out HQ5.out.lt)
      have H9 := hide (H5.out.next B9.out)
      have HR49 := hide (HR45.out.next B9.out)
      clear HQ5 HB5 HR35 HR45 HS5 HE5 H5
      obtain ⟨c0, c1, c2, c3, c4⟩ := al_hold HQ9.out
      go_wp2_with fail
      refine (imatch_bad p a w9 HAV.out).mono ?_
      rintro e w10 ⟨rfl, hb10⟩
      have HB10 := hide (HB9.out.trans (hb10.mono HB9.out.size))
      have HQ10 := hide (HQ9.out.below hb10 HQ9.out.lt)
      clear hb10 HB9 B9 HQ9 H9 HR49 c0 c1 c2 c3 c4
      obtain ⟨c0, c1, c2, c3, c4⟩ := al_hold HQ10.out
      go_wp2_with fail
      refine (ralert_any a w10).mono ?_
      rintro e w11 ⟨rfl, hb11⟩
      rw [HAV.out]
      have HB11 := hide (HB10.out.trans (hb11.mono HB10.out.size))
      clear hb11 HB10 HQ10 c0 c1 c2 c3 c4
      go_wp2
      go_ret
      exact ⟨rfl, HB11.out⟩
    · rw [hav, if_pos ⟨rfl, rfl⟩] at hme
      subst hme
      have HMM : Hid (matchL l a = mm) := hide (HMF.out HLV.out hav).symm
      have HAV := hide hav
      have HCN : Hid ((catL37 l a).length = (selL (fun s => conc s a) l).length) := hide (by rw [cat_len hav]; rfl)
      clear hav
      go_upto_region 7 with (fail)
      go_cut [82] (fun t82 wx => t82 = .bool false ∧ Below w5.heap.size w5 wx)
      case first =>
        obtain ⟨s0, s1, s2, s3⟩ := sb_hold HS5.out
        have K5 := hide (sb_hold HS5.out)
        have E5 := hide (HE5.out.next (Below.drew (Below.refl w5.heap.size w5)))
        clear HQ5 HML HMF HSZ HB5
        cases hsv : sbValid s
        all_goals
          have HVB := hide hsv
          clear hsv
          first
            | (go_region_held (fun w' => w'.cell? ⟨q, 0, none⟩ = some (.int .i64 s.prog) ∧ w'.cell? ⟨q, 1, none⟩ = some (.int .i64 s.tile) ∧ w'.cell? ⟨q, 2, none⟩ = some (.int .i64 s.filt) ∧ w'.cell? ⟨q, 3, none⟩ = some (.slice K s.whn.length kc))
                (first | go_keep | exact K5.out | exact K6.out | exact K7.out | exact K8.out | exact K9.out)
                (first
                  | (go_at_call 16; refine (sbValid_any s K kc w5.drew E5.out HSO.out.1 HSO.out.2.1).mono ?_; rintro en w6 ⟨rfl, b6⟩; rw [HVB.out]; have B6 : Hid (Below w5.heap.size w5 w6) := hide (Below.trans (Below.drew (Below.refl _ _)) b6); have K6 := hide (sb_hold (HS5.out.below B6.out HS5.out.lt)); clear b6)
                  | (go_at_call 17; refine (rvalid_any s K kc w6 (HE5.out.next B6.out) HSO.out.1 HSO.out.2.1).mono ?_; rintro en w7 ⟨rfl, b7⟩; rw [HVB.out]; have B7 : Hid (Below w5.heap.size w5 w7) := hide (B6.out.trans (b7.mono B6.out.size)); have K7 := hide (sb_hold (HS5.out.below B7.out HS5.out.lt)); clear b7)
                  | (go_at_call 18; refine (ints37_any A3 c3' mm A4 c4' mm w7 (HR35.out.next B7.out) (HR45.out.next B7.out) hmx hmx).mono ?_; rintro en wx ⟨rfl, nz, rfl⟩; rw [decide_eq_true rfl]; have B8 : Hid (Below w5.heap.size w5 (w7.drewN nz)) := hide (below_drewN B7.out nz); have K8 := hide (sb_hold (HS5.out.below B8.out HS5.out.lt)))
                  | (go_at_call 19; refine (rlist_any A c l (w7.drewN nz) (H5.out.next B8.out) HO.out HN3.out).mono ?_; rintro en w9 ⟨rfl, b9⟩; rw [HLV.out]; have B9 : Hid (Below w5.heap.size w5 w9) := hide (B8.out.trans (b9.mono B8.out.size)); have K9 := hide (sb_hold (HS5.out.below B9.out HS5.out.lt)); clear b9)))
            | fail
        all_goals
          clear s0 s1 s2 s3 K5 K6 K7 K8 K9 B6 B7 B8
          go_wp2_with fail
          go_meet
          exact ⟨rfl, B9.out⟩
      case rest =>
      obtain ⟨rfl, b9⟩ := hcut
      have B9 := hide b9
      clear b9
      generalize wc = w9 at B9 ⊢
      have HB9 := hide (HB5.out.trans (B9.out.mono HB5.out.size))
      have HQ9 := hide (HQ5.out.below B9.out HQ5.out.lt)
      have H9 := hide (H5.out.next B9.out)
      have HR49 := hide (HR45.out.next B9.out)
      clear HQ5 HB5 HR35 HR45 HS5 HE5 H5
      obtain ⟨c0, c1, c2, c3, c4⟩ := al_hold HQ9.out
      go_wp2_with fail
      have hsz9 : w4.heap.size ≤ w9.heap.size := Nat.le_trans HSZ.out B9.out.size
      have HIX9 := hide (HIX.out.below B9.out HSZ.out)
      refine (imatch_any p a l w4.heap.size w4.heap.size w9 HIX9.out hsz9 HAV.out HO.out (sbs_len HLV.out)).mono ?_
      rintro e w10 ⟨A10, c10, rfl, hr10, hb10⟩
      rw [HMM.out] at hr10 ⊢
      rw [HCN.out]
      have HR10 := hide hr10
      have HB10 := hide (HB9.out.trans (hb10.mono HB9.out.size))
      have HQ10 := hide (HQ9.out.below hb10 HQ9.out.lt)
      have H10 := hide (H9.out.next hb10)
      have HR410 := hide (HR49.out.next hb10)
      have HSL : Hid ((selL (fun s => conc s a) l).length ≤ 65) := hide (Nat.le_trans (selL_len _ _) HL.out)
      clear hr10 hb10 HB9 B9 HQ9 H9 HR49 c0 c1 c2 c3 c4 HIX9 HMM HCN
      obtain ⟨c0, c1, c2, c3, c4⟩ := al_hold HQ10.out
      go_wp2_with fail
      refine (ralert_any a w10).mono ?_
      rintro e w11 ⟨rfl, hb11⟩
      rw [HAV.out]
      have HB11 := hide (HB10.out.trans (hb11.mono HB10.out.size))
      have HQ11 := hide (HQ10.out.below hb11 HQ10.out.lt)
      have H11 := hide (H10.out.next hb11)
      have HR411 := hide (HR410.out.next hb11)
      have HR11 := hide (HR10.out.next hb11)
      clear hb11 HB10 HQ10 H10 HR410 HR10 c0 c1 c2 c3 c4
      go_wp2_with fail
      refine (ints37_any A10 c10 mm A4 c4' mm w11 HR11.out HR411.out hmx hmx).mono ?_
      rintro e w12 ⟨rfl, nz, rfl⟩
      rw [decide_eq_true rfl]
      have B12 : Hid (Below w11.heap.size w11 (w11.drewN nz)) := hide (below_drewN (Below.refl _ _) nz)
      have HB12 := hide (below_drewN HB11.out nz)
      have HQ12 := hide (HQ11.out.below B12.out HQ11.out.lt)
      have H12 := hide (H11.out.next B12.out)
      clear B12 HB11 HQ11 H11 HR411 HR11
      generalize w11.drewN nz = w12 at HB12 HQ12 H12 ⊢
      obtain ⟨c0, c1, c2, c3, c4⟩ := al_hold HQ12.out
      go_wp2_with fail
      refine (rconcd_any A c l a w12 H12.out HN3.out).mono ?_
      rintro e w13 ⟨rfl, hb13⟩
      have HB13 := hide (HB12.out.trans (hb13.mono HB12.out.size))
      clear hb13 HB12 HQ12 H12 c0 c1 c2 c3 c4
      generalize (selL (fun s => conc s a) l).length = cn at HSL ⊢
      have hcc : ((cn : Int) == (cn : Int)) = true := beq_self_eq_true _
      go_wp2
      go_ret
      exact ⟨rfl, HB13.out⟩
theorem fmatches_walk (A : Option Addr) (c : Nat) (l : List Sb) (s : Sb) (K : Option Addr) (kc : Nat) (a : Al) (w : World) (h : SubsAt w w.heap.size A l) (ho : SbsOk l) (hn : l.length ≤ maxLen) (hc : l.length ≤ c) (hc2 : c ≤ maxLen)
    (he : ExprAt w w.heap.size K s.whn) (hs1 : ∀ z ∈ s.whn, z.name.size ≤ maxLen) (hs2 : s.whn.length ≤ maxLen) (hs3 : ∀ z ∈ s.whn, z.kids.length ≤ maxLen)
    (_ : (Lit.int .i64 a.tile).wf = true ∧ (Lit.int .i64 a.cell).wf = true ∧ (Lit.int .i64 a.filt).wf = true ∧ (Lit.int .i64 a.val).wf = true ∧ (Lit.int .i64 a.mom).wf = true) :
    Calls Tryz.prog 3 #[.slice A l.length c, .agg #[.int .i64 s.prog, .int .i64 s.tile, .int .i64 s.filt, .slice K s.whn.length kc], .agg a.cells] w fun e w' => e = .returned (.bool true) ∧ Below w.heap.size w w' :=
  fmatches_any A c l s K kc a w h ho hn he ⟨hs1, hs2, hs3⟩
end Go.Proofs.YtkomgidcgepknaaGreatDoor
