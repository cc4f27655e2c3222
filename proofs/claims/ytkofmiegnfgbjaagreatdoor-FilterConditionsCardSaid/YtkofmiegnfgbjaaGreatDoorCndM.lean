/-
  Chapter 37: FilterConditions.
-/
import Derived.Test.YtkofmiegnfgbjaaGreatDoorParM
import Derived.Test.YtkofmiegnfgbjaaGreatDoorCndP
set_option linter.unusedVariables false
set_option linter.unusedSimpArgs false
namespace Go.Proofs.YtkofmiegnfgbjaaGreatDoor
open Go.RowKit Go.Deep Go.Maps

theorem sbs_bad {l : List Sb} {a : Al} (h : ¬ (sbsValid l = true ∧ alValid a = true)) : matchF l a = ([], 1) := by
  unfold matchF
  rw [if_neg h]
set_option maxRecDepth 100000 in
set_option maxHeartbeats 8000000 in
theorem fconds_any (A : Option Addr) (c : Nat) (l : List Sb) (a : Al) (w : World) (h : SubsAt w w.heap.size A l) (ho : SbsOk l) (hn : l.length ≤ maxLen) :
    Calls Tryz.prog 7 #[.slice A l.length c, .agg a.cells] w fun e w' => e = .returned (.bool true) ∧ Below w.heap.size w w' := by
  have HO := hide ho
  have hb0 : Below w.heap.size w (w.alloc (Obj.cells a.cells 54)) := (Below.refl _ _).alloc (Nat.le_refl _) _
  have hq0 : Blk (w.alloc (Obj.cells a.cells 54)) w.heap.size 54 a.cells := Blk.new _ _ _
  have H := hide (h.next hb0)
  have HN := hide hn
  have HB0 := hide hb0
  have HQ0 := hide hq0
  clear h ho hn hb0 hq0
  go_enter Tryz.func7, Tryz.ntmps7
  go_wp2_with fail
  generalize w.alloc (Obj.cells a.cells 54) = w0 at H HB0 HQ0 ⊢
  obtain ⟨q, hq⟩ : ∃ q, q = w.heap.size := ⟨_, rfl⟩
  rw [← hq] at HQ0 ⊢
  clear hq
  refine (head37_any w0).mono ?_
  rintro e w1 ⟨rfl, hb1⟩
  have HB1 := hide (HB0.out.trans (hb1.mono HB0.out.size))
  have H1 := hide (H.out.next hb1)
  have HQ1 := hide (HQ0.out.below hb1 HQ0.out.lt)
  clear hb1 H HB0 HQ0
  go_wp2_with fail
  refine (lfew37_any A c l w1 H1.out HO.out HN.out).mono ?_
  rintro e w1' ⟨rfl, rfl⟩
  cases hf : few37 l
  · clear hf
    go_wp2
    go_ret
    exact ⟨rfl, HB1.out⟩
  have HL := hide (few37_len hf)
  clear hf
  obtain ⟨c0, c1, c2, c3, c4⟩ := al_hold HQ1.out
  go_wp2_with fail
  refine (fmatch_any A c l a w1 H1.out HO.out HN.out).mono ?_
  rintro e w2 ⟨A2, c2', rfl, hr2', hb2⟩
  have HR2 := hide hr2'
  have HB2 := hide (HB1.out.trans (hb2.mono HB1.out.size))
  have HQ2 := hide (HQ1.out.below hb2 HQ1.out.lt)
  have H2 := hide (H1.out.next hb2)
  clear hr2' hb2 HQ1 HB1 H1 c0 c1 c2 c3 c4
  go_wp2_with fail
  refine (fnew_any A c l w2.heap.size w2 (SubsK.of H2.out) (Nat.le_refl _) HO.out HN.out).mono ?_
  rintro e w3 ⟨hp, hb3⟩
  have HB3 := hide (HB2.out.trans (hb3.mono HB2.out.size))
  have HQ3 := hide (HQ2.out.below hb3 HQ2.out.lt)
  have HR3 := hide (HR2.out.next hb3)
  have H3 := hide (H2.out.next hb3)
  have HS3 : Hid (w2.heap.size ≤ w3.heap.size) := hide hb3.size
  clear HB2 HQ2 HR2 H2 hb3
  cases hv : sbsValid l
  · rw [if_neg (by rw [hv]; decide)] at hp
    subst hp
    have hm := sbs_bad (l := l) (a := a) (fun e => by rw [hv] at e; cases e.1)
    rw [hm]
    clear hv hm HR3
    go_wp2
    go_ret
    exact ⟨rfl, HB3.out⟩
  · rw [if_pos hv] at hp
    obtain ⟨p, rfl, hix⟩ := hp
    have HIX := hide hix
    have HV := hide hv
    clear hix
    cases ha : alValid a
    · have hm := sbs_bad (l := l) (a := a) (fun e => by rw [ha] at e; cases e.2)
      rw [hm]
      clear hv ha hm HR3
      go_wp2
      go_ret
      exact ⟨rfl, HB3.out⟩
    · have HA := hide ha
      have hm : matchF l a = (matchL l a, 0) := by unfold matchF; rw [if_pos ⟨hv, ha⟩]
      rw [hm] at HR3 ⊢
      dsimp only at HR3 ⊢
      have HCL : Hid ((catL37 l a).length = (selL (fun s => conc s a) l).length) := hide (cat_len ha)
      have HSL : Hid (matchL l a = selL (fun s => conc s a && hitS a s) l) := hide (matchL_sel ha)
      have HLE : Hid ((matchL l a).length ≤ (catL37 l a).length) := hide (by rw [HCL.out, HSL.out]; exact hit_conc)
      have HML : Hid ((catL37 l a).length ≤ 65) := hide (by rw [HCL.out]; exact Nat.le_trans (selL_len _ _) HL.out)
      clear hv ha hm
      obtain ⟨c0, c1, c2, c3, c4⟩ := al_hold HQ3.out
      go_wp2_with fail
      refine (imatch_any p a l w2.heap.size w2.heap.size w3 HIX.out HS3.out HA.out HO.out (sbs_len HV.out)).mono ?_
      rintro e w4 ⟨A4, c4', rfl, hr4, hb4⟩
      have HR4 := hide hr4
      have HB4 := hide (HB3.out.trans (hb4.mono HB3.out.size))
      have HQ4 := hide (HQ3.out.below hb4 HQ3.out.lt)
      have HR34 := hide (HR3.out.next hb4)
      have H4 := hide (H3.out.next hb4)
      clear hr4 hb4 HB3 HQ3 HR3 H3 HIX HS3 c0 c1 c2 c3 c4
      generalize matchL l a = mm at HR4 HR34 HSL HLE ⊢
      generalize (catL37 l a).length = cnt at HCL HLE HML ⊢
      have hmx : mm.length ≤ 100000 := by have := HLE.out; have := HML.out; omega
      have hle : (mm.length : Int) ≤ (cnt : Int) := Int.ofNat_le.2 HLE.out
      have hgt : decide ((cnt : Int) < (mm.length : Int)) = false := decide_eq_false (by omega)
      go_wp2_with fail
      refine (ints37_any A4 c4' mm A2 c2' mm w4 HR4.out HR34.out hmx hmx).mono ?_
      rintro e w5 ⟨rfl, m, rfl⟩
      rw [decide_eq_true rfl]
      have HB5 := hide (below_drewN HB4.out m)
      have HD5 : Hid (Below w4.heap.size w4 (w4.drewN m)) := hide (below_drewN (Below.refl _ _) m)
      have HQ5 := hide (HQ4.out.below HD5.out HQ4.out.lt)
      have HR5 := hide (HR34.out.next HD5.out)
      have H5 := hide (H4.out.next HD5.out)
      clear HB4 HQ4 HR34 HR4 H4 HD5
      generalize w4.drewN m = w5 at HB5 HQ5 HR5 H5 ⊢
      obtain ⟨c0, c1, c2, c3, c4⟩ := al_hold HQ5.out
      have HRV : Hid (RVr (w5.alloc (Obj.cells #[.string ⟨#[118, 97, 108, 117, 101]⟩, .int .i64 a.val, .string ⟨#[99, 101, 108, 108]⟩, .int .i64 a.cell, .string ⟨#[116, 105, 108, 101]⟩, .int .i64 a.tile, .string ⟨#[102, 105, 108, 116, 101, 114]⟩, .int .i64 a.filt] 44)) (w5.alloc (Obj.cells #[.string ⟨#[118, 97, 108, 117, 101]⟩, .int .i64 a.val, .string ⟨#[99, 101, 108, 108]⟩, .int .i64 a.cell, .string ⟨#[116, 105, 108, 101]⟩, .int .i64 a.tile, .string ⟨#[102, 105, 108, 116, 101, 114]⟩, .int .i64 a.filt] 44)).heap.size (some ⟨w5.heap.size, 0, none⟩) 4 (vars37 a)) := hide (by
        have h := reads_new w5 #[.string ⟨#[118, 97, 108, 117, 101]⟩, .int .i64 a.val, .string ⟨#[99, 101, 108, 108]⟩, .int .i64 a.cell, .string ⟨#[116, 105, 108, 101]⟩, .int .i64 a.tile, .string ⟨#[102, 105, 108, 116, 101, 114]⟩, .int .i64 a.filt] 44 2 4 rfl
        rw [World.size_alloc]
        exact h)
      have HB6 : Hid (Below w.heap.size w (w5.alloc (Obj.cells #[.string ⟨#[118, 97, 108, 117, 101]⟩, .int .i64 a.val, .string ⟨#[99, 101, 108, 108]⟩, .int .i64 a.cell, .string ⟨#[116, 105, 108, 101]⟩, .int .i64 a.tile, .string ⟨#[102, 105, 108, 116, 101, 114]⟩, .int .i64 a.filt] 44))) := hide (HB5.out.alloc HB5.out.size _)
      have HD6 : Hid (Below w5.heap.size w5 (w5.alloc (Obj.cells #[.string ⟨#[118, 97, 108, 117, 101]⟩, .int .i64 a.val, .string ⟨#[99, 101, 108, 108]⟩, .int .i64 a.cell, .string ⟨#[116, 105, 108, 101]⟩, .int .i64 a.tile, .string ⟨#[102, 105, 108, 116, 101, 114]⟩, .int .i64 a.filt] 44))) := hide ((Below.refl _ _).alloc (Nat.le_refl _) _)
      have HQ6 := hide (HQ5.out.below HD6.out HQ5.out.lt)
      have HR6 := hide (HR5.out.next HD6.out)
      have H6 := hide (H5.out.next HD6.out)
      have HNN := hide (rfl : l.length = l.length)
      go_wp2_with fail
      generalize (w5.alloc (Obj.cells #[.string ⟨#[118, 97, 108, 117, 101]⟩, .int .i64 a.val, .string ⟨#[99, 101, 108, 108]⟩, .int .i64 a.cell, .string ⟨#[116, 105, 108, 101]⟩, .int .i64 a.tile, .string ⟨#[102, 105, 108, 116, 101, 114]⟩, .int .i64 a.filt] 44)) = w6 at HRV HB6 HQ6 HR6 H6 ⊢
      clear HD6 HQ5 HR5 H5 HB5 c0 c1 c2 c3 c4 hle hgt
      rw [show decide (cnt < mm.length) = false from decide_eq_false (by have := HLE.out; omega)]
      go_loopw [14, 15, 16] (fun t14 t15 t16 wr => ∃ i : Nat, i ≤ l.length ∧ t16 = .int .i64 i ∧ t14 = .int .i64 ((selL (fun s => conc s a && hitS a s) (l.take i)).length : Int) ∧ t15 = .int .i64 ((selL (fun s => conc s a) (l.take i)).length : Int) ∧ Below w6.heap.size w6 wr) (fun _ _ t16 _ => l.length - (intOf t16).toNat)
      case atStart => exact ⟨0, Nat.zero_le _, rfl, rfl, rfl, Below.refl _ _⟩
      case round =>
        obtain ⟨i, hi, rfl, rfl, rfl, hb⟩ := hrel
        have hl65 : l.length ≤ 65 := HL.out
        have HB7 := hide hb
        clear hb
        by_cases hin : i < l.length
        · have hil := hin
          have H7 := hide (H6.out.next HB7.out)
          obtain ⟨b, off, K, kc, rfl, hbb, g0, g1, g2, g3, hex⟩ := H7.out.at_ hil
          have HEX := hide hex
          have HSO := hide (HO.out _ (sbAt_mem hil))
          have hval := cond_val (sbs_at HV.out hil) HA.out
          obtain ⟨v, hev⟩ : ∃ v, evalM (sbAt l i).whn (vars37 a) = (v, 0) := ⟨(evalM (sbAt l i).whn (vars37 a)).1, by rw [← hval]⟩
          have HEV := hide hev
          have HHS : Hid (hitS a (sbAt l i) = decide (0 < v)) := hide (by unfold hitS; rw [hev]; simp)
          have ST : Hid (selL (fun s => conc s a && hitS a s) (l.take (i + 1)) = selL (fun s => conc s a && hitS a s) (l.take i) ++ if (conc (sbAt l i) a && hitS a (sbAt l i)) = true then [(i : Int)] else []) := hide (selL_take _ l hil)
          have SC : Hid (selL (fun s => conc s a) (l.take (i + 1)) = selL (fun s => conc s a) (l.take i) ++ if conc (sbAt l i) a = true then [(i : Int)] else []) := hide (selL_take _ l hil)
          have SN : Hid ((conc (sbAt l i) a && hitS a (sbAt l i)) = true → (selL (fun s => conc s a && hitS a s) (l.take i)).length < mm.length ∧ nth mm (selL (fun s => conc s a && hitS a s) (l.take i)).length = (i : Int)) := hide (fun h => by rw [HSL.out]; exact selL_nth (P := fun s => conc s a && hitS a s) hil h)
          have NA : Hid ((selL (fun s => conc s a && hitS a s) (l.take i)).length ≤ 65) := hide (Nat.le_trans (selL_len _ _) (by rw [List.length_take]; have := HL.out; omega))
          have NC : Hid ((selL (fun s => conc s a) (l.take i)).length ≤ 65) := hide (Nat.le_trans (selL_len _ _) (by rw [List.length_take]; have := HL.out; omega))
          have hen := HSO.out.1
          clear hex hval hev hil hen
          generalize sbAt l i = s at g0 g1 g2 g3 HEX HSO HEV HHS ST SC SN
          have STL : Hid ((selL (fun s => conc s a && hitS a s) (l.take (i + 1))).length = (selL (fun s => conc s a && hitS a s) (l.take i)).length + if (conc s a && hitS a s) = true then 1 else 0) := hide (by rw [ST.out, List.length_append]; split <;> rfl)
          have SCL : Hid ((selL (fun s => conc s a) (l.take (i + 1))).length = (selL (fun s => conc s a) (l.take i)).length + if conc s a = true then 1 else 0) := hide (by rw [SC.out, List.length_append]; split <;> rfl)
          clear ST SC
          have al7 := al_hold ((HQ6.out.below HB7.out HQ6.out.lt))
          have HQ7 := hide (HQ6.out.below HB7.out HQ6.out.lt)
          have HRV7 := hide (RVr.next HRV.out HB7.out)
          clear al7
          go_wp2_with fail
          refine (meritEval_any K kc s.whn (some ⟨w5.heap.size, 0, none⟩) 4 4 (vars37 a) wr HEX.out HSO.out.1 HSO.out.2.1 HRV7.out (by unfold maxLen; omega) (vars37_names a)).mono ?_
          rintro e w8 ⟨rfl, hb8⟩
          rw [HEV.out]
          dsimp only
          have HB8 := hide (HB7.out.trans (hb8.mono HB7.out.size))
          have g1 : w8.cell? ⟨b, off + i * 4 + 1, none⟩ = some (.int .i64 s.tile) := (hb8.cell (p := ⟨b, off + i * 4 + 1, none⟩) hbb).trans g1
          have g2 : w8.cell? ⟨b, off + i * 4 + 2, none⟩ = some (.int .i64 s.filt) := (hb8.cell (p := ⟨b, off + i * 4 + 2, none⟩) hbb).trans g2
          have HQ8 := hide (HQ7.out.below hb8 HQ7.out.lt)
          clear hb8 g0 g3
          obtain ⟨c0, c1, c2, c3, c4⟩ := al_hold HQ8.out
          clear c1 c3 c4
          obtain ⟨sp, tile, filt, whn⟩ := s
          dsimp only at g1 g2 HHS SN STL SCL
          have HCC : Hid (conc ⟨sp, tile, filt, whn⟩ a = ((decide (tile = -1) || decide (tile = a.tile)) && (decide (filt = -1) || decide (filt = a.filt)))) := hide rfl
          generalize conc ⟨sp, tile, filt, whn⟩ a = cc at SN STL SCL HCC
          generalize hitS a ⟨sp, tile, filt, whn⟩ = hh at SN STL SCL HHS
          obtain ⟨at_, hat_⟩ : ∃ x, x = a.tile := ⟨_, rfl⟩
          obtain ⟨af_, haf_⟩ : ∃ x, x = a.filt := ⟨_, rfl⟩
          rw [← hat_] at c0 HCC
          rw [← haf_] at c2 HCC
          have HAT_ := hide hat_
          have HAF_ := hide haf_
          clear hat_ haf_
          go_wp2_with fail
          have hi0 : (0 : Int) ≤ (i : Int) := Int.natCast_nonneg i
          have hi1 : (i : Int) < (l.length : Int) := Int.ofNat_lt.2 hin
          go_cut [132] (fun t132 wx => t132 = .bool (!cc) ∧ ∃ m, wx = w8.drewN m)
          case first =>
            by_cases t1 : tile = -1
            · subst t1
              by_cases f1 : filt = -1
              · subst f1
                have HR : Hid (cc = true) := hide (by rw [HCC.out]; simp)
                clear HCC
                go_big_quiet (fail)
                go_wp2
                go_meet
                exact ⟨by rw [HR.out]; rfl, nq, rfl⟩
              · have n1 : (filt != (-1 : Int)) = true := by simpa using f1
                by_cases f2 : filt = af_
                · subst f2
                  have HR : Hid (cc = true) := hide (by rw [HCC.out]; simp)
                  clear HCC
                  go_big_quiet (fail)
                  go_wp2
                  go_meet
                  exact ⟨by rw [HR.out]; rfl, nq, rfl⟩
                · have HR : Hid (cc = false) := hide (by rw [HCC.out]; simp [f1, f2])
                  have n2 : (filt != af_) = true := by simpa using f2
                  clear HCC
                  go_big_quiet (fail)
                  go_wp2
                  go_meet
                  exact ⟨by rw [HR.out]; rfl, nq, rfl⟩
            · have m1 : (tile != (-1 : Int)) = true := by simpa using t1
              by_cases t2 : tile = at_
              · subst t2
                by_cases f1 : filt = -1
                · subst f1
                  have HR : Hid (cc = true) := hide (by rw [HCC.out]; simp)
                  clear HCC
                  go_big_quiet (fail)
                  go_wp2
                  go_meet
                  exact ⟨by rw [HR.out]; rfl, nq, rfl⟩
                · have n1 : (filt != (-1 : Int)) = true := by simpa using f1
                  by_cases f2 : filt = af_
                  · subst f2
                    have HR : Hid (cc = true) := hide (by rw [HCC.out]; simp)
                    clear HCC
                    go_big_quiet (fail)
                    go_wp2
                    go_meet
                    exact ⟨by rw [HR.out]; rfl, nq, rfl⟩
                  · have HR : Hid (cc = false) := hide (by rw [HCC.out]; simp [f1, f2])
                    have n2 : (filt != af_) = true := by simpa using f2
                    clear HCC
                    go_big_quiet (fail)
                    go_wp2
                    go_meet
                    exact ⟨by rw [HR.out]; rfl, nq, rfl⟩
              · have HR : Hid (cc = false) := hide (by rw [HCC.out]; simp [t1, t2])
                have m2 : (tile != at_) = true := by simpa using t2
                clear HCC
                go_big_quiet (fail)
                go_wp2
                go_meet
                exact ⟨by rw [HR.out]; rfl, nq, rfl⟩
          case rest =>
          obtain ⟨rfl, m2, rfl⟩ := hcut
          have HB9 := hide (below_drewN HB8.out m2)
          have HR9 := hide (HR6.out.next HB9.out)
          clear g1 g2 c0 c2 HQ8 HB8 HB7 HCC
          generalize w8.drewN m2 = w9 at HB9 HR9 ⊢
          generalize (selL (fun s => conc s a && hitS a s) (l.take i)).length = na at SN STL NA ⊢
          generalize (selL (fun s => conc s a) (l.take i)).length = nc at SCL NC ⊢
          cases cc
          · have E1 : Hid ((selL (fun s => conc s a && hitS a s) (l.take (i + 1))).length = na) := STL
            have E2 : Hid ((selL (fun s => conc s a) (l.take (i + 1))).length = nc) := SCL
            clear SN STL SCL
            go_wp2
            go_roundw
            case rel => exact ⟨i + 1, by omega, by go_num, by rw [E1.out], by rw [E2.out], HB9.out⟩
            case measure => simp [intOf]; omega
          · have E2 : Hid ((selL (fun s => conc s a) (l.take (i + 1))).length = nc + 1) := SCL
            have nc65 : (nc : Int) ≤ 65 := by have := NC.out; omega
            have nc0 : (0 : Int) ≤ (nc : Int) := Int.natCast_nonneg _
            have na65 : (na : Int) ≤ 65 := by have := NA.out; omega
            have na0 : (0 : Int) ≤ (na : Int) := Int.natCast_nonneg _
            rw [HHS.out, Bool.true_and] at STL SN
            by_cases hv0 : 0 < v
            · have hd : decide (v ≤ 0) = false := decide_eq_false (by omega)
              obtain ⟨s1, s2⟩ := SN.out (decide_eq_true hv0)
              have E1 : Hid ((selL (fun s => conc s a && hitS a s) (l.take (i + 1))).length = na + 1) := hide (by rw [STL.out, decide_eq_true hv0]; rfl)
              obtain ⟨bm, om, rfl, hbm, gm⟩ := HR9.out.at_ s1
              rw [s2] at gm
              have d1 : decide ((mm.length : Int) ≤ (na : Int)) = false := decide_eq_false (by omega)
              have d2 : (na : Int) < (mm.length : Int) := by omega
              have beqi : ((i : Int) == (i : Int)) = true := beq_self_eq_true _
              clear SN STL SCL hv0 s2
              go_wp2_with fail
              go_roundw
              case rel => exact ⟨i + 1, by omega, by go_num, by rw [E1.out]; first | done | go_num, by rw [E2.out]; first | done | go_num, HB9.out⟩
              case measure => simp [intOf]; omega
            · have hd : decide (v ≤ 0) = true := decide_eq_true (by omega)
              have E1 : Hid ((selL (fun s => conc s a && hitS a s) (l.take (i + 1))).length = na) := hide (by rw [STL.out, decide_eq_false hv0]; rfl)
              clear SN STL SCL hv0
              go_wp2
              go_roundw
              case rel => exact ⟨i + 1, by omega, by go_num, by rw [E1.out], by rw [E2.out]; first | done | go_num, HB9.out⟩
              case measure => simp [intOf]; omega
        · obtain rfl : i = l.length := by omega
          have E1 : Hid ((selL (fun s => conc s a && hitS a s) (l.take l.length)).length = mm.length) := hide (by rw [List.take_length, HSL.out])
          have E2 : Hid ((selL (fun s => conc s a) (l.take l.length)).length = cnt) := hide (by rw [List.take_length, HCL.out])
          rw [E1.out, E2.out]
          have HBZ := hide (HB6.out.trans (HB7.out.mono HB6.out.size))
          have b1 : ((mm.length : Int) == (mm.length : Int)) = true := beq_self_eq_true _
          have b2 : ((cnt : Int) == (cnt : Int)) = true := beq_self_eq_true _
          go_wp2
          go_ret
          exact ⟨rfl, HBZ.out⟩
theorem fconds_walk (A : Option Addr) (c : Nat) (l : List Sb) (a : Al) (w : World) (h : SubsAt w w.heap.size A l) (ho : SbsOk l) (hn : l.length ≤ maxLen) (hc : l.length ≤ c) (hc2 : c ≤ maxLen)
    (_ : (Lit.int .i64 a.tile).wf = true ∧ (Lit.int .i64 a.cell).wf = true ∧ (Lit.int .i64 a.filt).wf = true ∧ (Lit.int .i64 a.val).wf = true ∧ (Lit.int .i64 a.mom).wf = true) :
    Calls Tryz.prog 7 #[.slice A l.length c, .agg a.cells] w fun e w' => e = .returned (.bool true) ∧ Below w.heap.size w w' :=
  fconds_any A c l a w h ho hn
end Go.Proofs.YtkofmiegnfgbjaaGreatDoor
