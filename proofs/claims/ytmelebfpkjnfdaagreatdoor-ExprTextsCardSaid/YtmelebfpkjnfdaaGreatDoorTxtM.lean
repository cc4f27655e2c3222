/-
  ExprTexts: the walk.
-/
import Derived.Test.YtmelebfpkjnfdaaGreatDoorHd
import Derived.Test.YtmelebfpkjnfdaaGreatDoorSame
import Derived.Test.YtmelebfpkjnfdaaGreatDoorFewB
set_option linter.unusedVariables false
set_option linter.unusedSimpArgs false
namespace Go.Proofs.YtmelebfpkjnfdaaGreatDoor
open Go.RowKit Go.Deep Go.Maps

theorem text_wrap (A : Option Addr) (c : Nat) (e : List Nod) (w : World) (h : ExprAt w w.heap.size A e) (hn : ∀ x ∈ e, x.name.size ≤ maxLen) (hm : e.length ≤ maxLen) (ht : Pow w) :
    Calls Tryz.prog 22 #[.slice A e.length c] w fun en w' => ∃ s g, en = .returned (.tuple #[.string s, .int .i64 g]) ∧ ((validL e = true ∧ g = 0) ∨ (validL e = false ∧ g = 1)) ∧ Below w.heap.size w w' := by
  cases hv : validL e
  · exact (text_none A c e w h hn hm hv).mono fun en w' ⟨h1, h2⟩ => ⟨_, _, h1, .inr ⟨rfl, rfl⟩, h2⟩
  · obtain ⟨t, hg, hat, _, _⟩ := valid_tree hv
    exact (text_valid A c e w h hn ht hg hat hv).mono fun en w' ⟨h1, h2⟩ => ⟨_, _, h1, .inl ⟨rfl, rfl⟩, h2⟩
theorem str_size {t : Tr} (hg : t.good) (hs : t.size ≤ 300) : (⟨(t.str 1).toArray⟩ : ByteArray).size ≤ maxLen := by
  have := str_len t hg 1
  show (t.str 1).toArray.size ≤ _
  rw [List.size_toArray]
  unfold maxLen
  omega
set_option maxHeartbeats 8000000 in
set_option maxRecDepth 20000 in
theorem exprTexts_any (A : Option Addr) (ca : Nat) (a : List Nod) (B : Option Addr) (cb : Nat) (b : List Nod) (s : ByteArray) (w : World) (ht : Pow w)
    (ha : ExprAt w w.heap.size A a) (hb : ExprAt w w.heap.size B b) (ma : a.length ≤ maxLen) (mb : b.length ≤ maxLen) (hs : s.size ≤ maxLen)
    (na : ∀ x ∈ a, x.name.size ≤ maxLen) (nb : ∀ x ∈ b, x.name.size ≤ maxLen) (ka : ∀ x ∈ a, x.kids.length ≤ maxLen) (kb : ∀ x ∈ b, x.kids.length ≤ maxLen) :
    Calls Tryz.prog 6 #[.slice A a.length ca, .slice B b.length cb, .string s] w fun e w' => e = .returned (.bool true) ∧ Below w.heap.size w w' := by
  have HEA := hide ha
  have HEB := hide hb
  have HA := hide (And.intro ma (And.intro na ka))
  have HB := hide (And.intro mb (And.intro nb kb))
  have HS := hide hs
  have HP := hide ht
  unfold maxLen at ma mb hs
  clear ha hb na nb ka kb ht
  go_enter Tryz.func6, Tryz.ntmps6
  go_wp2_with fail
  refine (head21_any w HP.out).mono ?_
  rintro en w1 ⟨rfl, hb1⟩
  have HE1 := hide (HEA.out.next hb1)
  have HE2 := hide (HEB.out.next hb1)
  have HB1 := hide hb1
  have HP1 := hide (HP.out.below hb1 HP.out.pos)
  clear hb1 HEA HEB HP
  by_cases h12 : 1200 < s.size
  · have d1 : decide ((1200 : Int) < (s.size : Int)) = true := decide_eq_true (by omega)
    go_wp2
    go_ret
    exact ⟨rfl, HB1.out⟩
  · have d1 : decide ((1200 : Int) < (s.size : Int)) = false := decide_eq_false (by omega)
    clear h12
    go_wp2_with fail
    refine (few21_any A ca a w1 HE1.out HA.out.1 HA.out.2.1 HA.out.2.2).mono ?_
    rintro en w' ⟨rfl, rfl⟩
    cases hf1 : few21 a
    · clear hf1
      go_wp2
      go_ret
      exact ⟨rfl, HB1.out⟩
    · have HF1 := hide hf1
      clear hf1
      go_wp2_with fail
      refine (few21_any B cb b w1 HE2.out HB.out.1 HB.out.2.1 HB.out.2.2).mono ?_
      rintro en w' ⟨rfl, rfl⟩
      cases hf2 : few21 b
      · clear hf2
        go_wp2
        go_ret
        exact ⟨rfl, HB1.out⟩
      · have HF2 := hide hf2
        clear hf2
        obtain ⟨r, hr⟩ := parse_is s
        obtain ⟨pv1, pv2⟩ := parse_valid hr
        obtain ⟨out, er, off⟩ := r
        dsimp only at pv1 pv2
        go_wp2_with fail
        refine (parse_any s w1 HS.out hr).mono ?_
        rintro en w2 ⟨A2, c2, rfl, he2, hn2, hl2, hb2⟩
        have HG1 := hide (HE1.out.next hb2)
        have HG2 := hide (HE2.out.next hb2)
        have HP2 := hide (HP1.out.below hb2 HP1.out.pos)
        have HB2 := hide (HB1.out.trans (hb2.mono HB1.out.size))
        dsimp only at he2 hn2 hl2 ⊢
        have HX := hide he2
        have HXN := hide hn2
        have HXL : Hid (out.length ≤ maxLen) := hide (by unfold maxLen; omega)
        have PV1 := hide pv1
        have PV2 := hide pv2
        clear hb2 HE1 HE2 HP1 HB1 he2 hn2 pv1 pv2 hr
        have HK2 : Hid (ExprAt w2 w2.heap.size A a ∧ ExprAt w2 w2.heap.size B b ∧ Pow w2 ∧ Below w.heap.size w w2) := ⟨HG1.out, HG2.out, HP2.out, HB2.out⟩
        have STEP : Hid (∀ w3 w4 : World, (ExprAt w3 w3.heap.size A a ∧ ExprAt w3 w3.heap.size B b ∧ Pow w3 ∧ Below w.heap.size w w3) → Below w3.heap.size w3 w4 → (ExprAt w4 w4.heap.size A a ∧ ExprAt w4 w4.heap.size B b ∧ Pow w4 ∧ Below w.heap.size w w4)) :=
          hide (fun w3 w4 h h3 => ⟨h.1.next h3, h.2.1.next h3, h.2.2.1.below h3 h.2.2.1.pos, h.2.2.2.trans (h3.mono h.2.2.2.size)⟩)
        clear HG1 HG2 HP2 HB2
        by_cases he0 : er = 0
        · subst he0
          go_wp2_with fail
          refine (valid_any A2 c2 out w2 HX.out HXN.out HXL.out).mono ?_
          rintro en w3 ⟨rfl, hb3⟩
          have HK := hide (STEP.out _ _ HK2.out hb3)
          clear hb3 HK2
          rw [PV1.out (by simp)]
          clear HX HXN HXL PV1 PV2
          cases hva : validL a
          · have HVA := hide hva
            clear hva
            go_wp2_with fail
            refine (text_none A ca a w3 HK.out.1 HA.out.2.1 HA.out.1 HVA.out).mono ?_
            rintro en w4 ⟨rfl, hb4⟩
            have H4 := hide (STEP.out _ _ HK.out hb4)
            clear hb4 HK
            go_wp2_with fail
            refine (text_wrap B cb b w4 H4.out.2.1 HB.out.2.1 HB.out.1 H4.out.2.2.1).mono ?_
            rintro en w5 ⟨sb, gb, rfl, hgb, hb5⟩
            have H5 := hide (STEP.out _ _ H4.out hb5)
            clear hb5 H4 hgb
            go_wp2_with fail
            refine (valid_any A ca a _ H5.out.1 HA.out.2.1 HA.out.1).mono ?_
            rintro en w9 ⟨rfl, hb9⟩
            have H9 := hide (STEP.out _ _ H5.out hb9)
            clear hb9
            rw [HVA.out]
            go_wp2
            go_ret
            exact ⟨rfl, H9.out.2.2.2⟩
          · have HVA := hide hva
            obtain ⟨ta, hga, hat, hsa, _⟩ := valid_tree hva
            have HGA := hide hga
            have HAT := hide hat
            have hpa : ParseIs ⟨(ta.str 1).toArray⟩ ⟨a, 0, 0⟩ := by
              have := parse_text hga (by rw [← hat]; exact hva)
              rw [← hat] at this
              exact this
            have HPA := hide hpa
            have HSA := hide (str_size hga hsa)
            clear hpa hga hat hva
            go_wp2_with fail
            refine (text_valid A ca a w3 HK.out.1 HA.out.2.1 HK.out.2.2.1 HGA.out HAT.out HVA.out).mono ?_
            rintro en w4 ⟨rfl, hb4⟩
            have H4 := hide (STEP.out _ _ HK.out hb4)
            clear hb4 HK
            by_cases hab : a = b
            · subst hab
              go_wp2_with fail
              refine (text_valid B cb a w4 H4.out.2.1 HA.out.2.1 H4.out.2.2.1 HGA.out HAT.out HVA.out).mono ?_
              rintro en w5 ⟨rfl, hb5⟩
              have H5 := hide (STEP.out _ _ H4.out hb5)
              clear hb5 H4
              go_wp2_with fail
              refine (parse_any _ w5 HSA.out HPA.out).mono ?_
              rintro en w6 ⟨A6, c6, rfl, he6, hn6, hl6, hb6⟩
              have H6 := hide (STEP.out _ _ H5.out hb6)
              dsimp only at he6 hn6 hl6 ⊢
              have HE6 := hide he6
              clear hb6 H5 he6 hn6 hl6
              go_wp2_with fail
              refine (same_any A6 c6 a A ca a w6 HE6.out H6.out.1 HA.out.1 HA.out.1 HA.out.2.1 HA.out.2.1 HA.out.2.2 HA.out.2.2).mono ?_
              rintro en w7 ⟨r7, rfl, hr7, m7, rfl⟩
              have hr7 := hr7.2 rfl
              subst hr7
              have H7 := hide (STEP.out _ _ H6.out (below_drewN (Below.refl _ _) m7))
              clear HE6 H6
              go_wp2_with fail
              refine (valid_any A ca a _ H7.out.1 HA.out.2.1 HA.out.1).mono ?_
              rintro en w9 ⟨rfl, hb9⟩
              have H9 := hide (STEP.out _ _ H7.out hb9)
              clear hb9
              rw [HVA.out]
              go_wp2_with fail
              refine (same_any A ca a B cb a w9 H9.out.1 H9.out.2.1 HA.out.1 HA.out.1 HA.out.2.1 HA.out.2.1 HA.out.2.2 HA.out.2.2).mono ?_
              rintro en w10 ⟨r8, rfl, hr8, m8, rfl⟩
              have hr8 := hr8.2 rfl
              subst hr8
              have H10 := hide (STEP.out _ _ H9.out (below_drewN (Below.refl _ _) m8))
              go_wp2
              go_ret
              exact ⟨rfl, H10.out.2.2.2⟩
            · cases hvb : validL b
              · have HVB := hide hvb
                clear hvb
                have HAB := hide hab
                clear hab
                go_wp2_with fail
                refine (text_none B cb b w4 H4.out.2.1 HB.out.2.1 HB.out.1 HVB.out).mono ?_
                rintro en w5 ⟨rfl, hb5⟩
                have H5 := hide (STEP.out _ _ H4.out hb5)
                clear hb5 H4
                go_wp2_with fail
                refine (parse_any _ w5 HSA.out HPA.out).mono ?_
                rintro en w6 ⟨A6, c6, rfl, he6, hn6, hl6, hb6⟩
                have H6 := hide (STEP.out _ _ H5.out hb6)
                dsimp only at he6 hn6 hl6 ⊢
                have HE6 := hide he6
                clear hb6 H5 he6 hn6 hl6
                go_wp2_with fail
                refine (same_any A6 c6 a A ca a w6 HE6.out H6.out.1 HA.out.1 HA.out.1 HA.out.2.1 HA.out.2.1 HA.out.2.2 HA.out.2.2).mono ?_
                rintro en w7 ⟨r7, rfl, hr7, m7, rfl⟩
                have hr7 := hr7.2 rfl
                subst hr7
                have H7 := hide (STEP.out _ _ H6.out (below_drewN (Below.refl _ _) m7))
                clear HE6 H6
                go_wp2_with fail
                refine (valid_any A ca a _ H7.out.1 HA.out.2.1 HA.out.1).mono ?_
                rintro en w9 ⟨rfl, hb9⟩
                have H9 := hide (STEP.out _ _ H7.out hb9)
                clear hb9
                rw [HVA.out]
                go_wp2
                go_ret
                exact ⟨rfl, H9.out.2.2.2⟩
              · obtain ⟨tb, hgb, hbt, hsb, _⟩ := valid_tree hvb
                have hne : (⟨(ta.str 1).toArray⟩ : ByteArray) ≠ ⟨(tb.str 1).toArray⟩ := fun h => hab (by
                  have h1 : (ta.str 1).toArray = (tb.str 1).toArray := by injection h
                  have h2 : ta.str 1 = tb.str 1 := by simpa using congrArg Array.toList h1
                  rw [HAT.out, hbt]
                  exact text_inj HGA.out (by rw [← HAT.out]; exact HVA.out) hgb (by rw [← hbt]; exact hvb) h2)
                have hne2 : (ta.str 1 == tb.str 1) = false := beq_eq_false_iff_ne.2 (fun h => hne (by rw [h]))
                have HAB := hide hab
                have HGB := hide hgb
                have HBT := hide hbt
                have HVB := hide hvb
                clear hne hab hgb hbt hvb
                go_wp2_with fail
                refine (text_valid B cb b w4 H4.out.2.1 HB.out.2.1 H4.out.2.2.1 HGB.out HBT.out HVB.out).mono ?_
                rintro en w5 ⟨rfl, hb5⟩
                have H5 := hide (STEP.out _ _ H4.out hb5)
                clear hb5 H4
                go_wp2_with fail
                refine (parse_any _ w5 HSA.out HPA.out).mono ?_
                rintro en w6 ⟨A6, c6, rfl, he6, hn6, hl6, hb6⟩
                have H6 := hide (STEP.out _ _ H5.out hb6)
                dsimp only at he6 hn6 hl6 ⊢
                have HE6 := hide he6
                clear hb6 H5 he6 hn6 hl6
                go_wp2_with fail
                refine (same_any A6 c6 a A ca a w6 HE6.out H6.out.1 HA.out.1 HA.out.1 HA.out.2.1 HA.out.2.1 HA.out.2.2 HA.out.2.2).mono ?_
                rintro en w7 ⟨r7, rfl, hr7, m7, rfl⟩
                have hr7 := hr7.2 rfl
                subst hr7
                have H7 := hide (STEP.out _ _ H6.out (below_drewN (Below.refl _ _) m7))
                clear HE6 H6
                go_wp2_with fail
                refine (valid_any A ca a _ H7.out.1 HA.out.2.1 HA.out.1).mono ?_
                rintro en w9 ⟨rfl, hb9⟩
                have H9 := hide (STEP.out _ _ H7.out hb9)
                clear hb9
                rw [HVA.out]
                go_wp2_with fail
                refine (same_any A ca a B cb b w9 H9.out.1 H9.out.2.1 HA.out.1 HB.out.1 HA.out.2.1 HB.out.2.1 HA.out.2.2 HB.out.2.2).mono ?_
                rintro en w10 ⟨r8, rfl, hr8, m8, rfl⟩
                have hr8 : r8 = false := by
                  cases r8
                  · rfl
                  · exact absurd (hr8.1 rfl) HAB.out
                subst hr8
                have H10 := hide (STEP.out _ _ H9.out (below_drewN (Below.refl _ _) m8))
                go_wp2
                go_ret
                exact ⟨rfl, H10.out.2.2.2⟩
        · have q1 : (er == 0) = false := beq_eq_false_iff_ne.2 he0
          have q2 : (er != 0) = true := bne_iff_ne.2 he0
          have q3 := PV2.out he0
          subst q3
          have HK := HK2
          clear HK2 HX HXN HXL PV1 PV2
          cases hva : validL a
          · have HVA := hide hva
            clear hva
            go_wp2_with fail
            refine (text_none A ca a w2 HK.out.1 HA.out.2.1 HA.out.1 HVA.out).mono ?_
            rintro en w4 ⟨rfl, hb4⟩
            have H4 := hide (STEP.out _ _ HK.out hb4)
            clear hb4 HK
            go_wp2_with fail
            refine (text_wrap B cb b w4 H4.out.2.1 HB.out.2.1 HB.out.1 H4.out.2.2.1).mono ?_
            rintro en w5 ⟨sb, gb, rfl, hgb, hb5⟩
            have H5 := hide (STEP.out _ _ H4.out hb5)
            clear hb5 H4 hgb
            go_wp2_with fail
            refine (valid_any A ca a _ H5.out.1 HA.out.2.1 HA.out.1).mono ?_
            rintro en w9 ⟨rfl, hb9⟩
            have H9 := hide (STEP.out _ _ H5.out hb9)
            clear hb9
            rw [HVA.out]
            go_wp2
            go_ret
            exact ⟨rfl, H9.out.2.2.2⟩
          · have HVA := hide hva
            obtain ⟨ta, hga, hat, hsa, _⟩ := valid_tree hva
            have HGA := hide hga
            have HAT := hide hat
            have hpa : ParseIs ⟨(ta.str 1).toArray⟩ ⟨a, 0, 0⟩ := by
              have := parse_text hga (by rw [← hat]; exact hva)
              rw [← hat] at this
              exact this
            have HPA := hide hpa
            have HSA := hide (str_size hga hsa)
            clear hpa hga hat hva
            go_wp2_with fail
            refine (text_valid A ca a w2 HK.out.1 HA.out.2.1 HK.out.2.2.1 HGA.out HAT.out HVA.out).mono ?_
            rintro en w4 ⟨rfl, hb4⟩
            have H4 := hide (STEP.out _ _ HK.out hb4)
            clear hb4 HK
            by_cases hab : a = b
            · subst hab
              go_wp2_with fail
              refine (text_valid B cb a w4 H4.out.2.1 HA.out.2.1 H4.out.2.2.1 HGA.out HAT.out HVA.out).mono ?_
              rintro en w5 ⟨rfl, hb5⟩
              have H5 := hide (STEP.out _ _ H4.out hb5)
              clear hb5 H4
              go_wp2_with fail
              refine (parse_any _ w5 HSA.out HPA.out).mono ?_
              rintro en w6 ⟨A6, c6, rfl, he6, hn6, hl6, hb6⟩
              have H6 := hide (STEP.out _ _ H5.out hb6)
              dsimp only at he6 hn6 hl6 ⊢
              have HE6 := hide he6
              clear hb6 H5 he6 hn6 hl6
              go_wp2_with fail
              refine (same_any A6 c6 a A ca a w6 HE6.out H6.out.1 HA.out.1 HA.out.1 HA.out.2.1 HA.out.2.1 HA.out.2.2 HA.out.2.2).mono ?_
              rintro en w7 ⟨r7, rfl, hr7, m7, rfl⟩
              have hr7 := hr7.2 rfl
              subst hr7
              have H7 := hide (STEP.out _ _ H6.out (below_drewN (Below.refl _ _) m7))
              clear HE6 H6
              go_wp2_with fail
              refine (valid_any A ca a _ H7.out.1 HA.out.2.1 HA.out.1).mono ?_
              rintro en w9 ⟨rfl, hb9⟩
              have H9 := hide (STEP.out _ _ H7.out hb9)
              clear hb9
              rw [HVA.out]
              go_wp2_with fail
              refine (same_any A ca a B cb a w9 H9.out.1 H9.out.2.1 HA.out.1 HA.out.1 HA.out.2.1 HA.out.2.1 HA.out.2.2 HA.out.2.2).mono ?_
              rintro en w10 ⟨r8, rfl, hr8, m8, rfl⟩
              have hr8 := hr8.2 rfl
              subst hr8
              have H10 := hide (STEP.out _ _ H9.out (below_drewN (Below.refl _ _) m8))
              go_wp2
              go_ret
              exact ⟨rfl, H10.out.2.2.2⟩
            · cases hvb : validL b
              · have HVB := hide hvb
                clear hvb
                have HAB := hide hab
                clear hab
                go_wp2_with fail
                refine (text_none B cb b w4 H4.out.2.1 HB.out.2.1 HB.out.1 HVB.out).mono ?_
                rintro en w5 ⟨rfl, hb5⟩
                have H5 := hide (STEP.out _ _ H4.out hb5)
                clear hb5 H4
                go_wp2_with fail
                refine (parse_any _ w5 HSA.out HPA.out).mono ?_
                rintro en w6 ⟨A6, c6, rfl, he6, hn6, hl6, hb6⟩
                have H6 := hide (STEP.out _ _ H5.out hb6)
                dsimp only at he6 hn6 hl6 ⊢
                have HE6 := hide he6
                clear hb6 H5 he6 hn6 hl6
                go_wp2_with fail
                refine (same_any A6 c6 a A ca a w6 HE6.out H6.out.1 HA.out.1 HA.out.1 HA.out.2.1 HA.out.2.1 HA.out.2.2 HA.out.2.2).mono ?_
                rintro en w7 ⟨r7, rfl, hr7, m7, rfl⟩
                have hr7 := hr7.2 rfl
                subst hr7
                have H7 := hide (STEP.out _ _ H6.out (below_drewN (Below.refl _ _) m7))
                clear HE6 H6
                go_wp2_with fail
                refine (valid_any A ca a _ H7.out.1 HA.out.2.1 HA.out.1).mono ?_
                rintro en w9 ⟨rfl, hb9⟩
                have H9 := hide (STEP.out _ _ H7.out hb9)
                clear hb9
                rw [HVA.out]
                go_wp2
                go_ret
                exact ⟨rfl, H9.out.2.2.2⟩
              · obtain ⟨tb, hgb, hbt, hsb, _⟩ := valid_tree hvb
                have hne : (⟨(ta.str 1).toArray⟩ : ByteArray) ≠ ⟨(tb.str 1).toArray⟩ := fun h => hab (by
                  have h1 : (ta.str 1).toArray = (tb.str 1).toArray := by injection h
                  have h2 : ta.str 1 = tb.str 1 := by simpa using congrArg Array.toList h1
                  rw [HAT.out, hbt]
                  exact text_inj HGA.out (by rw [← HAT.out]; exact HVA.out) hgb (by rw [← hbt]; exact hvb) h2)
                have hne2 : (ta.str 1 == tb.str 1) = false := beq_eq_false_iff_ne.2 (fun h => hne (by rw [h]))
                have HAB := hide hab
                have HGB := hide hgb
                have HBT := hide hbt
                have HVB := hide hvb
                clear hne hab hgb hbt hvb
                go_wp2_with fail
                refine (text_valid B cb b w4 H4.out.2.1 HB.out.2.1 H4.out.2.2.1 HGB.out HBT.out HVB.out).mono ?_
                rintro en w5 ⟨rfl, hb5⟩
                have H5 := hide (STEP.out _ _ H4.out hb5)
                clear hb5 H4
                go_wp2_with fail
                refine (parse_any _ w5 HSA.out HPA.out).mono ?_
                rintro en w6 ⟨A6, c6, rfl, he6, hn6, hl6, hb6⟩
                have H6 := hide (STEP.out _ _ H5.out hb6)
                dsimp only at he6 hn6 hl6 ⊢
                have HE6 := hide he6
                clear hb6 H5 he6 hn6 hl6
                go_wp2_with fail
                refine (same_any A6 c6 a A ca a w6 HE6.out H6.out.1 HA.out.1 HA.out.1 HA.out.2.1 HA.out.2.1 HA.out.2.2 HA.out.2.2).mono ?_
                rintro en w7 ⟨r7, rfl, hr7, m7, rfl⟩
                have hr7 := hr7.2 rfl
                subst hr7
                have H7 := hide (STEP.out _ _ H6.out (below_drewN (Below.refl _ _) m7))
                clear HE6 H6
                go_wp2_with fail
                refine (valid_any A ca a _ H7.out.1 HA.out.2.1 HA.out.1).mono ?_
                rintro en w9 ⟨rfl, hb9⟩
                have H9 := hide (STEP.out _ _ H7.out hb9)
                clear hb9
                rw [HVA.out]
                go_wp2_with fail
                refine (same_any A ca a B cb b w9 H9.out.1 H9.out.2.1 HA.out.1 HB.out.1 HA.out.2.1 HB.out.2.1 HA.out.2.2 HB.out.2.2).mono ?_
                rintro en w10 ⟨r8, rfl, hr8, m8, rfl⟩
                have hr8 : r8 = false := by
                  cases r8
                  · rfl
                  · exact absurd (hr8.1 rfl) HAB.out
                subst hr8
                have H10 := hide (STEP.out _ _ H9.out (below_drewN (Below.refl _ _) m8))
                go_wp2
                go_ret
                exact ⟨rfl, H10.out.2.2.2⟩
theorem exprTexts_walk (A : Option Addr) (ca : Nat) (a : List Nod) (B : Option Addr) (cb : Nat) (b : List Nod) (s : ByteArray) (w : World) (ht : Pow w)
    (w0 : ExprAt w w.heap.size A a) (m0 : a.length ≤ maxLen) (b0 : ∀ x ∈ a, x.name.size ≤ maxLen ∧ x.kids.length ≤ maxLen ∧ (Lit.int .i64 x.op).wf = true ∧ (Lit.int .i64 x.n).wf = true ∧ ∀ k ∈ x.kids, (Lit.int .i64 k).wf = true)
    (w1 : ExprAt w w.heap.size B b) (m1 : b.length ≤ maxLen) (b1 : ∀ x ∈ b, x.name.size ≤ maxLen ∧ x.kids.length ≤ maxLen ∧ (Lit.int .i64 x.op).wf = true ∧ (Lit.int .i64 x.n).wf = true ∧ ∀ k ∈ x.kids, (Lit.int .i64 k).wf = true)
    (w2 : s.size ≤ maxLen) :
    Calls Tryz.prog 6 #[.slice A a.length ca, .slice B b.length cb, .string s] w fun e w' => e = .returned (.bool true) ∧ Below w.heap.size w w' :=
  exprTexts_any A ca a B cb b s w ht w0 w1 m0 m1 w2 (fun x hx => (b0 x hx).1) (fun x hx => (b1 x hx).1) (fun x hx => (b0 x hx).2.1) (fun x hx => (b1 x hx).2.1)
end Go.Proofs.YtmelebfpkjnfdaaGreatDoor
