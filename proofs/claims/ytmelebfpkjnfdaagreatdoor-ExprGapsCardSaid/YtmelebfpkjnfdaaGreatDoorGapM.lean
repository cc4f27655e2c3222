/-
  ExprGaps: the walk.
-/
import Derived.Test.YtmelebfpkjnfdaaGreatDoorHd
import Derived.Test.YtmelebfpkjnfdaaGreatDoorSame
import Derived.Test.YtmelebfpkjnfdaaGreatDoorGapP
import Derived.Test.YtmelebfpkjnfdaaGreatDoorLexW
set_option linter.unusedVariables false
set_option linter.unusedSimpArgs false
namespace Go.Proofs.YtmelebfpkjnfdaaGreatDoor
open Go.RowKit Go.Deep Go.Maps

/-- The text before the last parenthesis. -/
def wideR (toks : List Tok) : List UInt8 := [35, 10, 40] ++ toks.flatMap (fun t => 9 :: (t.text.data.toList ++ gap5))
theorem wideR_all (toks : List Tok) : wideR toks ++ [41] = wideL toks := by
  unfold wideR wideL
  rw [List.append_assoc]
theorem wideR_step (toks : List Tok) (t : Tok) : wideR (toks ++ [t]) = wideR toks ++ (9 :: (t.text.data.toList ++ gap5)) := by
  unfold wideR
  rw [List.flatMap_append, ← List.append_assoc]
  simp
theorem wideR_take {toks : List Tok} {k : Nat} {t : Tok} (h : toks[k]? = some t) : wideR (toks.take (k + 1)) = wideR (toks.take k) ++ (9 :: (t.text.data.toList ++ gap5)) := by
  obtain ⟨hk, rfl⟩ := List.getElem?_eq_some_iff.1 h
  rw [List.take_succ_eq_append_getElem hk, wideR_step]
theorem wideR_le (toks : List Tok) (k : Nat) : (wideR (toks.take k)).length ≤ (wideL toks).length := by
  have h : wideL toks = wideR (toks.take k) ++ ((toks.drop k).flatMap (fun t => 9 :: (t.text.data.toList ++ gap5)) ++ [41]) := by
    unfold wideL wideR
    conv => lhs; rw [← List.take_append_drop k toks, List.flatMap_append]
    simp
  rw [h, List.length_append]
  omega
theorem ba_add (l m : List UInt8) : (⟨l.toArray⟩ : ByteArray) ++ ⟨m.toArray⟩ = ⟨(l ++ m).toArray⟩ := ByteArray.mk_append_mk l m
theorem ba_sz (l : List UInt8) : (⟨l.toArray⟩ : ByteArray).size = l.length := by
  show l.toArray.size = _
  exact List.size_toArray
theorem ba_of (s : ByteArray) : s = ⟨s.data.toList.toArray⟩ := by cases s; rfl
theorem str_size2 {t : Tr} (hg : t.good) (hs : t.size ≤ 300) : (⟨(t.str 1).toArray⟩ : ByteArray).size ≤ maxLen := by
  have := str_len t hg 1
  rw [ba_sz]
  unfold maxLen
  omega
set_option maxHeartbeats 8000000 in
set_option maxRecDepth 20000 in
theorem exprGaps_any (s : ByteArray) (w : World) (ht : Pow w) (hs : s.size ≤ maxLen) :
    Calls Tryz.prog 7 #[.string s] w fun e w' => e = .returned (.bool true) ∧ Below w.heap.size w w' := by
  have HS := hide hs
  have HP := hide ht
  unfold maxLen at hs
  clear ht
  go_enter Tryz.func7, Tryz.ntmps7
  go_wp2_with fail
  refine (head21_any w HP.out).mono ?_
  rintro en w1 ⟨rfl, hb1⟩
  have HB1 := hide hb1
  have HP1 := hide (HP.out.below hb1 HP.out.pos)
  clear hb1 HP
  by_cases h12 : 1200 < s.size
  · have d1 : decide ((1200 : Int) < (s.size : Int)) = true := decide_eq_true (by omega)
    go_wp2
    go_ret
    exact ⟨rfl, HB1.out⟩
  · have d1 : decide ((1200 : Int) < (s.size : Int)) = false := decide_eq_false (by omega)
    have H12 : Hid (s.size ≤ 1200) := hide (by omega)
    clear h12
    obtain ⟨r, hr⟩ := parse_is s
    have hpv := parse_valid hr
    obtain ⟨out, er, off⟩ := r
    dsimp only at hpv
    have HR := hide hr
    have PV := hide hpv
    clear hr hpv
    go_wp2_with fail
    refine (parse_any s w1 HS.out HR.out).mono ?_
    rintro en w2 ⟨A2, c2, rfl, he2, hn2, hl2, hb2⟩
    have HP2 := hide (HP1.out.below hb2 HP1.out.pos)
    have HB2 := hide (HB1.out.trans (hb2.mono HB1.out.size))
    dsimp only at he2 hn2 hl2 ⊢
    have HX := hide he2
    have HXN := hide hn2
    have HXL : Hid (out.length ≤ maxLen) := hide (by unfold maxLen; omega)
    clear hb2 HP1 HB1 he2 hn2
    by_cases he0 : er = 0
    · subst he0
      have hoff : off = 0 := by
        have h := HR.out
        unfold ParseIs at h
        by_cases hle : (lexL s).err ≠ 0
        · rw [if_pos hle] at h
          injection h with _ h
          exact absurd h.symm hle
        · rw [if_neg hle] at h
          obtain ⟨f, res, hp, hq⟩ := h
          unfold endP at hq
          cases res with
          | error x =>
            have hz := noZ_par _ _ _ x hp
            injection hq with _ hq
            exact absurd hq.symm hz
          | ok x =>
            dsimp only at hq
            split at hq
            · split at hq
              · injection hq
              · (injection hq with _ hq) <;> omega
            · (injection hq with _ hq) <;> omega
      subst hoff
      obtain ⟨gp1, gp2, T, gp3, gp4, gp5, gp6⟩ := gaps_plain H12.out HR.out
      have hv := PV.out.1 rfl
      have hwl := wide_len (lexL s).toks
      obtain ⟨ls1, ls2⟩ := lexL_sum s
      have hwsz : (wideL (lexL s).toks).length ≤ 20000 := by have := H12.out; omega
      have htn : (lexL s).toks.length ≤ 1200 := by have := H12.out; omega
      have GP1 := hide gp1
      have GP3 := hide gp3
      have GP4 := hide gp4
      have GP6 := hide gp6
      have HV := hide hv
      have HWSZ := hide hwsz
      have GP2 := hide gp2
      clear gp1 gp2 gp3 gp4 gp6 hv hwl ls1 ls2 hwsz HR PV
      go_wp2_with fail
      refine (lex_any s w2 HS.out).mono ?_
      rintro en w3 ⟨⟨v, rfl, A3, c3, rfl, hown⟩, hb3⟩
      have HX3 := hide (HX.out.next hb3)
      have HP3 := hide (HP2.out.below hb3 HP2.out.pos)
      have HB3 := hide (HB2.out.trans (hb3.mono HB2.out.size))
      have HTK := hide hown.reads
      rw [GP2.out]
      clear hb3 hown HP2 HB2 HX
      obtain ⟨toks, htoks⟩ : ∃ t, t = (lexL s).toks := ⟨_, rfl⟩
      rw [← htoks] at HTK GP1 GP6 HWSZ htn ⊢
      clear htoks
      go_wp2
      go_loopw [10, 11] (fun t10 t11 wr => ∃ k : Nat, k ≤ toks.length ∧ t11 = .int .i64 k ∧ t10 = .string ⟨(wideR (toks.take k)).toArray⟩ ∧ wr = w3) (fun _ t11 _ => toks.length - (intOf t11).toNat)
      case atStart => exact ⟨0, Nat.zero_le _, rfl, rfl, rfl⟩
      case round =>
        obtain ⟨k, hk, rfl, rfl, rfl⟩ := hrel
        by_cases hlt : k < toks.length
        · obtain ⟨b3, o3, rfl, hb3, _, c1, _⟩ := HTK.out.tok (List.getElem?_eq_getElem hlt)
          have HST := hide (wideR_take (List.getElem?_eq_getElem hlt))
          have hle1 := wideR_le toks (k + 1)
          have hw20 := HWSZ.out
          rw [HST.out, List.length_append, List.length_cons, List.length_append] at hle1
          generalize toks[k] = t at c1 HST hle1
          obtain ⟨W, hW⟩ : ∃ W, W = wideR (toks.take k) := ⟨_, rfl⟩
          rw [← hW] at HST hle1 ⊢
          clear hW
          have htl : t.text.data.toList.length = t.text.size := Array.length_toList
          obtain ⟨X, hX⟩ : ∃ X : List UInt8, X = t.text.data.toList := ⟨_, rfl⟩
          have hta : t.text = ⟨X.toArray⟩ := by subst hX; exact ba_of _
          rw [← hX] at HST hle1 htl
          rw [hta] at c1
          have s1 : ∀ w : World, (Op.stringOp .add ⟨#[9]⟩ ⟨X.toArray⟩).run Tryz.prog w = .ok (.string ⟨(9 :: X).toArray⟩) w := fun w => by
            rw [run_string_add_sum w _ _ (by simp only [ba_sz, List.length_cons, List.length_nil]; omega)]
            rw [show (⟨#[9]⟩ : ByteArray) = ⟨[9].toArray⟩ from rfl, ba_add]
            try rfl
          have s2 : ∀ w : World, (Op.stringOp .add ⟨(9 :: X).toArray⟩ ⟨#[32, 35, 32, 41, 10]⟩).run Tryz.prog w = .ok (.string ⟨(9 :: (X ++ gap5)).toArray⟩) w := fun w => by
            rw [run_string_add_sum w _ _ (by simp only [ba_sz, List.length_cons, List.length_nil]; omega)]
            rw [show (⟨#[32, 35, 32, 41, 10]⟩ : ByteArray) = ⟨gap5.toArray⟩ from rfl, ba_add]
            try rfl
          have hg5 : gap5.length = 5 := rfl
          have s3 : ∀ w : World, (Op.stringOp .add ⟨W.toArray⟩ ⟨(9 :: (X ++ gap5)).toArray⟩).run Tryz.prog w = .ok (.string ⟨(W ++ (9 :: (X ++ gap5))).toArray⟩) w := fun w => by
            rw [run_string_add_sum w _ _ (by simp only [ba_sz, List.length_cons, List.length_append]; omega), ba_add]
          clear hX hta htl
          go_wp2
          rw [← HST.out]
          go_roundw
          case rel => exact ⟨k + 1, by omega, by go_num, rfl, by first | rfl | trivial⟩
          case measure => simp [intOf]; omega
        · obtain rfl : k = toks.length := by omega
          have hall := wideR_all toks
          rw [List.take_length]
          have HALL := hide hall
          have hwl : (wideR toks).length + 1 = (wideL toks).length := by rw [← hall]; simp
          have hw20 := HWSZ.out
          have s1 : ∀ w : World, (Op.stringOp .add ⟨(wideR toks).toArray⟩ ⟨#[41]⟩).run Tryz.prog w = .ok (.string ⟨(wideL toks).toArray⟩) w := fun w => by
            rw [run_string_add_sum w _ _ (by simp only [ba_sz, List.length_cons, List.length_nil]; omega)]
            rw [show (⟨#[41]⟩ : ByteArray) = ⟨[41].toArray⟩ from rfl, ba_add, HALL.out]
          have HWL : Hid ((⟨(wideL toks).toArray⟩ : ByteArray).size ≤ maxLen) := hide (by rw [ba_sz]; unfold maxLen; omega)
          clear hall hwl
          go_wp2_with fail
          clear s1
          refine (parse_any _ wr HWL.out GP1.out).mono ?_
          rintro en w4 ⟨A4, c4, rfl, he4, hn4, hl4, hb4⟩
          have HX4 := hide (HX3.out.next hb4)
          have HP4 := hide (HP3.out.below hb4 HP3.out.pos)
          have HB4 := hide (HB3.out.trans (hb4.mono HB3.out.size))
          dsimp only at he4 hn4 hl4 ⊢
          have HY4 := hide he4
          have HYN := hide hn4
          clear hb4 HX3 HP3 HB3 he4 hn4 HTK
          go_wp2_with fail
          refine (text_valid A2 c2 out w4 HX4.out HXN.out HP4.out GP3.out GP4.out HV.out).mono ?_
          rintro en w5 ⟨rfl, hb5⟩
          have HX5 := hide (HX4.out.next hb5)
          have HY5 := hide (HY4.out.next hb5)
          have HB5 := hide (HB4.out.trans (hb5.mono HB4.out.size))
          clear hb5 HX4 HY4 HP4 HB4
          have HTS := hide (str_size2 GP3.out gp5)
          obtain ⟨toks2, hl1, hl2⟩ := lex_tree GP3.out (by omega)
          have hlen2 : toks2.length ≤ toks.length := by
            have h1 := congrArg List.length hl2
            rw [List.length_map] at h1
            have := GP6.out
            omega
          have HL1 := hide hl1
          clear hl1 hl2
          go_wp2_with fail
          refine (lex_any _ w5 HTS.out).mono ?_
          rintro en w6 ⟨⟨v, rfl, A6, c6, rfl, hown⟩, hb6⟩
          have HX6 := hide (HX5.out.next hb6)
          have HY6 := hide (HY5.out.next hb6)
          have HB6 := hide (HB5.out.trans (hb6.mono HB5.out.size))
          rw [HL1.out]
          dsimp only
          clear hb6 hown HX5 HY5 HB5
          have hle3 : ((toks2.length : Int) ≤ (toks.length : Int)) := by omega
          have hle4 : decide ((toks2.length : Int) ≤ (toks.length : Int)) = true := decide_eq_true hle3
          have HK : Hid (∀ x ∈ out, x.kids.length ≤ maxLen) := hide (fun x hx => by
            have h1 := valid_formed HV.out x hx
            have := formed_kids h1
            unfold maxLen
            omega)
          go_wp2_with fail
          refine (same_any A4 c4 out A2 c2 out w6 HY6.out HX6.out HXL.out HXL.out HXN.out HXN.out HK.out HK.out).mono ?_
          rintro en w7 ⟨r7, rfl, hr7, m7, rfl⟩
          have hr7 := hr7.2 rfl
          subst hr7
          have HB7 := hide (below_drewN HB6.out m7)
          go_wp2
          go_ret
          exact ⟨rfl, HB7.out⟩
    · have q2 : (er != 0) = true := bne_iff_ne.2 he0
      go_wp2
      go_ret
      exact ⟨rfl, HB2.out⟩
theorem exprGaps_walk (s : ByteArray) (w : World) (ht : Pow w) (w0 : s.size ≤ maxLen) :
    Calls Tryz.prog 7 #[.string s] w fun e w' => e = .returned (.bool true) ∧ Below w.heap.size w w' := exprGaps_any s w ht w0
end Go.Proofs.YtmelebfpkjnfdaaGreatDoor
