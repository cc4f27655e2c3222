/-
  Chapter 21: the examples of the chapter.
-/
import Derived.Test.YtkofmiegnfgbjaaGreatDoorExpP
import Derived.Test.YtkofmiegnfgbjaaGreatDoorTxz
import Derived.Test.YtkofmiegnfgbjaaGreatDoorNmW
set_option linter.unusedVariables false
set_option linter.unusedSimpArgs false
namespace Go.Proofs.YtkofmiegnfgbjaaGreatDoor
open Go.RowKit Go.Deep Go.Maps

abbrev LN (n : Int) : Tr := .leaf ⟨1, n, ByteArray.empty, []⟩
abbrev LV (c : UInt8) : Tr := .leaf ⟨2, 0, ⟨#[c]⟩, []⟩
/-- What is parsed is this tree. -/
def okAg (s : ByteArray) : Option (List Nod) := if (lexL s).err = 0 then (match parF s.size 100 (jLevel 1 (lexL s).toks []) with
    | none => none
    | some res => if (endP res).err = 0 ∧ (endP res).off = 0 then some (endP res).out else none) else none
theorem okAg_is {s : ByteArray} {l : List Nod} (h : okAg s = some l) : ParseIs s ⟨l, 0, 0⟩ := by
  unfold okAg at h
  by_cases h1 : (lexL s).err = 0
  · rw [if_pos h1] at h
    cases hp : parF s.size 100 (jLevel 1 (lexL s).toks []) with
    | none => rw [hp] at h; cases h
    | some res =>
      rw [hp] at h
      dsimp only at h
      by_cases h2 : (endP res).err = 0 ∧ (endP res).off = 0
      · rw [if_pos h2] at h
        injection h with h
        unfold ParseIs
        rw [if_neg (by rw [h1]; simp)]
        refine ⟨100, res, hp, ?_⟩
        rw [← h, ← h2.1]
        conv => lhs; rw [h2.1, ← h2.2]
        obtain ⟨h3, h4⟩ := h2
        cases hq : endP res with
        | mk a b c =>
          rw [hq] at h3 h4
          simp only at h3 h4
          simp [h3, h4]
      · rw [if_neg h2] at h; cases h
  · rw [if_neg h1] at h; cases h
def okFa (s : ByteArray) (r : Int × Int) : Bool := if (lexL s).err = 0 then (match parF s.size 100 (jLevel 1 (lexL s).toks []) with
    | none => false
    | some res => (endP res).err == r.1 && (endP res).off == r.2 && (endP res).out.isEmpty) else ((lexL s).err == r.1 && (lexL s).off == r.2)
theorem okFa_is {s : ByteArray} {a b : Int} (h : okFa s (a, b) = true) : ParseIs s ⟨[], a, b⟩ := by
  unfold okFa at h
  by_cases h1 : (lexL s).err = 0
  · rw [if_pos h1] at h
    cases hp : parF s.size 100 (jLevel 1 (lexL s).toks []) with
    | none => rw [hp] at h; cases h
    | some res =>
      rw [hp] at h
      simp only [Bool.and_eq_true, beq_iff_eq, List.isEmpty_iff] at h
      obtain ⟨⟨h2, h3⟩, h4⟩ := h
      unfold ParseIs
      rw [if_neg (by rw [h1]; simp)]
      refine ⟨100, res, hp, ?_⟩
      rw [← h2, ← h3, ← h4]
  · rw [if_neg h1] at h
    simp only [Bool.and_eq_true, beq_iff_eq] at h
    unfold ParseIs
    rw [if_pos h1, h.1, h.2]
theorem ln_good {n : Int} (h : formedL ⟨1, n, ByteArray.empty, []⟩ = true) : (LN n).good := ⟨h, .inl rfl⟩
theorem lv_good {c : UInt8} (h : formedL ⟨2, 0, ⟨#[c]⟩, []⟩ = true) : (LV c).good := ⟨h, .inr rfl⟩
set_option maxHeartbeats 1000000 in
theorem again_any (s t : ByteArray) (T : Tr) (w : World) (hs : s.size ≤ maxLen) (ht : Pow w) (h : okAg s = some (T.flat 0)) (hg : T.good) (hv : validL (T.flat 0) = true) (htt : (⟨(T.str 1).toArray⟩ : ByteArray) = t) :
    Calls Tryz.prog 41 #[.string s] w fun e w' => e = .returned (.string t) ∧ Below w.heap.size w w' := by
  have hp := okAg_is h
  have HG := hide hg
  have HV := hide hv
  have HTT := hide htt
  have HT := hide ht
  clear h hv htt ht
  go_enter Tryz.func41, Tryz.ntmps41
  go_wp2_with fail
  refine (parse_any s w hs hp).mono ?_
  rintro e w1 ⟨A1, c1, rfl, hex, hnam, hlen, hb1⟩
  dsimp only at hex hnam hlen ⊢
  have HEX := hide hex
  have HNM := hide hnam
  have HB1 := hide hb1
  have HT1 := hide (HT.out.below hb1 HT.out.pos)
  clear hex hnam hp hb1
  go_wp2_with fail
  refine (text_valid A1 c1 (T.flat 0) w1 HEX.out HNM.out HT1.out HG.out rfl HV.out).mono ?_
  rintro e w2 ⟨rfl, hb2⟩
  have HB2 := hide (HB1.out.trans (hb2.mono HB1.out.size))
  clear hb2
  rw [HTT.out]
  go_wp2
  go_ret
  exact ⟨rfl, HB2.out⟩
set_option maxHeartbeats 1000000 in
theorem fails21_any (s : ByteArray) (a b : Int) (w : World) (hs : s.size ≤ maxLen) (h : okFa s (a, b) = true) :
    Calls Tryz.prog 42 #[.string s, .int .i64 a, .int .i64 b] w fun e w' => e = .returned (.bool true) ∧ Below w.heap.size w w' := by
  have hp := okFa_is h
  clear h
  go_enter Tryz.func42, Tryz.ntmps42
  go_wp2_with fail
  refine (parse_any s w hs hp).mono ?_
  rintro e w1 ⟨A1, c1, rfl, hex, hnam, hlen, hb1⟩
  dsimp only at hex hnam hlen ⊢
  have HB1 := hide hb1
  clear hex hnam hp hb1
  go_wp2
  go_ret
  exact ⟨rfl, HB1.out⟩

def AT0 : Tr := .bin 4 (.bin 5 (.bin 3 (LN 1) (LN 2)) (LV 120)) (.un (LN 3))
theorem ag0 : okAg ⟨#[40, 49, 32, 43, 32, 50, 41, 42, 120, 32, 45, 32, 45, 40, 51, 41]⟩ = some (AT0.flat 0) := by kernel_rfl
theorem av0 : validL (AT0.flat 0) = true := by kernel_rfl
theorem at0 : (⟨(AT0.str 1).toArray⟩ : ByteArray) = ⟨#[40, 49, 32, 43, 32, 50, 41, 32, 42, 32, 120, 32, 45, 32, 45, 51]⟩ := by kernel_rfl
theorem agd0 : AT0.good := ⟨⟨by decide, by decide, by decide⟩, ⟨⟨by decide, by decide, by decide⟩, ⟨⟨by decide, by decide, by decide⟩, ln_good (by kernel_rfl), ln_good (by kernel_rfl)⟩, lv_good (by kernel_rfl)⟩, ln_good (by kernel_rfl)⟩
def AT1 : Tr := .bin 4 (LV 97) (.bin 4 (LV 98) (LV 99))
theorem ag1 : okAg ⟨#[97, 45, 40, 98, 45, 99, 41]⟩ = some (AT1.flat 0) := by kernel_rfl
theorem av1 : validL (AT1.flat 0) = true := by kernel_rfl
theorem at1 : (⟨(AT1.str 1).toArray⟩ : ByteArray) = ⟨#[97, 32, 45, 32, 40, 98, 32, 45, 32, 99, 41]⟩ := by kernel_rfl
theorem agd1 : AT1.good := ⟨⟨by decide, by decide, by decide⟩, lv_good (by kernel_rfl), ⟨⟨by decide, by decide, by decide⟩, lv_good (by kernel_rfl), lv_good (by kernel_rfl)⟩⟩
def AT2 : Tr := .bin 4 (.bin 4 (LV 97) (LV 98)) (LV 99)
theorem ag2 : okAg ⟨#[40, 97, 45, 98, 41, 45, 99]⟩ = some (AT2.flat 0) := by kernel_rfl
theorem av2 : validL (AT2.flat 0) = true := by kernel_rfl
theorem at2 : (⟨(AT2.str 1).toArray⟩ : ByteArray) = ⟨#[97, 32, 45, 32, 98, 32, 45, 32, 99]⟩ := by kernel_rfl
theorem agd2 : AT2.good := ⟨⟨by decide, by decide, by decide⟩, ⟨⟨by decide, by decide, by decide⟩, lv_good (by kernel_rfl), lv_good (by kernel_rfl)⟩, lv_good (by kernel_rfl)⟩
def AT3 : Tr := .cond (.bin 10 (LV 97) (LV 98)) (.bin 7 (LN 1) (LN 2)) (LN 7)
theorem ag3 : okAg ⟨#[105, 102, 40, 40, 97, 60, 98, 41, 44, 32, 109, 105, 110, 40, 49, 44, 50, 41, 44, 32, 48, 55, 41]⟩ = some (AT3.flat 0) := by kernel_rfl
theorem av3 : validL (AT3.flat 0) = true := by kernel_rfl
theorem at3 : (⟨(AT3.str 1).toArray⟩ : ByteArray) = ⟨#[105, 102, 40, 97, 32, 60, 32, 98, 44, 32, 109, 105, 110, 40, 49, 44, 32, 50, 41, 44, 32, 55, 41]⟩ := by kernel_rfl
theorem agd3 : AT3.good := ⟨⟨⟨by decide, by decide, by decide⟩, lv_good (by kernel_rfl), lv_good (by kernel_rfl)⟩, ⟨⟨by decide, by decide, by decide⟩, ln_good (by kernel_rfl), ln_good (by kernel_rfl)⟩, ln_good (by kernel_rfl)⟩
theorem fa0 : okFa ⟨#[97, 32, 60, 32, 98, 32, 60, 32, 99]⟩ (5, 6) = true := by kernel_rfl
theorem fa1 : okFa ⟨#[115, 105, 110, 40, 49, 41]⟩ (7, 0) = true := by kernel_rfl
theorem fa2 : okFa ⟨#[109, 105, 110, 40, 49, 41]⟩ (5, 5) = true := by kernel_rfl
theorem fa3 : okFa ⟨#[49, 32, 43]⟩ (6, 3) = true := by kernel_rfl
theorem fa4 : okFa ⟨#[109, 105, 110]⟩ (6, 3) = true := by kernel_rfl
theorem fa5 : okFa ⟨#[49, 48, 48, 48, 48, 48, 49]⟩ (9, 0) = true := by kernel_rfl
theorem Reads.at1 {w : World} {B : Nat} {A : Option Addr} {n : Nat} {xs : List Value} (h : Reads w B 1 A n xs) (hn : 0 < n) {c0 : Value} (h0 : xs[0]? = some c0) : ∃ b off, A = some ⟨b, off, none⟩ ∧ b < B ∧ ∀ j u, xs[j]? = some u → w.cell? ⟨b, off + j, none⟩ = some u := by
  obtain ⟨ad, hA, hb, hc⟩ := h.2 hn
  obtain ⟨b, off, spot⟩ := ad
  have hsp : spot = none := by
    have := hc 0 _ h0
    simpa [Addr.add] using World.cell?_spot this
  subst hsp
  exact ⟨b, off, hA, hb, fun j u hu => by have := hc j u hu; rwa [add_lit] at this⟩

def AT9 : Tr := .bin 3 (LV 98) (.bin 5 (LV 97) (LV 98))
theorem ag9 : okAg ⟨#[98, 32, 43, 32, 97, 32, 42, 32, 98]⟩ = some (AT9.flat 0) := by kernel_rfl
theorem av9 : validL (AT9.flat 0) = true := by kernel_rfl
theorem an9 : namesL (AT9.flat 0) = [[97], [98]] := by
  have h := names_inv (AT9.flat 0)
  have hr : namesRaw (AT9.flat 0) = [[98], [97], [98]] := by kernel_rfl
  rw [hr] at h
  refine incr_same h.1 ?_ fun x => (h.2 x).trans ?_
  · rw [List.pairwise_cons]
    refine ⟨fun a ha => ?_, List.pairwise_singleton _ _⟩
    rw [List.mem_singleton.1 ha]
    decide
  · simp only [List.mem_cons, List.not_mem_nil, or_false]
    constructor
    · rintro (h | h | h)
      · exact .inr h
      · exact .inl h
      · exact .inr h
    · rintro (h | h)
      · exact .inr (.inl h)
      · exact .inl h
set_option maxHeartbeats 4000000 in
set_option maxRecDepth 20000 in
theorem head21_any (w : World) (ht : Pow w) : Calls Tryz.prog 11 #[] w fun e w' => e = .returned (.bool true) ∧ Below w.heap.size w w' := by
  have HT0 := hide ht
  clear ht
  go_enter Tryz.func11, Tryz.ntmps11
  go_wp2_with fail
  refine (again_any _ _ AT0 w (by decide) HT0.out ag0 agd0 av0 at0).mono ?_
  rintro e w1 ⟨rfl, hb⟩
  have HT1 := hide (HT0.out.below hb HT0.out.pos)
  have G := hide hb
  clear hb HT0
  go_wp2_with fail
  refine (again_any _ _ AT1 w1 (by decide) HT1.out ag1 agd1 av1 at1).mono ?_
  rintro e w2 ⟨rfl, hb⟩
  have HT2 := hide (HT1.out.below hb HT1.out.pos)
  have G := hide (G.out.trans (hb.mono G.out.size))
  clear hb HT1
  go_wp2_with fail
  refine (again_any _ _ AT2 w2 (by decide) HT2.out ag2 agd2 av2 at2).mono ?_
  rintro e w3 ⟨rfl, hb⟩
  have HT3 := hide (HT2.out.below hb HT2.out.pos)
  have G := hide (G.out.trans (hb.mono G.out.size))
  clear hb HT2
  go_wp2_with fail
  refine (again_any _ _ AT3 w3 (by decide) HT3.out ag3 agd3 av3 at3).mono ?_
  rintro e w4 ⟨rfl, hb⟩
  have HT4 := hide (HT3.out.below hb HT3.out.pos)
  have G := hide (G.out.trans (hb.mono G.out.size))
  clear hb HT3
  go_wp2_with fail
  refine (fails21_any _ 5 6 w4 (by decide) fa0).mono ?_
  rintro e w5 ⟨rfl, hb⟩
  have G := hide (G.out.trans (hb.mono G.out.size))
  clear hb
  go_wp2_with fail
  refine (fails21_any _ 7 0 w5 (by decide) fa1).mono ?_
  rintro e w6 ⟨rfl, hb⟩
  have G := hide (G.out.trans (hb.mono G.out.size))
  clear hb
  go_wp2_with fail
  refine (fails21_any _ 5 5 w6 (by decide) fa2).mono ?_
  rintro e w7 ⟨rfl, hb⟩
  have G := hide (G.out.trans (hb.mono G.out.size))
  clear hb
  go_wp2_with fail
  refine (fails21_any _ 6 3 w7 (by decide) fa3).mono ?_
  rintro e w8 ⟨rfl, hb⟩
  have G := hide (G.out.trans (hb.mono G.out.size))
  clear hb
  go_wp2_with fail
  refine (fails21_any _ 6 3 w8 (by decide) fa4).mono ?_
  rintro e w9 ⟨rfl, hb⟩
  have G := hide (G.out.trans (hb.mono G.out.size))
  clear hb
  go_wp2_with fail
  refine (fails21_any _ 9 0 w9 (by decide) fa5).mono ?_
  rintro e w10 ⟨rfl, hb⟩
  have G := hide (G.out.trans (hb.mono G.out.size))
  clear hb
  go_wp2_with fail
  refine (parse_any _ w10 (by decide) (okAg_is ag9)).mono ?_
  rintro e w11 ⟨A1, c1, rfl, hex, hnam, hlen, hb⟩
  have G := hide (G.out.trans (hb.mono G.out.size))
  dsimp only at hex hnam hlen ⊢
  have HEX := hide hex
  have HNM := hide hnam
  clear hb hex hnam hlen
  go_wp2_with fail
  refine (names_any A1 c1 (AT9.flat 0) w11 HEX.out HNM.out av9).mono ?_
  rintro e w12 ⟨A2, c2, rfl, hr, hb⟩
  have G := hide (G.out.trans (hb.mono G.out.size))
  have HEX2 := hide (HEX.out.next hb)
  rw [an9] at hr ⊢
  obtain ⟨b2, o2, rfl, hlt, hat⟩ := Reads.at1 hr (by decide) (c0 := encStr [97]) rfl
  have g0 : w12.cell? ⟨b2, o2, none⟩ = some (.string ⟨#[97]⟩) := hat 0 _ rfl
  have g1 : w12.cell? ⟨b2, o2 + 1, none⟩ = some (.string ⟨#[98]⟩) := hat 1 _ rfl
  clear hat hr hb
  dsimp only [List.length_cons, List.length_nil]
  go_wp2_with fail
  refine (valid_any A1 c1 (AT9.flat 0) w12 HEX2.out HNM.out (by decide)).mono ?_
  rintro e w13 ⟨rfl, hb⟩
  have G := hide (G.out.trans (hb.mono G.out.size))
  clear hb g0 g1
  rw [av9]
  go_wp2_with fail
  refine (valid_any none 0 [] w13 ExprAt.none_ (by simp) (by decide)).mono ?_
  rintro e w14 ⟨rfl, hb⟩
  have G := hide (G.out.trans (hb.mono G.out.size))
  clear hb
  rw [show validL [] = false from by kernel_rfl]
  go_wp2
  go_ret
  exact ⟨rfl, G.out⟩
end Go.Proofs.YtkofmiegnfgbjaaGreatDoor
