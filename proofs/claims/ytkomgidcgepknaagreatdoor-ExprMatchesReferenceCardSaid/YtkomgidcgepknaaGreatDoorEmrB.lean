/-
  The table of powers, from the card's condition.
-/
import Derived.Test.YtkomgidcgepknaaGreatDoorExpP
import Derived.Test.YtkomgidcgepknaaGreatDoorTxB
import Derived.Test.YtkomgidcgepknaaGreatDoorNmW
import Derived.Test.YtkomgidcgepknaaGreatDoorRefN
import Derived.Test.YtkomgidcgepknaaGreatDoorSame
import Derived.Test.YtkomgidcgepknaaGreatDoorFewB
import Derived.Test.YtkomgidcgepknaaGreatDoorRpB
import Derived.Test.YtkomgidcgepknaaGreatDoorRows
import Derived.LaidSub
import Derived.Stop.Joined
set_option linter.unusedVariables false
set_option linter.unusedSimpArgs false
namespace Go.Proofs.YtkomgidcgepknaaGreatDoor
open Go.RowKit Go.Deep Go.Maps

abbrev LN (n : Int) : Tr := .leaf ⟨1, n, ByteArray.empty, []⟩
abbrev LV (c : UInt8) : Tr := .leaf ⟨2, 0, ⟨#[c]⟩, []⟩
/-- What is parsed is this tree. -/
def okAg (s : ByteArray) : Option (List Nod) := if (lexL s).err = 0 then (match parF s.size 100 (jLevel 1 (lexL s).toks []) with
    | none => none
    | some res => if (endP res).err = 0 ∧ (endP res).off = 0 then some (endP res).out else none) else none
theorem okAg_is {s : ByteArray} {l : List Nod} (h : okAg s = some l) : ParseIs s ⟨l, 0, 0⟩ := by
  unfold okAg at h
  by_cases h1 : (lexL s).err = 0
  · rw [if_pos h1] at h
    cases hp : parF s.size 100 (jLevel 1 (lexL s).toks []) with
    | none => rw [hp] at h; cases h
    | some res =>
      rw [hp] at h
      dsimp only at h
      by_cases h2 : (endP res).err = 0 ∧ (endP res).off = 0
      · rw [if_pos h2] at h
        injection h with h
        unfold ParseIs
        rw [if_neg (by rw [h1]; simp)]
        refine ⟨100, res, hp, ?_⟩
        rw [← h, ← h2.1]
        conv => lhs; rw [h2.1, ← h2.2]
        obtain ⟨h3, h4⟩ := h2
        cases hq : endP res with
        | mk a b c =>
          rw [hq] at h3 h4
          simp only at h3 h4
          simp [h3, h4]
      · rw [if_neg h2] at h; cases h
  · rw [if_neg h1] at h; cases h
def okFa (s : ByteArray) (r : Int × Int) : Bool := if (lexL s).err = 0 then (match parF s.size 100 (jLevel 1 (lexL s).toks []) with
    | none => false
    | some res => (endP res).err == r.1 && (endP res).off == r.2 && (endP res).out.isEmpty) else ((lexL s).err == r.1 && (lexL s).off == r.2)
theorem okFa_is {s : ByteArray} {a b : Int} (h : okFa s (a, b) = true) : ParseIs s ⟨[], a, b⟩ := by
  unfold okFa at h
  by_cases h1 : (lexL s).err = 0
  · rw [if_pos h1] at h
    cases hp : parF s.size 100 (jLevel 1 (lexL s).toks []) with
    | none => rw [hp] at h; cases h
    | some res =>
      rw [hp] at h
      simp only [Bool.and_eq_true, beq_iff_eq, List.isEmpty_iff] at h
      obtain ⟨⟨h2, h3⟩, h4⟩ := h
      unfold ParseIs
      rw [if_neg (by rw [h1]; simp)]
      refine ⟨100, res, hp, ?_⟩
      rw [← h2, ← h3, ← h4]
  · rw [if_neg h1] at h
    simp only [Bool.and_eq_true, beq_iff_eq] at h
    unfold ParseIs
    rw [if_pos h1, h.1, h.2]
theorem ln_good {n : Int} (h : formedL ⟨1, n, ByteArray.empty, []⟩ = true) : (LN n).good := ⟨h, .inl rfl⟩
theorem lv_good {c : UInt8} (h : formedL ⟨2, 0, ⟨#[c]⟩, []⟩ = true) : (LV c).good := ⟨h, .inr rfl⟩
set_option maxHeartbeats 1000000 in
theorem again_any (s t : ByteArray) (T : Tr) (w : World) (hs : s.size ≤ maxLen) (ht : Pow w) (h : okAg s = some (T.flat 0)) (hg : T.good) (hv : validL (T.flat 0) = true) (htt : (⟨(T.str 1).toArray⟩ : ByteArray) = t) :
    Calls Tryz.prog 62 #[.string s] w fun e w' => e = .returned (.string t) ∧ Below w.heap.size w w' := by
  have hp := okAg_is h
  have HG := hide hg
  have HV := hide hv
  have HTT := hide htt
  have HT := hide ht
  clear h hv htt ht
  go_enter Tryz.func62, Tryz.ntmps62
  go_wp2_with fail
  refine (parse_any s w hs hp).mono ?_
  rintro e w1 ⟨A1, c1, rfl, hex, hnam, hlen, hb1⟩
  dsimp only at hex hnam hlen ⊢
  have HEX := hide hex
  have HNM := hide hnam
  have HB1 := hide hb1
  have HT1 := hide (HT.out.below hb1 HT.out.pos)
  clear hex hnam hp hb1
  go_wp2_with fail
  refine (text_valid A1 c1 (T.flat 0) w1 HEX.out HNM.out HT1.out HG.out rfl HV.out).mono ?_
  rintro e w2 ⟨rfl, hb2⟩
  have HB2 := hide (HB1.out.trans (hb2.mono HB1.out.size))
  clear hb2
  rw [HTT.out]
  go_wp2
  go_ret
  exact ⟨rfl, HB2.out⟩
set_option maxHeartbeats 1000000 in
theorem fails21_any (s : ByteArray) (a b : Int) (w : World) (hs : s.size ≤ maxLen) (h : okFa s (a, b) = true) :
    Calls Tryz.prog 63 #[.string s, .int .i64 a, .int .i64 b] w fun e w' => e = .returned (.bool true) ∧ Below w.heap.size w w' := by
  have hp := okFa_is h
  clear h
  go_enter Tryz.func63, Tryz.ntmps63
  go_wp2_with fail
  refine (parse_any s w hs hp).mono ?_
  rintro e w1 ⟨A1, c1, rfl, hex, hnam, hlen, hb1⟩
  dsimp only at hex hnam hlen ⊢
  have HB1 := hide hb1
  clear hex hnam hp hb1
  go_wp2
  go_ret
  exact ⟨rfl, HB1.out⟩

def AT0 : Tr := .bin 4 (.bin 5 (.bin 3 (LN 1) (LN 2)) (LV 120)) (.un (LN 3))
theorem ag0 : okAg ⟨#[40, 49, 32, 43, 32, 50, 41, 42, 120, 32, 45, 32, 45, 40, 51, 41]⟩ = some (AT0.flat 0) := by kernel_rfl
theorem av0 : validL (AT0.flat 0) = true := by kernel_rfl
theorem at0 : (⟨(AT0.str 1).toArray⟩ : ByteArray) = ⟨#[40, 49, 32, 43, 32, 50, 41, 32, 42, 32, 120, 32, 45, 32, 45, 51]⟩ := by kernel_rfl
theorem agd0 : AT0.good := ⟨⟨by decide, by decide, by decide⟩, ⟨⟨by decide, by decide, by decide⟩, ⟨⟨by decide, by decide, by decide⟩, ln_good (by kernel_rfl), ln_good (by kernel_rfl)⟩, lv_good (by kernel_rfl)⟩, ln_good (by kernel_rfl)⟩
def AT1 : Tr := .bin 4 (LV 97) (.bin 4 (LV 98) (LV 99))
theorem ag1 : okAg ⟨#[97, 45, 40, 98, 45, 99, 41]⟩ = some (AT1.flat 0) := by kernel_rfl
theorem av1 : validL (AT1.flat 0) = true := by kernel_rfl
theorem at1 : (⟨(AT1.str 1).toArray⟩ : ByteArray) = ⟨#[97, 32, 45, 32, 40, 98, 32, 45, 32, 99, 41]⟩ := by kernel_rfl
theorem agd1 : AT1.good := ⟨⟨by decide, by decide, by decide⟩, lv_good (by kernel_rfl), ⟨⟨by decide, by decide, by decide⟩, lv_good (by kernel_rfl), lv_good (by kernel_rfl)⟩⟩
def AT2 : Tr := .bin 4 (.bin 4 (LV 97) (LV 98)) (LV 99)
theorem ag2 : okAg ⟨#[40, 97, 45, 98, 41, 45, 99]⟩ = some (AT2.flat 0) := by kernel_rfl
theorem av2 : validL (AT2.flat 0) = true := by kernel_rfl
theorem at2 : (⟨(AT2.str 1).toArray⟩ : ByteArray) = ⟨#[97, 32, 45, 32, 98, 32, 45, 32, 99]⟩ := by kernel_rfl
theorem agd2 : AT2.good := ⟨⟨by decide, by decide, by decide⟩, ⟨⟨by decide, by decide, by decide⟩, lv_good (by kernel_rfl), lv_good (by kernel_rfl)⟩, lv_good (by kernel_rfl)⟩
def AT3 : Tr := .cond (.bin 10 (LV 97) (LV 98)) (.bin 7 (LN 1) (LN 2)) (LN 7)
theorem ag3 : okAg ⟨#[105, 102, 40, 40, 97, 60, 98, 41, 44, 32, 109, 105, 110, 40, 49, 44, 50, 41, 44, 32, 48, 55, 41]⟩ = some (AT3.flat 0) := by kernel_rfl
theorem av3 : validL (AT3.flat 0) = true := by kernel_rfl
theorem at3 : (⟨(AT3.str 1).toArray⟩ : ByteArray) = ⟨#[105, 102, 40, 97, 32, 60, 32, 98, 44, 32, 109, 105, 110, 40, 49, 44, 32, 50, 41, 44, 32, 55, 41]⟩ := by kernel_rfl
theorem agd3 : AT3.good := ⟨⟨⟨by decide, by decide, by decide⟩, lv_good (by kernel_rfl), lv_good (by kernel_rfl)⟩, ⟨⟨by decide, by decide, by decide⟩, ln_good (by kernel_rfl), ln_good (by kernel_rfl)⟩, ln_good (by kernel_rfl)⟩
theorem fa0 : okFa ⟨#[97, 32, 60, 32, 98, 32, 60, 32, 99]⟩ (5, 6) = true := by kernel_rfl
theorem fa1 : okFa ⟨#[115, 105, 110, 40, 49, 41]⟩ (7, 0) = true := by kernel_rfl
theorem fa2 : okFa ⟨#[109, 105, 110, 40, 49, 41]⟩ (5, 5) = true := by kernel_rfl
theorem fa3 : okFa ⟨#[49, 32, 43]⟩ (6, 3) = true := by kernel_rfl
theorem fa4 : okFa ⟨#[109, 105, 110]⟩ (6, 3) = true := by kernel_rfl
theorem fa5 : okFa ⟨#[49, 48, 48, 48, 48, 48, 49]⟩ (9, 0) = true := by kernel_rfl
theorem Reads.at1 {w : World} {B : Nat} {A : Option Addr} {n : Nat} {xs : List Value} (h : Reads w B 1 A n xs) (hn : 0 < n) {c0 : Value} (h0 : xs[0]? = some c0) : ∃ b off, A = some ⟨b, off, none⟩ ∧ b < B ∧ ∀ j u, xs[j]? = some u → w.cell? ⟨b, off + j, none⟩ = some u := by
  obtain ⟨ad, hA, hb, hc⟩ := h.2 hn
  obtain ⟨b, off, spot⟩ := ad
  have hsp : spot = none := by
    have := hc 0 _ h0
    simpa [Addr.add] using World.cell?_spot this
  subst hsp
  exact ⟨b, off, hA, hb, fun j u hu => by have := hc j u hu; rwa [add_lit] at this⟩

def AT9 : Tr := .bin 3 (LV 98) (.bin 5 (LV 97) (LV 98))
theorem ag9 : okAg ⟨#[98, 32, 43, 32, 97, 32, 42, 32, 98]⟩ = some (AT9.flat 0) := by kernel_rfl
theorem av9 : validL (AT9.flat 0) = true := by kernel_rfl
theorem an9 : namesL (AT9.flat 0) = [[97], [98]] := by
  have h := names_inv (AT9.flat 0)
  have hr : namesRaw (AT9.flat 0) = [[98], [97], [98]] := by kernel_rfl
  rw [hr] at h
  refine incr_same h.1 ?_ fun x => (h.2 x).trans ?_
  · rw [List.pairwise_cons]
    refine ⟨fun a ha => ?_, List.pairwise_singleton _ _⟩
    rw [List.mem_singleton.1 ha]
    decide
  · simp only [List.mem_cons, List.not_mem_nil, or_false]
    constructor
    · rintro (h | h | h)
      · exact .inr h
      · exact .inl h
      · exact .inr h
    · rintro (h | h)
      · exact .inr (.inl h)
      · exact .inl h
set_option maxHeartbeats 4000000 in
set_option maxRecDepth 20000 in
theorem head21_any (w : World) (ht : Pow w) : Calls Tryz.prog 25 #[] w fun e w' => e = .returned (.bool true) ∧ Below w.heap.size w w' := by
  have HT0 := hide ht
  clear ht
  go_enter Tryz.func25, Tryz.ntmps25
  go_wp2_with fail
  refine (again_any _ _ AT0 w (by decide) HT0.out ag0 agd0 av0 at0).mono ?_
  rintro e w1 ⟨rfl, hb⟩
  have HT1 := hide (HT0.out.below hb HT0.out.pos)
  have G := hide hb
  clear hb HT0
  go_wp2_with fail
  refine (again_any _ _ AT1 w1 (by decide) HT1.out ag1 agd1 av1 at1).mono ?_
  rintro e w2 ⟨rfl, hb⟩
  have HT2 := hide (HT1.out.below hb HT1.out.pos)
  have G := hide (G.out.trans (hb.mono G.out.size))
  clear hb HT1
  go_wp2_with fail
  refine (again_any _ _ AT2 w2 (by decide) HT2.out ag2 agd2 av2 at2).mono ?_
  rintro e w3 ⟨rfl, hb⟩
  have HT3 := hide (HT2.out.below hb HT2.out.pos)
  have G := hide (G.out.trans (hb.mono G.out.size))
  clear hb HT2
  go_wp2_with fail
  refine (again_any _ _ AT3 w3 (by decide) HT3.out ag3 agd3 av3 at3).mono ?_
  rintro e w4 ⟨rfl, hb⟩
  have HT4 := hide (HT3.out.below hb HT3.out.pos)
  have G := hide (G.out.trans (hb.mono G.out.size))
  clear hb HT3
  go_wp2_with fail
  refine (fails21_any _ 5 6 w4 (by decide) fa0).mono ?_
  rintro e w5 ⟨rfl, hb⟩
  have G := hide (G.out.trans (hb.mono G.out.size))
  clear hb
  go_wp2_with fail
  refine (fails21_any _ 7 0 w5 (by decide) fa1).mono ?_
  rintro e w6 ⟨rfl, hb⟩
  have G := hide (G.out.trans (hb.mono G.out.size))
  clear hb
  go_wp2_with fail
  refine (fails21_any _ 5 5 w6 (by decide) fa2).mono ?_
  rintro e w7 ⟨rfl, hb⟩
  have G := hide (G.out.trans (hb.mono G.out.size))
  clear hb
  go_wp2_with fail
  refine (fails21_any _ 6 3 w7 (by decide) fa3).mono ?_
  rintro e w8 ⟨rfl, hb⟩
  have G := hide (G.out.trans (hb.mono G.out.size))
  clear hb
  go_wp2_with fail
  refine (fails21_any _ 6 3 w8 (by decide) fa4).mono ?_
  rintro e w9 ⟨rfl, hb⟩
  have G := hide (G.out.trans (hb.mono G.out.size))
  clear hb
  go_wp2_with fail
  refine (fails21_any _ 9 0 w9 (by decide) fa5).mono ?_
  rintro e w10 ⟨rfl, hb⟩
  have G := hide (G.out.trans (hb.mono G.out.size))
  clear hb
  go_wp2_with fail
  refine (parse_any _ w10 (by decide) (okAg_is ag9)).mono ?_
  rintro e w11 ⟨A1, c1, rfl, hex, hnam, hlen, hb⟩
  have G := hide (G.out.trans (hb.mono G.out.size))
  dsimp only at hex hnam hlen ⊢
  have HEX := hide hex
  have HNM := hide hnam
  clear hb hex hnam hlen
  go_wp2_with fail
  refine (names_any A1 c1 (AT9.flat 0) w11 HEX.out HNM.out av9).mono ?_
  rintro e w12 ⟨A2, c2, rfl, hr, hb⟩
  have G := hide (G.out.trans (hb.mono G.out.size))
  have HEX2 := hide (HEX.out.next hb)
  rw [an9] at hr ⊢
  obtain ⟨b2, o2, rfl, hlt, hat⟩ := Reads.at1 hr (by decide) (c0 := encStr [97]) rfl
  have g0 : w12.cell? ⟨b2, o2, none⟩ = some (.string ⟨#[97]⟩) := hat 0 _ rfl
  have g1 : w12.cell? ⟨b2, o2 + 1, none⟩ = some (.string ⟨#[98]⟩) := hat 1 _ rfl
  clear hat hr hb
  dsimp only [List.length_cons, List.length_nil]
  go_wp2_with fail
  refine (valid_any A1 c1 (AT9.flat 0) w12 HEX2.out HNM.out (by decide)).mono ?_
  rintro e w13 ⟨rfl, hb⟩
  have G := hide (G.out.trans (hb.mono G.out.size))
  clear hb g0 g1
  rw [av9]
  go_wp2_with fail
  refine (valid_any none 0 [] w13 ExprAt.none_ (by simp) (by decide)).mono ?_
  rintro e w14 ⟨rfl, hb⟩
  have G := hide (G.out.trans (hb.mono G.out.size))
  clear hb
  rw [show validL [] = false from by kernel_rfl]
  go_wp2
  go_ret
  exact ⟨rfl, G.out⟩
end Go.Proofs.YtkomgidcgepknaaGreatDoor

set_option linter.unusedVariables false
set_option linter.unusedSimpArgs false
namespace Go.Proofs.YtkomgidcgepknaaGreatDoor
open Go.Lib

/-- The row l has the names of the first i nodes, in order. -/
def NmOk (e : List Nod) (i : Nat) (l : List (List UInt8)) : Prop := l.Pairwise (· < ·) ∧ (∀ x, x ∈ l ↔ x ∈ namesRaw (e.take i)) ∧ l.length ≤ i
theorem nmok_zero (e : List Nod) : NmOk e 0 [] := ⟨List.Pairwise.nil, fun x => by simp [namesRaw], Nat.le_refl _⟩
theorem nmok_end {e : List Nod} {l : List (List UInt8)} (h : NmOk e e.length l) : l = namesL e := by
  refine incr_same h.1 (names_inv e).1 fun x => ?_
  rw [h.2.1, (names_inv e).2, List.take_length]
theorem nmok_skip {e : List Nod} {i : Nat} {l : List (List UInt8)} (hi : i < e.length) (h : NmOk e i l) (ho : (nodAt e i).op ≠ 2) : NmOk e (i + 1) l := by
  refine ⟨h.1, fun x => ?_, Nat.le_succ_of_le h.2.2⟩
  rw [raw_step hi, if_neg ho, List.append_nil]
  exact h.2.1 x
/-- The name k of a row. -/
def rwAt (l : List (List UInt8)) (k : Nat) : List UInt8 := l.getD k []
theorem rwAt_get {l : List (List UInt8)} {k : Nat} (h : k < l.length) : l[k] = rwAt l k := by
  unfold rwAt
  rw [List.getD_eq_getElem?_getD, List.getElem?_eq_getElem h]
  rfl
theorem rwAt_mem {l : List (List UInt8)} {k : Nat} (h : k < l.length) : rwAt l k ∈ l := by
  rw [← rwAt_get h]
  exact List.getElem_mem h
theorem nmok_same {e : List Nod} {i k : Nat} {l : List (List UInt8)} (hi : i < e.length) (h : NmOk e i l) (ho : (nodAt e i).op = 2) (hk : k < l.length)
    (hx : rwAt l k = (nodAt e i).name.data.toList) : NmOk e (i + 1) l := by
  refine ⟨h.1, fun x => ?_, Nat.le_succ_of_le h.2.2⟩
  rw [raw_step hi, if_pos ho, List.mem_append, ← h.2.1, List.mem_singleton]
  constructor
  · exact .inl
  · rintro (hx | rfl)
    · exact hx
    · rw [← hx]
      exact rwAt_mem hk
theorem nmok_put {e : List Nod} {i k : Nat} {l : List (List UInt8)} (hi : i < e.length) (h : NmOk e i l) (ho : (nodAt e i).op = 2) (hk : k ≤ l.length)
    (hb : ∀ j, j < k → rwAt l j < (nodAt e i).name.data.toList)
    (hx : k = l.length ∨ ¬ rwAt l k < (nodAt e i).name.data.toList ∧ rwAt l k ≠ (nodAt e i).name.data.toList) :
    NmOk e (i + 1) (l.take k ++ (nodAt e i).name.data.toList :: l.drop k) := by
  have hstep := raw_step hi
  rw [if_pos ho] at hstep
  generalize (nodAt e i).name.data.toList = x at hb hx hstep ⊢
  have hT : ∀ a ∈ l.take k, a < x := fun a ha => by
    obtain ⟨j, hj, e⟩ := List.getElem_of_mem ha
    rw [List.length_take] at hj
    rw [List.getElem_take, rwAt_get (by omega)] at e
    rw [← e]
    exact hb j (by omega)
  have hD : ∀ b ∈ l.drop k, x < b := fun b hb' => by
    rcases hx with hx | ⟨h1, h2⟩
    · rw [hx, List.drop_length] at hb'
      cases hb'
    · obtain ⟨j, hj, e⟩ := List.getElem_of_mem hb'
      rw [List.length_drop] at hj
      rw [List.getElem_drop] at e
      have hkl : k < l.length := by omega
      have hxk : x < rwAt l k := ll_ne (List.not_lt.1 h1) (fun h => h2 h.symm)
      cases j with
      | zero => rw [← e]; exact (rwAt_get hkl) ▸ hxk
      | succ j =>
        refine List.lt_trans hxk ?_
        rw [← rwAt_get hkl, ← e]
        exact List.pairwise_iff_getElem.1 h.1 _ _ _ _ (by omega)
  refine ⟨?_, fun y => ?_, ?_⟩
  · rw [List.pairwise_append]
    refine ⟨h.1.sublist (List.take_sublist _ _), List.pairwise_cons.2 ⟨hD, h.1.sublist (List.drop_sublist _ _)⟩, fun a ha b hb' => ?_⟩
    rcases List.mem_cons.1 hb' with rfl | hb'
    · exact hT a ha
    · exact List.lt_trans (hT a ha) (hD b hb')
  · rw [hstep, List.mem_append, List.mem_append, List.mem_cons, List.mem_singleton, ← h.2.1]
    have hy : y ∈ l ↔ y ∈ l.take k ∨ y ∈ l.drop k := by
      rw [← List.mem_append, List.take_append_drop]
    rw [hy]
    constructor
    · rintro (h | h | h)
      · exact .inl (.inl h)
      · exact .inr h
      · exact .inl (.inr h)
    · rintro ((h | h) | h)
      · exact .inl h
      · exact .inr (.inr h)
      · exact .inr (.inl h)
  · rw [List.length_append, List.length_cons, List.length_take, List.length_drop]
    have := h.2.2
    omega
/-- The row while its end is moved up by one: from j + 1 on it is moved. -/
def shR (l : List (List UInt8)) (j : Nat) : List (List UInt8) := (l ++ [[]]).take (j + 1) ++ l.drop j
theorem shR_top (l : List (List UInt8)) : shR l l.length = l ++ [[]] := by
  unfold shR
  rw [List.drop_length, List.append_nil, List.take_of_length_le (by simp)]
theorem shR_len {l : List (List UInt8)} {j : Nat} (h : j ≤ l.length) : (shR l j).length = l.length + 1 := by
  unfold shR
  rw [List.length_append, List.length_take, List.length_drop, List.length_append]
  simp
  omega
theorem shR_at {l : List (List UInt8)} {j : Nat} (h1 : 1 ≤ j) (h : j ≤ l.length) : rwAt (shR l j) (j - 1) = rwAt l (j - 1) := by
  unfold rwAt shR
  rw [List.getD_eq_getElem?_getD, List.getD_eq_getElem?_getD, List.getElem?_append_left (by simp; omega), List.getElem?_take_of_lt (by omega), List.getElem?_append_left (by omega)]
theorem shR_put {l : List (List UInt8)} {j : Nat} (h : j ≤ l.length) (x : List UInt8) : (shR l j).set j x = l.take j ++ x :: l.drop j := by
  unfold shR
  have hl : ((l ++ [[]]).take j).length = j := by simp; omega
  have e : (l ++ [[]]).take (j + 1) = (l ++ [[]]).take j ++ [((l ++ [[]])[j]'(by simp; omega))] := List.take_succ_eq_append_getElem _
  rw [e, List.append_assoc, List.set_append_right _ _ (by omega), hl, Nat.sub_self, List.take_append_of_le_length h]
  rfl
theorem shR_set {l : List (List UInt8)} {j : Nat} (h1 : 1 ≤ j) (h : j ≤ l.length) : (shR l j).set j (rwAt l (j - 1)) = shR l (j - 1) := by
  rw [shR_put h]
  unfold shR
  have e : (l ++ [[]]).take (j - 1 + 1) = l.take j := by
    rw [Nat.sub_add_cancel h1, List.take_append_of_le_length h]
  have e2 : l.drop (j - 1) = rwAt l (j - 1) :: l.drop j := by
    rw [List.drop_eq_getElem_cons (by omega), rwAt_get, Nat.sub_add_cancel h1]
  rw [e, e2]
end Go.Proofs.YtkomgidcgepknaaGreatDoor

set_option linter.unusedVariables false
set_option linter.unusedSimpArgs false
namespace Go.Proofs.YtkomgidcgepknaaGreatDoor
open Go.RowKit Go.Deep Go.Maps

theorem rw_cell {w : World} {base : Nat} {A : Option Addr} {n c : Nat} {l : List (List UInt8)} (h : Own w base 9 1 A n c (l.map encStr)) (hl : l.length = n) {k : Nat} (hk : k < n) :
    ∃ g, ∃ nb : ByteArray, A = some ⟨g, 0, none⟩ ∧ base ≤ g ∧ nb.data.toList = rwAt l k ∧ w.cell? ⟨g, k, none⟩ = some (.string nb) ∧ w.frozen? ⟨g, k, none⟩ = false := by
  obtain ⟨g, rfl, hb, _, hc, hf⟩ := Own.at_ h hk
  refine ⟨g, ⟨(rwAt l k).toArray⟩, rfl, hb, by simp, ?_, hf⟩
  rw [hc, List.getElem?_map, List.getElem?_eq_getElem (by omega), rwAt_get]
  rfl
theorem less_t {a b : ByteArray} {x y : List UInt8} (ha : a.data.toList = x) (hb : b.data.toList = y) (h : x < y) : Op.bytesLess a.toList b.toList = true := by
  rw [Go.Lib.toList_data, Go.Lib.toList_data, bytesLess_eq, ha, hb]
  exact decide_eq_true h
theorem less_f {a b : ByteArray} {x y : List UInt8} (ha : a.data.toList = x) (hb : b.data.toList = y) (h : ¬ x < y) : Op.bytesLess a.toList b.toList = false := by
  rw [Go.Lib.toList_data, Go.Lib.toList_data, bytesLess_eq, ha, hb]
  exact decide_eq_false h
theorem top_row {l : List (List UInt8)} {n : Nat} (h : l.length = n) : l.map encStr ++ [.string ⟨#[]⟩] = (shR l n).map encStr := by
  subst h
  rw [shR_top, List.map_append]
  rfl
theorem row_set {l : List (List UInt8)} {j : Nat} {nb : ByteArray} (h : j + 1 ≤ l.length) (hnb : nb.data.toList = rwAt (shR l (j + 1)) j) : ((shR l (j + 1)).map encStr).set (j + 1) (.string nb) = (shR l j).map encStr := by
  have e1 : rwAt (shR l (j + 1)) j = rwAt l j := shR_at (j := j + 1) (by omega) h
  have e2 : (shR l (j + 1)).set (j + 1) (rwAt l j) = shR l j := shR_set (j := j + 1) (by omega) h
  rw [← enc_name nb, hnb, ← List.map_set, e1, e2]
set_option maxHeartbeats 2000000 in
set_option maxRecDepth 100000 in
theorem rnames_none (A : Option Addr) (c : Nat) (e : List Nod) (w : World) (h : ExprAt w w.heap.size A e) (hn : ∀ x ∈ e, x.name.size ≤ maxLen) (hm : e.length ≤ maxLen) (hv : validL e = false) :
    Calls Tryz.prog 32 #[.slice A e.length c] w fun en w' => en = .returned (.tuple #[.slice none 0 0, .int .i64 1]) ∧ Below w.heap.size w w' := by
  have HM := hide hm
  unfold maxLen at hm
  go_enter Tryz.func32, Tryz.ntmps32
  go_wp2_with fail
  refine (refValidE_any A c e w h hn HM.out).mono ?_
  rintro en w2 ⟨rfl, hb2⟩
  rw [hv]
  go_wp2
  go_ret2
  exact ⟨rfl, hb2⟩
set_option maxHeartbeats 8000000 in
set_option maxRecDepth 100000 in
theorem rnames_any (A : Option Addr) (c : Nat) (e : List Nod) (w : World) (h : ExprAt w w.heap.size A e) (hn : ∀ x ∈ e, x.name.size ≤ maxLen) (hv : validL e = true) :
    Calls Tryz.prog 32 #[.slice A e.length c] w (NamesPost e w) := by
  have h300 : e.length ≤ 300 := by
    obtain ⟨t, hg, hat, hts, _⟩ := valid_tree hv
    rw [hat, Tr.flat_len]
    exact hts
  have HM : Hid (e.length ≤ maxLen) := hide (by unfold maxLen; omega)
  have HN := hide hn
  have H := hide h
  have he2 : (e.length : Int) ≤ 300 := by omega
  clear hn h
  go_enter Tryz.func32, Tryz.ntmps32
  go_wp2_with fail
  refine (refValidE_any A c e w H.out HN.out HM.out).mono ?_
  rintro en w2 ⟨rfl, hb2⟩
  have HB2 := hide hb2
  have H2 := hide (H.out.next hb2)
  clear hb2 H
  rw [hv]
  clear hv
  go_wp2
  go_loopw [4, 5] (fun t4 t5 wr => ∃ (i n : Nat) (l : List (List UInt8)) (A4 : Option Addr) (c4 : Nat), i ≤ e.length ∧ l.length = n ∧ t5 = .int .i64 i ∧ t4 = .slice A4 n c4 ∧ NmOk e i l ∧ Own wr w2.heap.size 9 1 A4 n c4 (l.map encStr) ∧ Below w2.heap.size w2 wr) (fun _ t5 _ => e.length - (intOf t5).toNat)
  case atStart => exact ⟨0, 0, [], none, 0, Nat.zero_le _, rfl, rfl, rfl, nmok_zero e, Own.nil _ _ _ _, Below.refl _ _⟩
  case round =>
    obtain ⟨i, n, l, A4, c4, hi, hln, rfl, rfl, hok, hown, hbr⟩ := hrel
    have hni : n ≤ i := hln ▸ hok.2.2
    have HLN := hide hln
    have HOK := hide hok
    have HOW := hide hown
    have HBR := hide hbr
    clear hown hbr hok hln
    obtain ⟨wo, hwo⟩ : ∃ wo : World, wo = wr := ⟨_, rfl⟩
    subst hwo
    by_cases hlt : i < e.length
    · obtain ⟨be, offe, K, kc, rfl, hbe, x0, x1, x2, x3, hKd⟩ := (H2.out.below HBR.out).at_ hlt
      have HSKIP : Hid ((nodAt e i).op ≠ 2 → NmOk e (i + 1) l) := hide (nmok_skip hlt HOK.out)
      have HSAME : Hid ((nodAt e i).op = 2 → ∀ k, k < n → rwAt l k = (nodAt e i).name.data.toList → NmOk e (i + 1) l) := hide (fun ho k hk hx => nmok_same hlt HOK.out ho (by rw [HLN.out]; exact hk) hx)
      have HPUT : Hid ((nodAt e i).op = 2 → ∀ k, k ≤ n → (∀ j, j < k → rwAt l j < (nodAt e i).name.data.toList) → (k = n ∨ ¬ rwAt l k < (nodAt e i).name.data.toList ∧ rwAt l k ≠ (nodAt e i).name.data.toList) → NmOk e (i + 1) (l.take k ++ (nodAt e i).name.data.toList :: l.drop k)) :=
        hide (fun ho k hk hb hx => nmok_put hlt HOK.out ho (by rw [HLN.out]; exact hk) hb (by rw [HLN.out]; exact hx))
      generalize nodAt e i = x at x0 x1 x2 x3 hKd HSKIP HSAME HPUT
      clear hKd x1 x3 HOK
      by_cases ho : x.op = 2
      · have HSAME2 := hide (HSAME.out ho)
        have HPUT2 := hide (HPUT.out ho)
        rw [ho] at x0
        clear HSKIP HSAME HPUT ho
        go_wp2
        have X2 := hide x2
        have XB : Hid (w2.cell? ⟨be, offe + i * 4 + 2, none⟩ = some (.string x.name)) := hide ((HBR.out.cell (p := ⟨be, offe + i * 4 + 2, none⟩) hbe).symm.trans x2)
        clear x0 x2
        go_loopw [6] (fun t6 wq => ∃ k : Nat, k ≤ n ∧ t6 = .int .i64 k ∧ (∀ j, j < k → rwAt l j < x.name.data.toList) ∧ ∃ m, wq = wo.drewN m) (fun t6 _ => n - (intOf t6).toNat)
        case atStart => exact ⟨0, Nat.zero_le _, rfl, fun j hj => absurd hj (Nat.not_lt_zero _), 0, rfl⟩
        case round =>
          obtain ⟨k, hk, rfl, hbef, m, hwm⟩ := hrel
          have HBEF := hide hbef
          clear hbef
          have HOQ : Hid (Own wr w2.heap.size 9 1 A4 n c4 (l.map encStr)) := hide (by rw [hwm]; exact HOW.out.drewN m)
          have HBQ : Hid (Below w2.heap.size w2 wr) := hide (by rw [hwm]; exact below_drewN HBR.out m)
          have x2 : wr.cell? ⟨be, offe + i * 4 + 2, none⟩ = some (.string x.name) := by rw [hwm]; exact X2.out
          have HW := hide hwm
          clear hwm
          by_cases hkn : k < n
          · obtain ⟨g4, nb, rfl, hg4, hnb, g0, f0⟩ := rw_cell HOQ.out HLN.out hkn
            by_cases hl : rwAt l k < x.name.data.toList
            · have d1 := less_t hnb rfl hl
              have HBE2 : Hid (∀ j, j < k + 1 → rwAt l j < x.name.data.toList) := hide (fun j hj => by
                by_cases hjk : j < k
                · exact HBEF.out j hjk
                · obtain rfl : j = k := by omega
                  exact hl)
              clear hl hnb
              go_upto_region 9 with (fail)
              go_quiet (fail)
              go_wp2
              go_roundw
              case rel => exact ⟨k + 1, by omega, by go_num, HBE2.out, m + nq, by rw [HW.out, World.drewN_drewN]⟩
              case measure => simp [intOf] <;> omega
            · have d1 := less_f hnb rfl hl
              have q1 : ((k : Int) == (n : Int)) = false := beq_eq_false_iff_ne.2 (by omega)
              by_cases he : nb = x.name
              · subst he
                have HS := hide (HSAME2.out k hkn hnb.symm)
                clear hl hnb
                go_upto_region 9 with (fail)
                go_quiet (fail)
                go_upto_region 11 with (fail)
                go_quiet (fail)
                go_wp2
                go_roundw
                case rel => exact ⟨i + 1, n, l, _, c4, by omega, HLN.out, by go_num, rfl, HS.out, HOQ.out, below_drewN HBQ.out _⟩
                case measure => simp [intOf] <;> omega
              · have d2 := bytes_ne he
                have HP := hide (HPUT2.out k hk HBEF.out (.inr ⟨hl, fun h => he (by apply ByteArray.ext; apply Array.ext'; rw [hnb, h])⟩))
                clear hl hnb he HSAME2 HPUT2 HBEF
                go_upto_region 9 with (fail)
                go_quiet (fail)
                go_upto_region 11 with (fail)
                go_quiet (fail)
                go_upto_region 12 with (fail)
                generalize hww : World.drewN _ _ = ww
                have HOX : Hid (Own ww w2.heap.size 9 1 (some ⟨g4, 0, none⟩) n c4 (l.map encStr)) := hide (by rw [← hww]; exact HOQ.out)
                have HBX : Hid (Below w2.heap.size w2 ww) := hide (by rw [← hww]; exact below_drewN (below_drewN HBQ.out _) _)
                clear hww x2
                have hmx : n + 1 ≤ maxLen := by unfold maxLen; omega
                have hmb : (n + 1) * 16 ≤ 140737488355328 := by omega
                have RR : Hid (Reads (ww.alloc (Obj.cells #[.string ⟨#[]⟩] 9)) (ww.heap.size + 1) 1 (some ⟨ww.heap.size, 0, none⟩) 1 [.string ⟨#[]⟩]) := hide (reads_new ww #[.string ⟨#[]⟩] 9 1 1 rfl)
                have HOA := hide (HOX.out.alloc (Obj.cells #[.string ⟨#[]⟩] 9))
                have HBA := hide (HBX.out.alloc HBX.out.size (Obj.cells #[.string ⟨#[]⟩] 9))
                have HQA : Hid (w2.heap.size ≤ (ww.alloc (Obj.cells #[.string ⟨#[]⟩] 9)).heap.size) := hide HBA.out.size
                clear HOQ HBQ HOX HBX HW
                go_wp2_with (at_builtin; refine wpList_app rfl (.tmp 57) (.tmp 58) 62 rfl w2.heap.size 9 (.string ⟨#[]⟩) 1 16 Tryz.underlying62 str_info rfl (by omega) _ n c4 (l.map encStr) rfl HOA.out _ _ 1 _ _ rfl RR.out (by simp [Value.oneCell']) hmx hmb HQA.out ?_; intro A7 c7 w7 hown7 hbw7 _; have HO7 := hide hown7; have HB7 := hide (HBA.out.trans hbw7); clear hown7 hbw7)
                go_loopw [7] (fun t7 wv => ∃ j : Nat, k ≤ j ∧ j ≤ n ∧ t7 = .int .i64 j ∧ Own wv w2.heap.size 9 1 A7 (n + 1) c7 ((shR l j).map encStr) ∧ Below w2.heap.size w2 wv) (fun t7 _ => (intOf t7).toNat)
                case atStart => exact ⟨n, hk, Nat.le_refl _, by go_num, by rw [← top_row HLN.out]; exact HO7.out, HB7.out⟩
                case round =>
                  clear RR HOA HBA HQA HO7 HB7
                  obtain ⟨j, hkj, hj, rfl, hov, hbv⟩ := hrel
                  have HOV := hide hov
                  have HBV := hide hbv
                  have HSL : Hid ((shR l j).length = n + 1) := hide (by rw [shR_len (by rw [HLN.out]; exact hj), HLN.out])
                  clear hov hbv
                  by_cases hjk : k < j
                  · obtain ⟨j', rfl⟩ : ∃ j', j = j' + 1 := ⟨j - 1, by omega⟩
                    obtain ⟨g7, nb', rfl, hg7, hnb', g0', f0'⟩ := rw_cell HOV.out HSL.out (k := j') (by omega)
                    obtain ⟨g8, nb8, hA8, _, _, g1, f1⟩ := rw_cell HOV.out HSL.out (k := j' + 1) (by omega)
                    injection hA8 with hA8
                    injection hA8 with hA8
                    subst hA8
                    have SET : Hid (Own (wr.setCell ⟨g7, j' + 1, none⟩ (.string nb')) w2.heap.size 9 1 (some ⟨g7, 0, none⟩) (n + 1) c7 ((shR l j').map encStr)) := hide (by
                      have := HOV.out.set (j' + 1) (.string nb')
                      rw [row_set (by rw [HLN.out]; exact hj) hnb'] at this
                      exact this)
                    have SB : Hid (Below w2.heap.size w2 (wr.setCell ⟨g7, j' + 1, none⟩ (.string nb'))) := hide (HBV.out.setCell (p := ⟨g7, j' + 1, none⟩) hg7 _)
                    clear HOV HBV HSL hnb' f0'
                    go_wp2
                    go_roundw
                    case rel => exact ⟨j', by omega, by omega, by go_num, SET.out, SB.out⟩
                    case measure => simp [intOf] <;> omega
                  · obtain rfl : j = k := by omega
                    obtain ⟨g7, nb', rfl, hg7, hnb', g0', f0'⟩ := rw_cell HOV.out HSL.out (k := j) (by omega)
                    have x2 := (HBV.out.cell (p := ⟨be, offe + i * 4 + 2, none⟩) hbe).trans XB.out
                    have SET : Hid (Own (wr.setCell ⟨g7, j, none⟩ (.string x.name)) w2.heap.size 9 1 (some ⟨g7, 0, none⟩) (n + 1) c7 ((l.take j ++ x.name.data.toList :: l.drop j).map encStr)) := hide (by
                      have := HOV.out.set j (.string x.name)
                      rw [← enc_name x.name, ← List.map_set, shR_put (by rw [HLN.out]; exact hj)] at this
                      rw [← enc_name x.name]
                      exact this)
                    have SB : Hid (Below w2.heap.size w2 (wr.setCell ⟨g7, j, none⟩ (.string x.name))) := hide (HBV.out.setCell (p := ⟨g7, j, none⟩) hg7 _)
                    have HLEN : Hid ((l.take j ++ x.name.data.toList :: l.drop j).length = n + 1) := hide (by
                      have := HLN.out
                      rw [List.length_append, List.length_cons, List.length_take, List.length_drop]
                      omega)
                    clear HOV HBV HSL hnb'
                    go_wp2
                    go_roundw
                    case rel => exact ⟨i + 1, n + 1, _, _, c7, by omega, HLEN.out, by go_num, rfl, HP.out, SET.out, SB.out⟩
                    case measure => simp [intOf] <;> omega
          · have HP := hide (HPUT2.out k hk HBEF.out (.inl (by omega)))
            clear HSAME2 HPUT2 HBEF
            have q1 : ((k : Int) == (n : Int)) = true := beq_iff_eq.2 (by omega)
            go_upto_region 9 with (fail)
            go_quiet (fail)
            go_upto_region 11 with (fail)
            go_quiet (fail)
            go_upto_region 12 with (fail)
            generalize hww : World.drewN _ _ = ww
            have HOX : Hid (Own ww w2.heap.size 9 1 A4 n c4 (l.map encStr)) := hide (by rw [← hww]; exact HOQ.out)
            have HBX : Hid (Below w2.heap.size w2 ww) := hide (by rw [← hww]; exact below_drewN (below_drewN HBQ.out _) _)
            clear hww x2
            have hmx : n + 1 ≤ maxLen := by unfold maxLen; omega
            have hmb : (n + 1) * 16 ≤ 140737488355328 := by omega
            have RR : Hid (Reads (ww.alloc (Obj.cells #[.string ⟨#[]⟩] 9)) (ww.heap.size + 1) 1 (some ⟨ww.heap.size, 0, none⟩) 1 [.string ⟨#[]⟩]) := hide (reads_new ww #[.string ⟨#[]⟩] 9 1 1 rfl)
            have HOA := hide (HOX.out.alloc (Obj.cells #[.string ⟨#[]⟩] 9))
            have HBA := hide (HBX.out.alloc HBX.out.size (Obj.cells #[.string ⟨#[]⟩] 9))
            have HQA : Hid (w2.heap.size ≤ (ww.alloc (Obj.cells #[.string ⟨#[]⟩] 9)).heap.size) := hide HBA.out.size
            clear HOQ HBQ HOX HBX HW
            go_wp2_with (at_builtin; refine wpList_app rfl (.tmp 57) (.tmp 58) 62 rfl w2.heap.size 9 (.string ⟨#[]⟩) 1 16 Tryz.underlying62 str_info rfl (by omega) _ n c4 (l.map encStr) rfl HOA.out _ _ 1 _ _ rfl RR.out (by simp [Value.oneCell']) hmx hmb HQA.out ?_; intro A7 c7 w7 hown7 hbw7 _; have HO7 := hide hown7; have HB7 := hide (HBA.out.trans hbw7); clear hown7 hbw7)
            go_loopw [7] (fun t7 wv => ∃ j : Nat, k ≤ j ∧ j ≤ n ∧ t7 = .int .i64 j ∧ Own wv w2.heap.size 9 1 A7 (n + 1) c7 ((shR l j).map encStr) ∧ Below w2.heap.size w2 wv) (fun t7 _ => (intOf t7).toNat)
            case atStart => exact ⟨n, hk, Nat.le_refl _, by go_num, by rw [← top_row HLN.out]; exact HO7.out, HB7.out⟩
            case round =>
              clear RR HOA HBA HQA HO7 HB7
              obtain ⟨j, hkj, hj, rfl, hov, hbv⟩ := hrel
              have HOV := hide hov
              have HBV := hide hbv
              have HSL : Hid ((shR l j).length = n + 1) := hide (by rw [shR_len (by rw [HLN.out]; exact hj), HLN.out])
              clear hov hbv
              by_cases hjk : k < j
              · exfalso; omega
              · obtain rfl : j = k := by omega
                obtain ⟨g7, nb', rfl, hg7, hnb', g0', f0'⟩ := rw_cell HOV.out HSL.out (k := j) (by omega)
                have x2 := (HBV.out.cell (p := ⟨be, offe + i * 4 + 2, none⟩) hbe).trans XB.out
                have SET : Hid (Own (wr.setCell ⟨g7, j, none⟩ (.string x.name)) w2.heap.size 9 1 (some ⟨g7, 0, none⟩) (n + 1) c7 ((l.take j ++ x.name.data.toList :: l.drop j).map encStr)) := hide (by
                  have := HOV.out.set j (.string x.name)
                  rw [← enc_name x.name, ← List.map_set, shR_put (by rw [HLN.out]; exact hj)] at this
                  rw [← enc_name x.name]
                  exact this)
                have SB : Hid (Below w2.heap.size w2 (wr.setCell ⟨g7, j, none⟩ (.string x.name))) := hide (HBV.out.setCell (p := ⟨g7, j, none⟩) hg7 _)
                have HLEN : Hid ((l.take j ++ x.name.data.toList :: l.drop j).length = n + 1) := hide (by
                  have := HLN.out
                  rw [List.length_append, List.length_cons, List.length_take, List.length_drop]
                  omega)
                clear HOV HBV HSL hnb'
                go_wp2
                go_roundw
                case rel => exact ⟨i + 1, n + 1, _, _, c7, by omega, HLEN.out, by go_num, rfl, HP.out, SET.out, SB.out⟩
                case measure => simp [intOf] <;> omega
      · have HS := hide (HSKIP.out ho)
        have e1 : (x.op != 2) = true := bne_iff_ne.2 ho
        go_wp2
        go_roundw
        case rel => exact ⟨i + 1, n, l, A4, c4, by omega, HLN.out, by go_num, rfl, HS.out, HOW.out, HBR.out⟩
        case measure => simp [intOf] <;> omega
    · obtain rfl : i = e.length := by omega
      have HE := hide (nmok_end HOK.out)
      have HEL : Hid ((namesL e).length = n) := hide (by rw [← HE.out]; exact HLN.out)
      have d1 : decide (e.length < e.length) = false := decide_eq_false (Nat.lt_irrefl _)
      clear HOK
      go_wp2
      go_ret2
      exact ⟨A4, c4, by rw [HEL.out]; rfl, by rw [HEL.out, ← HE.out]; exact HOW.out.reads, HB2.out.trans (HBR.out.mono HB2.out.size)⟩
end Go.Proofs.YtkomgidcgepknaaGreatDoor

set_option linter.unusedVariables false
set_option linter.unusedSimpArgs false
namespace Go.Proofs.YtkomgidcgepknaaGreatDoor
open Go.RowKit Go.Deep Go.Maps

theorem kids_few {e : List Nod} (hv : validL e = true) : ∀ x ∈ e, x.kids.length ≤ maxLen := fun x hx => by
  obtain ⟨j, hj, rfl⟩ := List.getElem_of_mem hx
  have h1 := (valid_nodes hv).2.2 j hj
  have hg : e[j] = nodAt e j := by
    have := nodAt_get hj
    rw [List.getElem?_eq_getElem hj] at this
    exact Option.some.inj this
  rw [hg]
  have := formed_kids h1.1
  unfold maxLen
  omega
/-- Both texts of an expression are one. -/
theorem both_texts (e : List Nod) (hn : ∀ x ∈ e, x.name.size ≤ maxLen) (hm : e.length ≤ maxLen) : ∃ (s : ByteArray) (g : Int), s.size ≤ maxLen ∧
    (∀ (A : Option Addr) (c : Nat) (w : World), ExprAt w w.heap.size A e → Pow w → Calls Tryz.prog 29 #[.slice A e.length c] w fun en w' => en = .returned (.tuple #[.string s, .int .i64 g]) ∧ Below w.heap.size w w') ∧
    ∀ (A : Option Addr) (c : Nat) (w : World), ExprAt w w.heap.size A e → Pow w → Calls Tryz.prog 30 #[.slice A e.length c] w fun en w' => en = .returned (.tuple #[.string s, .int .i64 g]) ∧ Below w.heap.size w w' := by
  cases hv : validL e
  · exact ⟨_, _, by decide, fun A c w h ht => text_none A c e w h hn hm hv, fun A c w h ht => rtext_none A c e w h hn hm hv⟩
  · obtain ⟨t, hg, hat, hs, _⟩ := valid_tree hv
    refine ⟨_, _, ?_, fun A c w h ht => text_valid A c e w h hn ht hg hat hv, fun A c w h ht => rtext_valid A c e w h hn hg hat hv⟩
    have := str_len t hg 1
    show (t.str 1).toArray.size ≤ _
    rw [List.size_toArray]
    unfold maxLen
    omega
/-- What both of Names leave. -/
def RowPost (L : List (List UInt8)) (g : Int) (w : World) (en : Ending) (w' : World) : Prop :=
  ∃ A c, en = .returned (.tuple #[.slice A L.length c, .int .i64 g]) ∧ Reads w' w'.heap.size 1 A L.length (L.map encStr) ∧ Below w.heap.size w w'
theorem both_names (e : List Nod) (hn : ∀ x ∈ e, x.name.size ≤ maxLen) (hm : e.length ≤ maxLen) : ∃ (L : List (List UInt8)) (g : Int), L.length ≤ 300 ∧ (∀ k, k < L.length → (rwAt L k).length ≤ maxLen) ∧
    (∀ (A : Option Addr) (c : Nat) (w : World), ExprAt w w.heap.size A e → Calls Tryz.prog 31 #[.slice A e.length c] w (RowPost L g w)) ∧
    ∀ (A : Option Addr) (c : Nat) (w : World), ExprAt w w.heap.size A e → Calls Tryz.prog 32 #[.slice A e.length c] w (RowPost L g w) := by
  cases hv : validL e
  · refine ⟨[], 1, by decide, fun k hk => absurd hk (Nat.not_lt_zero _), fun A c w h => (names_none A c e w h hn hm hv).mono ?_, fun A c w h => (rnames_none A c e w h hn hm hv).mono ?_⟩
    · rintro en w' ⟨rfl, hb⟩
      exact ⟨none, 0, rfl, Reads.none_, hb⟩
    · rintro en w' ⟨rfl, hb⟩
      exact ⟨none, 0, rfl, Reads.none_, hb⟩
  · obtain ⟨t, hg, hat, hs, _⟩ := valid_tree hv
    have h300 : e.length ≤ 300 := by rw [hat, Tr.flat_len]; exact hs
    refine ⟨namesL e, 0, ?_, fun k hk => ?_, fun A c w h => (names_any A c e w h hn hv).mono ?_, fun A c w h => (rnames_any A c e w h hn hv).mono ?_⟩
    · have h1 := raw_len e
      have h2 : (namesL e).length ≤ (namesRaw e).length := compact_le _ _
      omega
    · obtain ⟨y, hy, _, hyn⟩ := names_mem.1 (((names_inv e).2 _).1 (rwAt_mem hk))
      have h1 := hn y hy
      have h3 : y.name.data.toList.length = y.name.size := Array.length_toList
      rw [← hyn, h3]
      exact h1
    · rintro en w' ⟨A', c', rfl, hr, hb⟩
      exact ⟨A', c', rfl, hr, hb⟩
    · rintro en w' ⟨A', c', rfl, hr, hb⟩
      exact ⟨A', c', rfl, hr, hb⟩
theorem row_reads {w : World} {B : Nat} {A : Option Addr} {l : List (List UInt8)} (h : Reads w B 1 A l.length (l.map encStr)) {k : Nat} (hk : k < l.length) :
    ∃ b off, A = some ⟨b, off, none⟩ ∧ b < B ∧ w.cell? ⟨b, off + k, none⟩ = some (.string ⟨(rwAt l k).toArray⟩) := by
  have h0 : (l.map encStr)[0]? = some (encStr (rwAt l 0)) := by
    rw [List.getElem?_map, List.getElem?_eq_getElem (by omega), rwAt_get]
    rfl
  obtain ⟨b, off, hA, hb, hc⟩ := Reads.at1 h (by omega) h0
  refine ⟨b, off, hA, hb, ?_⟩
  exact hc k (encStr (rwAt l k)) (by
    rw [List.getElem?_map, List.getElem?_eq_getElem hk, rwAt_get]
    rfl)
set_option maxHeartbeats 8000000 in
set_option maxRecDepth 20000 in
theorem exprMatches_any (s : ByteArray) (A : Option Addr) (ca : Nat) (a : List Nod) (w : World) (ht : Pow w) (hs : s.size ≤ maxLen)
    (ha : ExprAt w w.heap.size A a) (ma : a.length ≤ maxLen) (na : ∀ x ∈ a, x.name.size ≤ maxLen) (ka : ∀ x ∈ a, x.kids.length ≤ maxLen) :
    Calls Tryz.prog 8 #[.string s, .slice A a.length ca] w fun e w' => e = .returned (.bool true) ∧ Below w.heap.size w w' := by
  have HEA := hide ha
  have HA := hide (And.intro ma (And.intro na ka))
  have HS := hide hs
  have HP := hide ht
  unfold maxLen at ma hs
  clear ha na ka ht
  go_enter Tryz.func8, Tryz.ntmps8
  go_wp2_with fail
  refine (head21_any w HP.out).mono ?_
  rintro en w1 ⟨rfl, hb1⟩
  have HK1 : Hid (ExprAt w1 w1.heap.size A a ∧ Pow w1 ∧ Below w.heap.size w w1) := hide ⟨HEA.out.next hb1, HP.out.below hb1 HP.out.pos, hb1⟩
  have STEP : Hid (∀ w3 w4 : World, (ExprAt w3 w3.heap.size A a ∧ Pow w3 ∧ Below w.heap.size w w3) → Below w3.heap.size w3 w4 → (ExprAt w4 w4.heap.size A a ∧ Pow w4 ∧ Below w.heap.size w w4)) :=
    hide (fun w3 w4 h h3 => ⟨h.1.next h3, h.2.1.below h3 h.2.1.pos, h.2.2.trans (h3.mono h.2.2.size)⟩)
  clear hb1 HEA HP
  obtain ⟨b1, hb1⟩ : ∃ b, decide ((1200 : Int) < (s.size : Int)) = b := ⟨_, rfl⟩
  obtain ⟨b2, hb2⟩ : ∃ b, decide ((s.size : Int) ≤ 20000) = b := ⟨_, rfl⟩
  obtain ⟨b3, hb3⟩ : ∃ b, decide ((21000 : Int) < (s.size : Int)) = b := ⟨_, rfl⟩
  obtain ⟨sz, hsz⟩ : ∃ z : Int, z = (s.size : Int) := ⟨_, rfl⟩
  by_cases hskip : (b1 = true ∧ b2 = true) ∨ b3 = true
  · by_cases h12 : b1 = true ∧ b2 = true
    · obtain ⟨rfl, rfl⟩ := h12
      clear hskip hb3
      go_wp2
      go_ret
      exact ⟨rfl, HK1.out.2.2⟩
    · have h3 : b3 = true := hskip.resolve_left h12
      subst h3
      cases b1
      · go_wp2
        go_ret
        exact ⟨rfl, HK1.out.2.2⟩
      · have h2 : b2 = false := by
          cases b2
          · rfl
          · exact absurd ⟨rfl, rfl⟩ h12
        subst h2
        go_wp2
        go_ret
        exact ⟨rfl, HK1.out.2.2⟩
  · have h3 : b3 = false := by
      cases b3
      · rfl
      · exact absurd (.inr rfl) hskip
    subst h3
    have h12 : (b1 = true ∧ b2 = false) ∨ b1 = false := by
      cases b1
      · exact .inr rfl
      · cases b2
        · exact .inl ⟨rfl, rfl⟩
        · exact absurd (.inl ⟨rfl, rfl⟩) hskip
    clear hskip
    obtain ⟨rfl, rfl⟩ | rfl := h12
    all_goals (
      go_wp2_with fail
      refine (few21_any A ca a w1 HK1.out.1 HA.out.1 HA.out.2.1 HA.out.2.2).mono ?_
      rintro en w' ⟨rfl, rfl⟩
      cases hf1 : few21 a
      · clear hf1
        go_wp2
        go_ret
        exact ⟨rfl, HK1.out.2.2⟩
      · clear hf1 hb1 hb2 hb3
        obtain ⟨r, hr⟩ := parse_is s
        obtain ⟨pv1, pv2⟩ := parse_valid hr
        have HKO : Hid (∀ x ∈ r.out, x.kids.length ≤ maxLen) := hide (by
          by_cases he : r.err = 0
          · exact kids_few (pv1 he)
          · rw [pv2 he]
            intro x hx
            cases hx)
        have HR := hide hr
        clear pv1 pv2 hr
        go_wp2_with fail
        refine (parse_any s w1 HS.out HR.out).mono ?_
        rintro en w2 ⟨A2, c2, rfl, he2, hn2, hl2, hb2⟩
        have HK2 := hide (STEP.out _ _ HK1.out hb2)
        have HX2 := hide he2
        have HN2 := hide hn2
        have HL2 : Hid (r.out.length ≤ maxLen) := hide (by unfold maxLen; omega)
        clear hb2 he2 hn2 HK1
        go_wp2_with fail
        refine (rparse_any s w2 HS.out HR.out).mono ?_
        rintro en w3 ⟨A3, c3, rfl, he3, hn3, hl3, hb3⟩
        have HK3 := hide (STEP.out _ _ HK2.out hb3)
        have HX3 := hide (HX2.out.next hb3)
        have HY3 := hide he3
        clear hb3 he3 hn3 hl3 HK2 HX2 HR
        have PAIR : Hid (∀ w4 w5 : World, (ExprAt w4 w4.heap.size A2 r.out ∧ ExprAt w4 w4.heap.size A3 r.out) → Below w4.heap.size w4 w5 → (ExprAt w5 w5.heap.size A2 r.out ∧ ExprAt w5 w5.heap.size A3 r.out)) := hide (fun w4 w5 h h5 => ⟨h.1.next h5, h.2.next h5⟩)
        have HXY3 : Hid (ExprAt w3 w3.heap.size A2 r.out ∧ ExprAt w3 w3.heap.size A3 r.out) := hide ⟨HX3.out, HY3.out⟩
        clear HX3 HY3
        obtain ⟨ts, tg, hts, htx, hrt⟩ := both_texts a HA.out.2.1 HA.out.1
        have HTX := hide htx
        have HRT := hide hrt
        have HTS := hide hts
        obtain ⟨L, ng, hL3, hLn, hnm, hrn⟩ := both_names a HA.out.2.1 HA.out.1
        have HNM := hide hnm
        have HRN := hide hrn
        have HLN := hide hLn
        clear htx hrt hts hnm hrn hLn
        go_wp2_with fail
        refine (HTX.out A ca w3 HK3.out.1 HK3.out.2.1).mono ?_
        rintro en w4 ⟨rfl, hb4⟩
        have HK4 := hide (STEP.out _ _ HK3.out hb4)
        have HXY4 := hide (PAIR.out _ _ HXY3.out hb4)
        clear hb4 HK3 HXY3
        go_wp2_with fail
        refine (HRT.out A ca w4 HK4.out.1 HK4.out.2.1).mono ?_
        rintro en w5 ⟨rfl, hb5⟩
        have HK5 := hide (STEP.out _ _ HK4.out hb5)
        have HXY5 := hide (PAIR.out _ _ HXY4.out hb5)
        clear hb5 HK4 HXY4 HTX HRT
        go_wp2_with fail
        refine (HNM.out A ca w5 HK5.out.1).mono ?_
        rintro en w6 ⟨A6, c6, rfl, hr6, hb6⟩
        have HK6 := hide (STEP.out _ _ HK5.out hb6)
        have HXY6 := hide (PAIR.out _ _ HXY5.out hb6)
        have HR6 := hide hr6
        clear hb6 HK5 HXY5 hr6
        go_wp2_with fail
        refine (HRN.out A ca w6 HK6.out.1).mono ?_
        rintro en w7 ⟨A7, c7, rfl, hr7, hb7⟩
        have HK7 := hide (STEP.out _ _ HK6.out hb7)
        have HXY7 := hide (PAIR.out _ _ HXY6.out hb7)
        have HR67 := hide ((HR6.out.below hb7).more hb7.size)
        have HR7 := hide hr7
        clear hb7 HK6 HXY6 hr7 HR6 HNM HRN
        obtain ⟨n, hn⟩ : ∃ n, n = L.length := ⟨_, rfl⟩
        have HN := hide hn
        rw [← hn] at hL3 ⊢
        clear hn
        go_wp2
        go_loopw [20] (fun t20 wr => ∃ k : Nat, k ≤ n ∧ t20 = .int .i64 k ∧ ∃ m, wr = w7.drewN m) (fun t20 _ => n - (intOf t20).toNat)
        case atStart => exact ⟨0, Nat.zero_le _, rfl, 0, rfl⟩
        case round =>
          obtain ⟨k, hk, rfl, m, hwm⟩ := hrel
          have HW := hide hwm
          clear hwm
          by_cases hkn : k < n
          · have hkL : k < L.length := by rw [← HN.out]; exact hkn
            obtain ⟨b6, o6, rfl, _, g6⟩ := row_reads HR67.out hkL
            obtain ⟨b7, o7, rfl, _, g7⟩ := row_reads HR7.out hkL
            have g6 : wr.cell? ⟨b6, o6 + k, none⟩ = some (.string ⟨(rwAt L k).toArray⟩) := by rw [HW.out]; exact g6
            have g7 : wr.cell? ⟨b7, o7 + k, none⟩ = some (.string ⟨(rwAt L k).toArray⟩) := by rw [HW.out]; exact g7
            have hz := HLN.out k hkL
            clear hkL
            obtain ⟨nb, hnb⟩ : ∃ nb : ByteArray, nb = ⟨(rwAt L k).toArray⟩ := ⟨_, rfl⟩
            have hnz : nb.size ≤ maxLen := by
              rw [hnb]
              show (rwAt L k).toArray.size ≤ _
              rw [List.size_toArray]
              exact hz
            rw [← hnb] at g6 g7
            clear hnb hz
            go_upto_region 15 with (fail)
            go_quiet (fail)
            go_wp2
            go_roundw
            case rel => exact ⟨k + 1, by omega, by go_num, m + nq, by rw [HW.out, World.drewN_drewN]⟩
            case measure => simp [intOf]; omega
          · obtain rfl : k = n := by omega
            have hbm : Below w7.heap.size w7 wr := by rw [HW.out]; exact below_drewN (Below.refl _ _) m
            have HK8 := hide (STEP.out _ _ HK7.out hbm)
            have HXY8 := hide (PAIR.out _ _ HXY7.out hbm)
            clear hbm HK7 HXY7 HR67 HR7 HW
            have d1 : decide (k < k) = false := decide_eq_false (Nat.lt_irrefl _)
            go_wp2_with fail
            refine (valid_any A ca a wr HK8.out.1 HA.out.2.1 HA.out.1).mono ?_
            rintro en w9 ⟨rfl, hb9⟩
            have HK9 := hide (STEP.out _ _ HK8.out hb9)
            have HXY9 := hide (PAIR.out _ _ HXY8.out hb9)
            clear hb9 HK8 HXY8
            go_wp2_with fail
            refine (refValidE_any A ca a w9 HK9.out.1 HA.out.2.1 HA.out.1).mono ?_
            rintro en w10 ⟨rfl, hb10⟩
            have HK10 := hide (STEP.out _ _ HK9.out hb10)
            have HXY10 := hide (PAIR.out _ _ HXY9.out hb10)
            clear hb10 HK9 HXY9
            generalize validL a = va
            have HSM : Hid (Calls Tryz.prog 35 #[.slice A2 r.out.length c2, .slice A3 r.out.length c3] w10 (SamePost r.out r.out w10)) :=
              hide (same_any A2 c2 r.out A3 c3 r.out w10 HXY10.out.1 HXY10.out.2 HL2.out HL2.out HN2.out HN2.out HKO.out HKO.out)
            have hbe : (va == va) = true := by cases va <;> rfl
            go_wp2_with fail
            refine HSM.out.mono ?_
            rintro en w11 ⟨r7, rfl, hr7, m7, rfl⟩
            have hr7 := hr7.2 rfl
            subst hr7
            have HK11 := hide (STEP.out _ _ HK10.out (below_drewN (Below.refl _ _) m7))
            have HTZ := HTS.out
            go_wp2
            go_ret
            exact ⟨rfl, HK11.out.2.2⟩)
theorem exprMatches_walk (s : ByteArray) (A : Option Addr) (ca : Nat) (a : List Nod) (w : World) (ht : Pow w) (hs : s.size ≤ maxLen)
    (w0 : ExprAt w w.heap.size A a) (m0 : a.length ≤ maxLen) (b0 : ∀ x ∈ a, x.name.size ≤ maxLen ∧ x.kids.length ≤ maxLen ∧ (Lit.int .i64 x.op).wf = true ∧ (Lit.int .i64 x.n).wf = true ∧ ∀ k ∈ x.kids, (Lit.int .i64 k).wf = true) :
    Calls Tryz.prog 8 #[.string s, .slice A a.length ca] w fun e w' => e = .returned (.bool true) ∧ Below w.heap.size w w' :=
  exprMatches_any s A ca a w ht hs w0 m0 (fun x hx => (b0 x hx).1) (fun x hx => (b0 x hx).2.1)
end Go.Proofs.YtkomgidcgepknaaGreatDoor

set_option linter.unusedVariables false
set_option linter.unusedSimpArgs false
namespace Go.Proofs.YtkomgidcgepknaaGreatDoor
open Go.RowKit Go.Deep
theorem pow_of {w : World} (h : laidMetH Tryz.prog [("math/bits.deBruijn32tab", Rows.laid_math_bits_deBruijn32tab), ("math/bits.deBruijn64tab", Rows.laid_math_bits_deBruijn64tab), ("internal/strconv.uint64pow10", Rows.laid_internal_strconv_uint64pow10), ("strconv.ErrRange", Rows.laid_strconv_ErrRange), ("strconv.ErrSyntax", Rows.laid_strconv_ErrSyntax)] w) : Pow w := by
  have h1 := h.filter fun x => x.1 == "internal/strconv.uint64pow10"
  have e1 : ([("math/bits.deBruijn32tab", Rows.laid_math_bits_deBruijn32tab), ("math/bits.deBruijn64tab", Rows.laid_math_bits_deBruijn64tab), ("internal/strconv.uint64pow10", Rows.laid_internal_strconv_uint64pow10), ("strconv.ErrRange", Rows.laid_strconv_ErrRange), ("strconv.ErrSyntax", Rows.laid_strconv_ErrSyntax)] : List (String × DataW Unit)).filter (fun x => x.1 == "internal/strconv.uint64pow10") = [("internal/strconv.uint64pow10", Lib.tabData .u64 Lib.pow10Tab)] := by kernel_rfl
  rw [e1] at h1
  have h2 := (laidMetH_iff.1 h1).1
  have e2 : ([("internal/strconv.uint64pow10", Lib.tabData .u64 Lib.pow10Tab)] : List (String × DataW Unit)).filter (fun x => x.2.handleName?.isNone) = [("internal/strconv.uint64pow10", Lib.tabData .u64 Lib.pow10Tab)] := by kernel_rfl
  rw [e2] at h2
  exact Lib.tabIs_of_head pow_glob (t := 245) (e := 195) (n := 20) (by kernel_rfl) (by kernel_rfl) (by kernel_rfl) (by kernel_rfl) (by kernel_rfl) h2
end Go.Proofs.YtkomgidcgepknaaGreatDoor
