/-
  ExprParts: the walk.
-/
import Derived.Test.YtkofmiegnfgbjaaGreatDoorHd
import Derived.Test.YtkofmiegnfgbjaaGreatDoorSame
import Derived.Test.YtkofmiegnfgbjaaGreatDoorPart
set_option linter.unusedVariables false
set_option linter.unusedSimpArgs false
namespace Go.Proofs.YtkofmiegnfgbjaaGreatDoor
open Go.RowKit Go.Deep Go.Maps

theorem bl_sz (l : List UInt8) : (⟨l.toArray⟩ : ByteArray).size = l.length := by
  show l.toArray.size = _
  exact List.size_toArray
theorem bl_add (l m : List UInt8) : (⟨l.toArray⟩ : ByteArray) ++ ⟨m.toArray⟩ = ⟨(l ++ m).toArray⟩ := ByteArray.mk_append_mk l m
/-- A row of the call's own whose operands lie anywhere is an expression. -/
theorem ExprAt.of_own {w : World} {base : Nat} {A : Option Addr} {c n : Nat} {o : List Nod} {ks : List (Option Addr × Nat)} (h : Own w base 40 4 A n c (cellsN o ks)) (hn : n = o.length) (hk : ks.length = o.length)
    (h3 : ∀ (i : Nat) (x : Nod) (k : Option Addr × Nat), o[i]? = some x → ks[i]? = some k → RI w w.heap.size k.1 x.kids.length x.kids) : ExprAt w w.heap.size A o := ⟨ks, hk, by rw [← hn]; exact h.reads, h3⟩
theorem kids3 {e : List Nod} (hv : validL e = true) : ∀ x ∈ e, x.kids.length ≤ 3 := fun x hx => by
  obtain ⟨j, hj, rfl⟩ := List.getElem_of_mem hx
  have h1 := (valid_nodes hv).2.2 j hj
  rw [nodAt_get' hj]
  exact formed_kids h1.1
/-- The last append of the sum. -/
theorem sum_fin {w5 w7 w8 w9 : World} {a m : List Nod} {ksa ksb : List (Option Addr × Nat)} {A7 A9 : Option Addr} {c7 c9 n1 n2 : Nat} {F : Nat → Prop}
    (h57 : Below w5.heap.size w5 w7) (h78 : Below w7.heap.size w7 w8) (hl7 : ∀ g, (Value.slice A7 n1 c7).ownBlock = some g → w5.heap.size ≤ g ∧ g < w7.heap.size)
    (ka1 : ksa.length = a.length) (ka3 : ∀ (i : Nat) (x : Nod) (k : Option Addr × Nat), a[i]? = some x → ksa[i]? = some k → RI w5 w5.heap.size k.1 x.kids.length x.kids)
    (kb1 : ksb.length = m.length) (kb3 : ∀ (i : Nat) (x : Nod) (k : Option Addr × Nat), m[i]? = some x → ksb[i]? = some k → Own w8 w7.heap.size 3 1 k.1 x.kids.length k.2 (ints x.kids) ∧ ∀ g, (Value.slice k.1 x.kids.length k.2).ownBlock = some g → F g)
    (e1 : n1 = a.length) (e2 : n2 = m.length)
    (hown9 : Own w9 w5.heap.size 40 4 A9 (n1 + n2) c9 (cellsN a ksa ++ cellsN m ksb)) (hg9 : w8.grownBy w9 (Value.slice A7 n1 c7).ownBlock)
    (hat9 : (Value.slice A9 (n1 + n2) c9).ownBlock = (Value.slice A7 n1 c7).ownBlock ∨ (Value.slice A9 (n1 + n2) c9).ownBlock = some w8.heap.size) (z1 z2 : Int) (W10 : World)
    (hW : W10 = (w9.alloc (Obj.cells #[.int .i64 z1, .int .i64 z2] 3)).alloc (Obj.cells #[.int .i64 3, .int .i64 0, .string ⟨#[]⟩, .slice (some ⟨w9.heap.size, 0, none⟩) 2 2] 40)) :
    Own W10 w5.heap.size 40 4 A9 (n1 + n2) c9 (cellsN a ksa ++ cellsN m ksb) ∧
    Reads W10 W10.heap.size 4 (some ⟨w9.heap.size + 1, 0, none⟩) 1 [.int .i64 3, .int .i64 0, .string ⟨#[]⟩, .slice (some ⟨w9.heap.size, 0, none⟩) 2 2] ∧ w5.heap.size ≤ W10.heap.size ∧
    ∀ (A11 : Option Addr) (c11 : Nat) (w11 : World), Own w11 w5.heap.size 40 4 A11 (n1 + n2 + 1) c11 (cellsN a ksa ++ cellsN m ksb ++ [.int .i64 3, .int .i64 0, .string ⟨#[]⟩, .slice (some ⟨w9.heap.size, 0, none⟩) 2 2]) → W10.grownBy w11 (Value.slice A9 (n1 + n2) c9).ownBlock →
      ExprAt w11 w11.heap.size A11 (a ++ m ++ [⟨3, 0, ByteArray.empty, [z1, z2]⟩]) ∧ Below w5.heap.size w5 w11 := by
  subst e1 e2
  have h58 : Below w5.heap.size w5 w8 := h57.trans (h78.mono h57.size)
  have h89 : Below w5.heap.size w8 w9 := (Below.refl _ _).grown hg9 h58.size (fun k hk => (hl7 k hk).1)
  have h9a : Below w9.heap.size w9 (w9.alloc (Obj.cells #[.int .i64 z1, .int .i64 z2] 3)) := (Below.refl _ _).alloc (Nat.le_refl _) _
  have h9b : Below w9.heap.size w9 W10 := by
    rw [hW]
    exact h9a.alloc h9a.size _
  have h59 : Below w5.heap.size w5 w9 := h58.trans h89
  have h510 : Below w5.heap.size w5 W10 := h59.trans (h9b.mono h59.size)
  have hlt9 : ∀ g, (Value.slice A9 (a.length + m.length) c9).ownBlock = some g → w5.heap.size ≤ g ∧ g < w9.heap.size := fun g hg => World.ownsRow.lt hown9 g hg
  have hs9 : w8.heap.size ≤ w9.heap.size := h89.size
  have hz : (w9.alloc (Obj.cells #[.int .i64 z1, .int .i64 z2] 3)).heap.size = w9.heap.size + 1 := by rw [World.size_alloc]
  refine ⟨hown9.below h9b, ?_, h510.size, fun A11 c11 w11 hown11 hg11 => ?_⟩
  · have := reads_new (w9.alloc (Obj.cells #[.int .i64 z1, .int .i64 z2] 3)) #[.int .i64 3, .int .i64 0, .string ⟨#[]⟩, .slice (some ⟨w9.heap.size, 0, none⟩) 2 2] 40 4 1 rfl
    rw [hz] at this
    rw [hW]
    exact Reads.more this (by rw [World.size_alloc, hz]; omega)
  · have h1011 : Below w5.heap.size W10 w11 := (Below.refl _ _).grown hg11 h510.size (fun k hk => (hlt9 k hk).1)
    have h511 := h510.trans h1011
    refine ⟨ExprAt.of_own (base := w5.heap.size) (c := c11) (ks := ksa ++ ksb ++ [(some ⟨w9.heap.size, 0, none⟩, 2)]) (n := a.length + m.length + 1) ?_ (by simp; omega) (by simp [ka1, kb1]) ?_, h511⟩
    · rw [cellsN_snoc _ _ _ _ (by simp [ka1, kb1]), cellsN_app _ _ _ _ ka1]
      exact hown11
    · intro i x k hx hk
      by_cases h1 : i < a.length
      · rw [List.append_assoc, List.getElem?_append_left h1] at hx
        rw [List.append_assoc, List.getElem?_append_left (by omega)] at hk
        exact ((ka3 i x k hx hk).keep (fun p hp => h511.cell hp)).more h511.size
      · by_cases h2 : i < a.length + m.length
        · rw [List.getElem?_append_left (by simp; omega), List.getElem?_append_right (by omega)] at hx
          rw [List.getElem?_append_left (by simp; omega), List.getElem?_append_right (by omega), ka1] at hk
          obtain ⟨ho, _⟩ := kb3 _ x k hx hk
          have ho9 : Own w9 w7.heap.size 3 1 k.1 x.kids.length k.2 (ints x.kids) := ho.keepB (fun g hgk => hg9.block g (World.ownsRow.lt ho g hgk.symm).2 (fun h => by
            have := (World.ownsRow.lt ho g hgk.symm).1
            have := (hl7 g h.symm).2
            omega))
          have ho10 := ho9.below h9b
          have ho11 : Own w11 w7.heap.size 3 1 k.1 x.kids.length k.2 (ints x.kids) := ho10.keepB (fun g hgk => hg11.block g (World.ownsRow.lt ho10 g hgk.symm).2 (fun h => by
            have g1 := (World.ownsRow.lt ho g hgk.symm)
            rcases hat9 with e | e
            · have := (hl7 g (e.symm.trans h.symm)).2
              omega
            · have := h.trans e
              injection this with this
              omega))
          exact Own.ri ho11
        · have hi : i = a.length + m.length := by
            have := (List.getElem?_eq_some_iff.1 hx).1
            simp at this
            omega
          subst hi
          rw [List.getElem?_append_right (by simp)] at hx
          rw [List.getElem?_append_right (by simp [ka1, kb1])] at hk
          simp at hx
          simp [ka1, kb1] at hk
          subst hx hk
          have ho : Own (w9.alloc (Obj.cells #[.int .i64 z1, .int .i64 z2] 3)) w9.heap.size 3 1 (some ⟨w9.heap.size, 0, none⟩) 2 2 (ints [z1, z2]) := Own.of_lit w9 #[.int .i64 z1, .int .i64 z2] 2 (Nat.le_refl _) (by decide) rfl
          have ho10 : Own W10 w9.heap.size 3 1 (some ⟨w9.heap.size, 0, none⟩) 2 2 (ints [z1, z2]) := by
            rw [hW]
            exact ho.alloc _
          have ho11 : Own w11 w9.heap.size 3 1 (some ⟨w9.heap.size, 0, none⟩) 2 2 (ints [z1, z2]) := ho10.keepB (fun g hgk => hg11.block g (World.ownsRow.lt ho10 g hgk.symm).2 (fun h => by
            have g1 := (World.ownsRow.lt ho10 g hgk.symm).1
            have := (hlt9 g h.symm).2
            omega))
          exact Own.ri ho11
set_option maxHeartbeats 8000000 in
set_option maxRecDepth 20000 in
theorem exprParts_any (A : Option Addr) (ca : Nat) (a : List Nod) (B : Option Addr) (cb : Nat) (b : List Nod) (r : Int) (w : World) (ht : Pow w)
    (ha : ExprAt w w.heap.size A a) (hb : ExprAt w w.heap.size B b) (ma : a.length ≤ maxLen) (mb : b.length ≤ maxLen) (hr : 0 ≤ r ∧ r ≤ 255) (hca : a.length ≤ ca) (hcm : ca ≤ maxLen)
    (na : ∀ x ∈ a, x.name.size ≤ maxLen) (nb : ∀ x ∈ b, x.name.size ≤ maxLen) (ka : ∀ x ∈ a, x.kids.length ≤ maxLen) (kb : ∀ x ∈ b, x.kids.length ≤ maxLen) :
    Calls Tryz.prog 4 #[.slice A a.length ca, .slice B b.length cb, .int .u8 r] w fun e w' => e = .returned (.bool true) ∧ Below w.heap.size w w' := by
  have HEA := hide ha
  have HEB := hide hb
  have HA := hide (And.intro ma (And.intro na ka))
  have HB := hide (And.intro mb (And.intro nb kb))
  have HCA := hide (And.intro hca hcm)
  have HP := hide ht
  obtain ⟨hr0, hr1⟩ := hr
  unfold maxLen at ma mb
  clear ha hb na nb ka kb ht hca hcm
  go_enter Tryz.func4, Tryz.ntmps4
  go_wp2_with fail
  refine (head21_any w HP.out).mono ?_
  rintro en w1 ⟨rfl, hb1⟩
  have HE1 := hide (HEA.out.next hb1)
  have HE2 := hide (HEB.out.next hb1)
  have HB1 := hide hb1
  have HP1 := hide (HP.out.below hb1 HP.out.pos)
  clear hb1 HEA HEB HP
  go_wp2_with fail
  refine (few21_any A ca a w1 HE1.out HA.out.1 HA.out.2.1 HA.out.2.2).mono ?_
  rintro en w' ⟨rfl, rfl⟩
  cases hf1 : few21 a
  · clear hf1
    go_wp2
    go_ret
    exact ⟨rfl, HB1.out⟩
  · have HF1 := hide hf1
    clear hf1
    go_wp2_with fail
    refine (few21_any B cb b w1 HE2.out HB.out.1 HB.out.2.1 HB.out.2.2).mono ?_
    rintro en w' ⟨rfl, rfl⟩
    cases hf2 : few21 b
    · clear hf2
      go_wp2
      go_ret
      exact ⟨rfl, HB1.out⟩
    · have HF2 := hide hf2
      clear hf2
      have STEP : Hid (∀ w3 w4 : World, (ExprAt w3 w3.heap.size A a ∧ ExprAt w3 w3.heap.size B b ∧ Pow w3 ∧ Below w.heap.size w w3) → Below w3.heap.size w3 w4 → (ExprAt w4 w4.heap.size A a ∧ ExprAt w4 w4.heap.size B b ∧ Pow w4 ∧ Below w.heap.size w w4)) :=
          hide (fun w3 w4 h h3 => ⟨h.1.next h3, h.2.1.next h3, h.2.2.1.below h3 h.2.2.1.pos, h.2.2.2.trans (h3.mono h.2.2.2.size)⟩)
      have H1 : Hid (ExprAt w1 w1.heap.size A a ∧ ExprAt w1 w1.heap.size B b ∧ Pow w1 ∧ Below w.heap.size w w1) := ⟨HE1.out, HE2.out, HP1.out, HB1.out⟩
      clear HE1 HE2 HP1 HB1
      go_wp2_with fail
      refine (valid_any A ca a w1 H1.out.1 HA.out.2.1 HA.out.1).mono ?_
      rintro en w2 ⟨rfl, hb2⟩
      have H2 := hide (STEP.out _ _ H1.out hb2)
      clear hb2 H1
      cases hva : validL a
      · clear hva
        go_wp2
        go_ret
        exact ⟨rfl, H2.out.2.2.2⟩
      · have HVA := hide hva
        clear hva
        go_wp2_with fail
        refine (valid_any B cb b w2 H2.out.2.1 HB.out.2.1 HB.out.1).mono ?_
        rintro en w3 ⟨rfl, hb3⟩
        have H3 := hide (STEP.out _ _ H2.out hb3)
        clear hb3 H2
        cases hvb : validL b
        · clear hvb
          go_wp2
          go_ret
          exact ⟨rfl, H3.out.2.2.2⟩
        · have HVB := hide hvb
          clear hvb
          obtain ⟨ta, hga, hat, hsa, hda⟩ := valid_tree HVA.out
          obtain ⟨tb, hgb, hbt, hsb, hdb⟩ := valid_tree HVB.out
          have hla : a.length = ta.size := by rw [hat, Tr.flat_len]
          have hlb : b.length = tb.size := by rw [hbt, Tr.flat_len]
          have hpa := ta.size_pos
          have hpb := tb.size_pos
          have hla1 : 1 ≤ a.length := by omega
          have hlb1 : 1 ≤ b.length := by omega
          have hla3 : a.length ≤ 300 := by omega
          have hlb3 : b.length ≤ 300 := by omega
          have HGA := hide hga
          have HGB := hide hgb
          have HAT := hide hat
          have HBT := hide hbt
          clear hat hbt hga hgb hla hlb hpa hpb
          have e1 : ((a.length : Int) == 0) = false := beq_eq_false_iff_ne.2 (by omega)
          have e2 : ((b.length : Int) == 0) = false := beq_eq_false_iff_ne.2 (by omega)
          obtain ⟨j, hj⟩ : ∃ j : Nat, Int.tmod r (a.length : Int) = j ∧ j < a.length := by
            have h0 : 0 ≤ Int.tmod r (a.length : Int) := Int.tmod_nonneg _ hr0
            have h1 : Int.tmod r (a.length : Int) < (a.length : Int) := Int.tmod_lt_of_pos r (by omega)
            exact ⟨(Int.tmod r (a.length : Int)).toNat, by omega, by omega⟩
          obtain ⟨hj1, hj2⟩ := hj
          have HHJ := hide hj2
          go_wp2_with fail
          refine (part_any A ca a j w3 H3.out.1 HVA.out HHJ.out HA.out.2.1 HCA.out.1 HCA.out.2).mono ?_
          rintro en w4 ⟨A4, c4, l, rfl, hexl, hvl, hnl, hb4⟩
          have H4 := hide (STEP.out _ _ H3.out hb4)
          have HXL := hide hexl
          have HVL := hide hvl
          have HNL := hide hnl
          have hl3 : l.length ≤ 300 := by
            obtain ⟨t, _, h2, h3, _⟩ := valid_tree hvl
            rw [h2, Tr.flat_len]
            exact h3
          clear hb4 H3 hexl hvl hnl hj1 hj2 HHJ
          go_wp2_with fail
          refine (valid_any A4 c4 l w4 HXL.out HNL.out (by unfold maxLen; omega)).mono ?_
          rintro en w5 ⟨rfl, hb5⟩
          have H5 := hide (STEP.out _ _ H4.out hb5)
          rw [HVL.out]
          clear hb5 H4 HXL HVL HNL hl3
          go_upto_region 6 with (fail)
          have hb6 : Below w5.heap.size w5 (w5.alloc (Obj.cells #[] 40)) := (Below.refl _ _).alloc (Nat.le_refl _) _
          have HO6 : Hid (Own (w5.alloc (Obj.cells #[] 40)) w5.heap.size 40 4 (some ⟨w5.heap.size, 0, none⟩) 0 0 []) := hide (Own.of_lit w5 #[] 0 (Nat.le_refl _) (Nat.zero_le _) rfl)
          have H6 := hide (STEP.out _ _ H5.out hb6)
          have HB6 := hide hb6
          have hq6 := hb6.size
          clear hb6
          obtain ⟨ksa, ka1, ka2, ka3⟩ := H5.out.1
          have KA1 := hide ka1
          have RA := hide ((ka2.keep (fun p hp => HB6.out.cell hp)).more hq6)
          have KA3 := hide ka3
          clear ka1 ka2 ka3
          have hmx1 : 0 + a.length ≤ maxLen := by unfold maxLen; omega
          have hby1 : (0 + a.length) * 56 ≤ 140737488355328 := by omega
          go_wp2_with (at_builtin; refine wpList_app rfl (.tmp 55) (.tmp 56) 23 rfl w5.heap.size 40 (.agg #[.int .i64 0, .int .i64 0, .string ByteArray.empty, .slice none 0 0]) 4 56 Tryz.underlying23 nod_info rfl (by omega) _ 0 0 [] rfl HO6.out _ _ a.length _ (cellsN a ksa) rfl RA.out (cellsN_one _ _) hmx1 hby1 hq6 ?_; intro A7 c7 w7 hown7 hb7 _; rw [Nat.zero_add, List.nil_append] at hown7; rw [Nat.zero_add]; have HO7 := hide hown7; have HB7 := hide hb7; clear hown7 hb7)
          have hz7 := HB7.out.size
          have HB57 : Hid (Below w5.heap.size w5 w7) := hide (HB6.out.trans HB7.out)
          have H7 := hide (STEP.out _ _ H5.out HB57.out)
          clear HB6 H6 HO6 RA HB7 hmx1 hby1
          generalize w5.alloc (Obj.cells #[] 40) = w6 at hq6 hz7
          refine (moved_any B cb b (a.length : Int) w7 H7.out.2.1 (by omega) (fun x hx => ?_)).mono ?_
          · have := kids3 HVB.out x hx
            omega
          rintro en w8 ⟨A8, c8, F, rfl, hnod, hb8⟩
          have HB8 := hide hb8
          have hz8 := hb8.size
          have HO8 := hide (HO7.out.below hb8)
          have HLT7 := hide (fun g (hg : (Value.slice A7 a.length c7).ownBlock = some g) => (World.ownsRow.lt HO7.out g hg))
          obtain ⟨ksb, kb1, kb2, kb3⟩ := hnod
          have hml : (b.map (shiftW (a.length : Int))).length = b.length := by simp
          rw [hml] at kb1 kb2
          have KB1 := hide kb1
          have RB := hide kb2.reads
          have KB3 := hide kb3
          have HML := hide hml
          clear hb8 kb1 kb2 kb3 hml HO7
          have hmx2 : a.length + b.length ≤ maxLen := by unfold maxLen; omega
          have hby2 : (a.length + b.length) * 56 ≤ 140737488355328 := by omega
          have hq8 : w5.heap.size ≤ w8.heap.size := by omega
          have FIN9 := hide (fun (A9 : Option Addr) (c9 : Nat) (w9 : World) h1 h2 h3 (W10 : World) h4 => sum_fin (a := a) (m := b.map (shiftW (a.length : Int))) (n1 := a.length) (n2 := b.length) (c9 := c9) (A9 := A9) (w9 := w9) HB57.out HB8.out HLT7.out KA1.out KA3.out (KB1.out.trans HML.out.symm) KB3.out rfl HML.out.symm h1 h2 h3 ((a.length : Int) - 1) ((a.length : Int) + (b.length : Int) - 1) W10 h4)
          have hmx3 : a.length + b.length + 1 ≤ maxLen := by unfold maxLen; omega
          have hby3 : (a.length + b.length + 1) * 56 ≤ 140737488355328 := by omega
          have hab1 : IntKind.i64.wrap ((a.length : Int) + (b.length : Int)) = (a.length : Int) + (b.length : Int) := by rw [IntWalk.i64_left]; exact IntWalk.wrap64_in _ (by omega)
          have hab2 : IntKind.i64.wrap ((a.length : Int) + (b.length : Int) - 1) = (a.length : Int) + (b.length : Int) - 1 := by rw [IntWalk.i64_left]; exact IntWalk.wrap64_in _ (by omega)
          clear KA1 KA3 KB1 KB3 HML HB8 HLT7
          go_wp2_with (first
            | (at_builtin; refine wpList_appK rfl (.tmp 57) (.tmp 61) 23 rfl w5.heap.size 40 (.agg #[.int .i64 0, .int .i64 0, .string ByteArray.empty, .slice none 0 0]) 4 56 Tryz.underlying23 nod_info rfl (by omega) A7 a.length c7 (cellsN a ksa) rfl HO8.out _ _ b.length _ (cellsN (b.map (shiftW (a.length : Int))) ksb) rfl RB.out (cellsN_one _ _) hmx2 hby2 hq8 ?_; intro A9 c9 w9 hown9 hg9 hat9; have HF9 := hide (FIN9.out A9 c9 w9 hown9 hg9 hat9 _ rfl); clear hown9 hg9 hat9)
            | (at_builtin; refine wpList_appK rfl (.tmp 62) (.tmp 74) 23 rfl w5.heap.size 40 (.agg #[.int .i64 0, .int .i64 0, .string ByteArray.empty, .slice none 0 0]) 4 56 Tryz.underlying23 nod_info rfl (by omega) A9 (a.length + b.length) c9 _ rfl HF9.out.1 _ _ 1 _ _ rfl HF9.out.2.1 (by simp [Value.oneCell']) hmx3 hby3 HF9.out.2.2.1 ?_; intro A11 c11 w11 hown11 hg11 _; have HF11 := hide (HF9.out.2.2.2 A11 c11 w11 hown11 hg11); clear hown11 hg11))
          obtain ⟨hsum0, hb511⟩ := HF11.out
          have H11 := hide (STEP.out _ _ H5.out hb511)
          have hsl : a ++ b.map (shiftW (a.length : Int)) ++ [⟨3, 0, ByteArray.empty, [(a.length : Int) - 1, (a.length : Int) + (b.length : Int) - 1]⟩] = (Tr.bin 3 ta tb).flat 0 := by
            rw [← sum_tree HGB.out, ← HAT.out, ← HBT.out]
            unfold sumL
            rw [shiftW_map (fun x hx z hz => by
              obtain ⟨j, hj, rfl⟩ := List.getElem_of_mem hx
              have h1 := (valid_nodes HVB.out).2.2 j hj
              rw [nodAt_get' hj] at hz
              have := h1.2 z hz
              omega)]
            congr 4
          rw [hsl] at hsum0
          have hsn : ∀ x ∈ (Tr.bin 3 ta tb).flat 0, x.name.size ≤ maxLen := by
            rw [← hsl]
            intro x hx
            rcases List.mem_append.1 hx with hx | hx
            · rcases List.mem_append.1 hx with hx | hx
              · exact HA.out.2.1 x hx
              · obtain ⟨y, hy, rfl⟩ := List.mem_map.1 hx
                exact HB.out.2.1 y hy
            · rw [List.mem_singleton.1 hx]
              exact Nat.zero_le _
          have hskk : ∀ x ∈ (Tr.bin 3 ta tb).flat 0, x.kids.length ≤ maxLen := by
            rw [← hsl]
            intro x hx
            rcases List.mem_append.1 hx with hx | hx
            · rcases List.mem_append.1 hx with hx | hx
              · exact HA.out.2.2 x hx
              · obtain ⟨y, hy, rfl⟩ := List.mem_map.1 hx
                show (y.kids.map _).length ≤ _
                rw [List.length_map]
                exact HB.out.2.2 y hy
            · rw [List.mem_singleton.1 hx]
              show 2 ≤ _
              decide
          have hsll : ((Tr.bin 3 ta tb).flat 0).length = a.length + b.length + 1 := by
            rw [← hsl]
            simp
            omega
          have hpar := sum_parse HGA.out HGB.out hsa hsb
          obtain ⟨sm, hsm⟩ : ∃ sm, sm = (Tr.bin 3 ta tb).flat 0 := ⟨_, rfl⟩
          rw [← hsm] at hsum0 hsn hskk hsll hpar
          have HS11 := hide hsum0
          have HSN := hide hsn
          have HSK := hide hskk
          have HSL := hide hsll
          have HPAR := hide hpar
          have sa := str_len ta HGA.out 1
          have sb := str_len tb HGB.out 1
          have HML : Hid (sm.length ≤ maxLen) := hide (by unfold maxLen; omega)
          rw [← hsll]
          clear hsll
          clear hsum0 hb511 HF11 HF9 FIN9 HO8 RB H5 H7 HB57 hsl hsn hskk hpar hsm hmx2 hby2 hmx3 hby3 hab1 hab2 hq8 hq6 hz7 hz8
          refine (text_valid A ca a w11 H11.out.1 HA.out.2.1 H11.out.2.2.1 HGA.out HAT.out HVA.out).mono ?_
          rintro en w12 ⟨rfl, hb12⟩
          have HS12 := hide (HS11.out.next hb12)
          have H12 := hide (STEP.out _ _ H11.out hb12)
          clear hb12 HS11 H11
          go_wp2_with fail
          refine (text_valid B cb b w12 H12.out.2.1 HB.out.2.1 H12.out.2.2.1 HGB.out HBT.out HVB.out).mono ?_
          rintro en w13 ⟨rfl, hb13⟩
          have HS13 := hide (HS12.out.next hb13)
          have H13 := hide (STEP.out _ _ H12.out hb13)
          clear hb13 HS12 H12
          obtain ⟨s, hs⟩ : ∃ s, s = ta.str 1 := ⟨_, rfl⟩
          obtain ⟨t, ht⟩ : ∃ t, t = tb.str 1 := ⟨_, rfl⟩
          rw [← hs] at HPAR sa ⊢
          rw [← ht] at HPAR sb ⊢
          have s1 : ∀ w : World, (Op.stringOp .add ⟨#[40]⟩ ⟨s.toArray⟩).run Tryz.prog w = .ok (.string ⟨(40 :: s).toArray⟩) w := fun w => by
            rw [run_string_add_sum w _ _ (by simp only [bl_sz, List.length_cons, List.length_nil]; omega)]
            rw [show (⟨#[40]⟩ : ByteArray) = ⟨[40].toArray⟩ from rfl, bl_add]
            try rfl
          have s2 : ∀ w : World, (Op.stringOp .add ⟨(40 :: s).toArray⟩ ⟨#[41, 32, 43, 32, 40]⟩).run Tryz.prog w = .ok (.string ⟨(40 :: (s ++ [41, 32, 43, 32, 40])).toArray⟩) w := fun w => by
            rw [run_string_add_sum w _ _ (by simp only [bl_sz, List.length_cons, List.length_nil]; omega)]
            rw [show (⟨#[41, 32, 43, 32, 40]⟩ : ByteArray) = ⟨[41, 32, 43, 32, 40].toArray⟩ from rfl, bl_add]
            try rfl
          have s3 : ∀ w : World, (Op.stringOp .add ⟨(40 :: (s ++ [41, 32, 43, 32, 40])).toArray⟩ ⟨t.toArray⟩).run Tryz.prog w = .ok (.string ⟨(40 :: (s ++ [41, 32, 43, 32, 40]) ++ t).toArray⟩) w := fun w => by
            rw [run_string_add_sum w _ _ (by simp only [bl_sz, List.length_cons, List.length_nil, List.length_append]; omega), bl_add]
          have hss : sumS s t = (40 :: (s ++ [41, 32, 43, 32, 40]) ++ t) ++ [41] := by
            unfold sumS
            simp
          have HSS := hide hss
          have s4 : ∀ w : World, (Op.stringOp .add ⟨(40 :: (s ++ [41, 32, 43, 32, 40]) ++ t).toArray⟩ ⟨#[41]⟩).run Tryz.prog w = .ok (.string ⟨(sumS s t).toArray⟩) w := fun w => by
            rw [run_string_add_sum w _ _ (by simp only [bl_sz, List.length_cons, List.length_nil, List.length_append]; omega)]
            rw [show (⟨#[41]⟩ : ByteArray) = ⟨[41].toArray⟩ from rfl, bl_add, HSS.out]
          have HSZ : Hid ((⟨(sumS s t).toArray⟩ : ByteArray).size ≤ maxLen) := hide (by
            rw [bl_sz, HSS.out]
            simp only [List.length_cons, List.length_append, List.length_nil]
            unfold maxLen
            omega)
          obtain ⟨p1, hp1⟩ : ∃ p : ByteArray, p = ⟨(40 :: s).toArray⟩ := ⟨_, rfl⟩
          obtain ⟨p2, hp2⟩ : ∃ p : ByteArray, p = ⟨(40 :: (s ++ [41, 32, 43, 32, 40])).toArray⟩ := ⟨_, rfl⟩
          obtain ⟨p3, hp3⟩ : ∃ p : ByteArray, p = ⟨(40 :: (s ++ [41, 32, 43, 32, 40]) ++ t).toArray⟩ := ⟨_, rfl⟩
          obtain ⟨p4, hp4⟩ : ∃ p : ByteArray, p = ⟨(sumS s t).toArray⟩ := ⟨_, rfl⟩
          obtain ⟨q1, hq1⟩ : ∃ p : ByteArray, p = ⟨s.toArray⟩ := ⟨_, rfl⟩
          obtain ⟨q2, hq2⟩ : ∃ p : ByteArray, p = ⟨t.toArray⟩ := ⟨_, rfl⟩
          rw [← hp4] at HSZ HPAR s4
          rw [← hp3] at s3 s4
          rw [← hp2] at s2 s3
          rw [← hp1] at s1 s2
          rw [← hq1] at s1 ⊢
          rw [← hq2] at s3 ⊢
          clear hs ht hss HSS hp1 hp2 hp3 hp4 hq1 hq2
          go_wp2_with fail
          clear s1 s2 s3 s4
          refine (parse_any _ w13 HSZ.out HPAR.out).mono ?_
          rintro en w14 ⟨A14, c14, rfl, he14, hn14, hl14, hb14⟩
          have HS14 := hide (HS13.out.next hb14)
          have H14 := hide (STEP.out _ _ H13.out hb14)
          have HE14 := hide he14
          have HN14 := hide hn14
          clear hb14 HS13 H13 he14 hn14 hl14
          cases hvs : validL sm
          · have HVS := hide hvs
            (try rw [hvs] at HE14); (try rw [hvs] at HN14)
            rw [if_neg (by decide)] at HE14 HN14
            simp only [if_neg (show ¬ (false = true) by decide)]
            clear hvs
            go_wp2_with fail
            refine (valid_any A11 c11 sm w14 HS14.out HSN.out HML.out).mono ?_
            rintro en w15 ⟨rfl, hb15⟩
            have H15 := hide (STEP.out _ _ H14.out hb15)
            rw [HVS.out]
            clear hb15
            go_wp2
            go_ret
            exact ⟨rfl, H15.out.2.2.2⟩
          · have HVS := hide hvs
            (try rw [hvs] at HE14); (try rw [hvs] at HN14)
            rw [if_pos rfl] at HE14 HN14
            simp only [if_pos (show true = true from rfl)]
            clear hvs
            dsimp only at HE14 HN14 ⊢
            go_wp2_with fail
            refine (valid_any A11 c11 sm w14 HS14.out HSN.out HML.out).mono ?_
            rintro en w15 ⟨rfl, hb15⟩
            have HS15 := hide (HS14.out.next hb15)
            have HE15 := hide (HE14.out.next hb15)
            have H15 := hide (STEP.out _ _ H14.out hb15)
            rw [HVS.out]
            clear hb15 HS14 HE14 H14
            go_wp2_with fail
            refine (same_any A14 c14 sm A11 c11 sm w15 HE15.out HS15.out HML.out HML.out HSN.out HSN.out HSK.out HSK.out).mono ?_
            rintro en w16 ⟨r16, rfl, hr16, m16, rfl⟩
            have hr16 := hr16.2 rfl
            subst hr16
            have H16 := hide (below_drewN H15.out.2.2.2 m16)
            go_wp2
            go_ret
            exact ⟨rfl, H16.out⟩
theorem u8_in' {z : Int} (h : (Lit.int .u8 z).wf = true) : 0 ≤ z ∧ z ≤ 255 := by
  simp only [Lit.wf, Bool.and_eq_true, IntKind.min, IntKind.max] at h
  simpa [IntKind.signed, IntKind.bits] using h
theorem exprParts_walk (A : Option Addr) (ca : Nat) (a : List Nod) (B : Option Addr) (cb : Nat) (b : List Nod) (r : Int) (w : World) (ht : Pow w)
    (x0 : a.length ≤ ca ∧ ca ≤ maxLen) (w0 : ExprAt w w.heap.size A a) (m0 : a.length ≤ maxLen) (b0 : ∀ x ∈ a, x.name.size ≤ maxLen ∧ x.kids.length ≤ maxLen ∧ (Lit.int .i64 x.op).wf = true ∧ (Lit.int .i64 x.n).wf = true ∧ ∀ k ∈ x.kids, (Lit.int .i64 k).wf = true)
    (w1 : ExprAt w w.heap.size B b) (m1 : b.length ≤ maxLen) (b1 : ∀ x ∈ b, x.name.size ≤ maxLen ∧ x.kids.length ≤ maxLen ∧ (Lit.int .i64 x.op).wf = true ∧ (Lit.int .i64 x.n).wf = true ∧ ∀ k ∈ x.kids, (Lit.int .i64 k).wf = true)
    (w2 : (Lit.int .u8 r).wf = true) :
    Calls Tryz.prog 4 #[.slice A a.length ca, .slice B b.length cb, .int .u8 r] w fun e w' => e = .returned (.bool true) ∧ Below w.heap.size w w' :=
  exprParts_any A ca a B cb b r w ht w0 w1 m0 m1 (u8_in' w2) x0.1 x0.2 (fun x hx => (b0 x hx).1) (fun x hx => (b1 x hx).1) (fun x hx => (b0 x hx).2.1) (fun x hx => (b1 x hx).2.1)
end Go.Proofs.YtkofmiegnfgbjaaGreatDoor
