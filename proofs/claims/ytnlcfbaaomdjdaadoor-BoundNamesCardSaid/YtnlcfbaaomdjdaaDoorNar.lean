/-
  Chapter 22, BoundNarrower: the walk.
-/
import Derived.Test.YtnlcfbaaomdjdaaDoorNarP
import Derived.Test.YtnlcfbaaomdjdaaDoorApp
set_option linter.unusedVariables false
set_option linter.unusedSimpArgs false
namespace Go.Proofs.YtnlcfbaaomdjdaaDoor
open Go.RowKit Go.Deep Go.Maps

theorem cellsR_set (r : Rng) : ∀ (l : List Rng) (k : Nat), (((cellsR l).set (k * 3) (.string r.name)).set (k * 3 + 1) (.int .i64 r.low)).set (k * 3 + 2) (.int .i64 r.high) = cellsR (l.set k r)
  | [], k => rfl
  | x :: l, 0 => rfl
  | x :: l, k + 1 => by
    have := cellsR_set r l k
    rw [show (k + 1) * 3 = (k * 3) + 1 + 1 + 1 from by omega]
    have hc : ∀ (y : Rng) (m : List Rng), cellsR (y :: m) = .string y.name :: .int .i64 y.low :: .int .i64 y.high :: cellsR m := fun _ _ => rfl
    rw [List.set_cons_succ, hc, hc]
    simp only [List.set_cons_succ]
    rw [← this]
theorem rng_info : (Tryd.prog.info? 34).map (fun i => (i.zero, i.size, i.bytes)) = some (some (.agg #[.string ByteArray.empty, .int .i64 0, .int .i64 0]), 3, 32) := by kernel_rfl
/-- What holds of a world in the midst of the law's walk. -/
structure MidR (w0 : World) (k : Nat) (b off : Nat) (r : Rng) (w : World) : Prop where
  bel : Below w0.heap.size w0 w
  c0 : w.cell? ⟨b, off + k * 3, none⟩ = some (.string r.name)
  c1 : w.cell? ⟨b, off + k * 3 + 1, none⟩ = some (.int .i64 r.low)
  c2 : w.cell? ⟨b, off + k * 3 + 2, none⟩ = some (.int .i64 r.high)
  lt : b < w0.heap.size
theorem MidR.next {w0 w w' : World} {k b off : Nat} {r : Rng} (h : MidR w0 k b off r w) (hb : Below w.heap.size w w') : MidR w0 k b off r w' := by
  have hs := h.bel.size
  have hl := h.lt
  exact ⟨h.bel.trans (hb.mono hs), (hb.cell (p := ⟨b, off + k * 3, none⟩) (show b < _ by omega)).trans h.c0, (hb.cell (p := ⟨b, off + k * 3 + 1, none⟩) (show b < _ by omega)).trans h.c1,
    (hb.cell (p := ⟨b, off + k * 3 + 2, none⟩) (show b < _ by omega)).trans h.c2, hl⟩
theorem MidR.drew {w0 w : World} {k b off : Nat} {r : Rng} (h : MidR w0 k b off r w) : MidR w0 k b off r w.drew := ⟨h.bel.drew, h.c0, h.c1, h.c2, h.lt⟩
theorem MidR.three {w0 w : World} {k b off : Nat} {r : Rng} (h : MidR w0 k b off r w) : w.cell? ⟨b, off + k * 3, none⟩ = some (.string r.name) ∧ w.cell? ⟨b, off + k * 3 + 1, none⟩ = some (.int .i64 r.low) ∧ w.cell? ⟨b, off + k * 3 + 2, none⟩ = some (.int .i64 r.high) := ⟨h.c0, h.c1, h.c2⟩
theorem value_mid {w0 w : World} {k b off : Nat} {r : Rng} (h : MidR w0 k b off r w) (raw : Int) (hraw : 0 ≤ raw ∧ raw ≤ 65535) (hr : inB r.low ∧ inB r.high ∧ r.low ≤ r.high) :
    Calls Tryd.prog 12 #[.agg #[.string r.name, .int .i64 r.low, .int .i64 r.high], .int .u16 raw] w fun e w' => e = .returned (.int .i64 (valueL r raw)) ∧ MidR w0 k b off r w' :=
  (value_any r raw hraw hr.1.1 hr.2.1.2 hr.2.2 w).mono fun e w' ⟨he, hb⟩ => ⟨he, h.next hb⟩

set_option maxHeartbeats 8000000 in
set_option maxRecDepth 20000 in
theorem narrower_any (A : Option Addr) (c : Nat) (e : List Nod) (A2 : Option Addr) (n2 c2 : Nat) (l : List Rng) (pick x y : Int) (hp : 0 ≤ pick ∧ pick ≤ 255) (hx : 0 ≤ x ∧ x ≤ 65535) (hy : 0 ≤ y ∧ y ≤ 65535) (w : World)
    (he : ExprAt w w.heap.size A e) (hem : e.length ≤ maxLen) (hl : RRg w w.heap.size A2 n2 l) (hln : n2 ≤ maxLen)
    (hen : ∀ x ∈ e, x.name.size ≤ maxLen) (hrn : ∀ r ∈ l, r.name.size ≤ maxLen) (hkn : ∀ x ∈ e, x.kids.length ≤ maxLen) :
    Calls Tryd.prog 5 #[.slice A e.length c, .slice A2 n2 c2, .int .u8 pick, .int .u16 x, .int .u16 y] w fun en w' => en = .returned (.bool true) ∧ Below w.heap.size w w' := by
  have HE := hide he
  have HL := hide hl
  have HEN := hide hen
  have HRN := hide hrn
  have HKN := hide hkn
  have HLN := hide hl.len
  have HEM := hide hem
  have HLM := hide hln
  have HX := hide hx
  have HY := hide hy
  unfold maxLen at hem hln
  clear he hl hen hrn hkn
  go_enter Tryd.func5, Tryd.ntmps5
  go_wp2_with fail
  refine (head_any w).mono ?_
  rintro en w1 ⟨rfl, hb1⟩
  have HE1 := hide (HE.out.next hb1)
  have HL1 := hide (HL.out.next hb1)
  go_wp2_with fail
  refine (few_any A c e A2 n2 c2 l w1 HE1.out HEM.out HL1.out HLM.out HEN.out HRN.out HKN.out).mono ?_
  rintro en w2 ⟨rfl, rfl⟩
  cases hfew : fewL e l
  · have HB1 := hide hb1
    clear hb1
    go_wp2
    go_ret
    exact ⟨rfl, HB1.out⟩
  · have HFW := hide hfew
    clear hfew
    by_cases hn0 : n2 = 0
    · have HB1 := hide hb1
      subst hn0
      clear hb1
      go_wp2
      go_ret
      exact ⟨rfl, HB1.out⟩
    · have hn0' : ((n2 : Int) == 0) = false := beq_eq_false_iff_ne.2 (by omega)
      have hn0'' : (n2 == 0) = false := beq_eq_false_iff_ne.2 hn0
      have hn0''' : decide (n2 = 0) = false := decide_eq_false hn0
      go_wp2_with fail
      refine (bounds_any A c e A2 n2 c2 l w1 HE1.out HEN.out HEM.out HL1.out HLM.out HRN.out).mono ?_
      rintro en w2 ⟨rfl, hb2⟩
      have HE2 := hide (HE1.out.next hb2)
      have HL2 := hide (HL1.out.next hb2)
      have HB2 := hide (hb1.trans (hb2.mono hb1.size))
      obtain ⟨res, hres⟩ : ∃ res, res = boundsL e l := ⟨_, rfl⟩
      rw [← hres]
      have HRES := hide hres.symm
      clear hb1 hb2 HE1 HL1 HE HL hres
      obtain ⟨lo, hi, err⟩ := res
      dsimp only
      by_cases herr : err = 0
      · subst herr
        have hv := (bounds_ok HRES.out).1
        obtain ⟨k, hk⟩ : ∃ k : Nat, pick % (n2 : Int) = k := ⟨(pick % (n2 : Int)).toNat, by have := Int.emod_nonneg pick (show (n2 : Int) ≠ 0 by omega); omega⟩
        have hkn : k < n2 := by have := Int.emod_lt_of_pos pick (show (0 : Int) < n2 by omega); omega
        have HK := hide hk
        obtain ⟨b, off, rfl, hb, g0, g1, g2⟩ := HL2.out.at_ hkn
        have HGET := hide (rngAt_get (rs := l) (i := k) (by rw [HLN.out]; exact hkn))
        have hRV := valid_mem hv (List.mem_of_getElem? HGET.out)
        generalize rngAt l k = r at g0 g1 g2 HGET hRV
        have HRV := hide hRV
        clear hRV hv hk
        have M0 : Hid (MidR w2 k b off r w2) := ⟨Below.refl _ _, g0, g1, g2, hb⟩
        go_upto_region 8 with (fail)
        rw [HK.out]
        have S0 := hide (MidR.three M0.out.drew)
        have hlen12 : n2 ≤ 12 := by
          have := (few_out HFW.out).2.1
          have := HLN.out
          omega
        have ik0 : (0 : Int) ≤ (k : Int) := by omega
        have ik1 : (k : Int) < (n2 : Int) := by omega
        clear g0 g1 g2
        go_region_held3 (fun w' => w'.cell? ⟨b, off + k * 3, none⟩ = some (.string r.name) ∧ w'.cell? ⟨b, off + k * 3 + 1, none⟩ = some (.int .i64 r.low) ∧ w'.cell? ⟨b, off + k * 3 + 2, none⟩ = some (.int .i64 r.high))
          (first | exact S0.out | exact S1.out | exact S2.out)
          (first
            | (go_at_call_of 12 (Value.int .u16 y); refine (value_mid M1.out y HY.out HRV.out.2).mono ?_; rintro en w4 ⟨rfl, m2⟩; have M2 := hide m2; have S2 := hide m2.three; clear m2)
            | (go_at_call_of 12 (Value.int .u16 x); refine (value_mid M0.out.drew x HX.out HRV.out.2).mono ?_; rintro en w3 ⟨rfl, m1⟩; have M1 := hide m1; have S1 := hide m1.three; clear m1))
        have HV1 := hide (value_in (raw := x) HRV.out.2.2.2)
        have HV2 := hide (value_in (raw := y) HRV.out.2.2.2)
        have H4 := hide (HL2.out.below M2.out.bel)
        have HB4 := hide (HB2.out.trans (M2.out.bel.mono HB2.out.size))
        have HM2 := hide M2.out
        generalize valueL r x = va at HV1 ⊢
        generalize valueL r y = vb at HV2 ⊢
        have HO := hide (Own.of_lit (base := w4.heap.size) (e := 34) (size := 3) w4 #[] 0 (Nat.le_refl _) (by simp [maxLen]) rfl)
        have HZ : Hid (RRg (w4.alloc (Obj.cells #[] 34)) w2.heap.size (some ⟨b, off, none⟩) n2 l) := hide (H4.out.keep (fun p hp => World.cell?_alloc_lt w4 _ p (Nat.lt_of_lt_of_le hp HM2.out.bel.size)))
        clear S0 S1 S2 M0 M1 M2
        have hb5' := HB4.out.size
        go_upto_region 10 with ((
          at_builtin
          refine wpList_app rfl (.tmp 60) (.tmp 61) _ rfl w4.heap.size 34 _ 3 32 Tryd.underlying24 rng_info rfl (by omega) (some ⟨w4.heap.size, 0, none⟩) 0 0 _ rfl HO.out w2.heap.size (some ⟨b, off, none⟩) n2 c2 (cellsR l) rfl HZ.out (cellsR_one _) (by unfold maxLen; omega) (by omega) (by simp) ?_
          intro A6 c6 w6 hown hbw _
          rw [Nat.zero_add, List.nil_append] at hown
          have HOW := hide hown
          have HBW := hide hbw
          rw [Nat.zero_add]
          clear hown hbw))
        have hb04 : Below w4.heap.size w4 w6 := ((Below.refl w4.heap.size w4).alloc (Nat.le_refl _) (.cells #[] 34)).trans HBW.out
        have M6 := hide (HM2.out.next hb04)
        have HB6 := hide (HB4.out.trans (hb04.mono hb5'))
        obtain ⟨g, cap, hv, hgb, hgl⟩ := World.ownsRow.form HOW.out (by omega)
        injection hv with hA _ hc
        subst hA
        subst hc
        have hcell := World.ownsRow.cells HOW.out (g := g) rfl
        obtain ⟨q0, q1, q2⟩ := cellsR_get l k HGET.out
        have k0 := hcell _ _ q0
        have k1 := hcell _ _ q1
        have k2 := hcell _ _ q2
        rw [add_lit, Nat.zero_add] at k0 k1 k2
        have f0 := World.ownsRow.frozenAt HOW.out (k * 3)
        have f1 := World.ownsRow.frozenAt HOW.out (k * 3 + 1)
        have f2 := World.ownsRow.frozenAt HOW.out (k * 3 + 2)
        have g0 : w6.cell? ⟨b, off + k * 3, none⟩ = some (.string r.name) := M6.out.c0
        have o1 := (World.ownsRow.stored HOW.out (k * 3) (.string r.name)).1
        have o2 := (World.ownsRow.stored o1 (k * 3 + 1) (.int .i64 (min va vb))).1
        have o3 := (World.ownsRow.stored o2 (k * 3 + 2) (.int .i64 (max va vb))).1
        rw [show (((cellsR l).set (k * 3) (.string r.name)).set (k * 3 + 1) (.int .i64 (min va vb))).set (k * 3 + 2) (.int .i64 (max va vb)) = cellsR (l.set k ⟨r.name, min va vb, max va vb⟩) from cellsR_set ⟨r.name, min va vb, max va vb⟩ l k] at o3
        have O3 := hide o3
        have hgw : w.heap.size ≤ g := by omega
        have HB7 := hide (((HB6.out.setCell (p := ⟨g, k * 3, none⟩) hgw (.string r.name)).setCell (p := ⟨g, k * 3 + 1, none⟩) hgw (.int .i64 (min va vb))).setCell (p := ⟨g, k * 3 + 2, none⟩) hgw (.int .i64 (max va vb)))
        have hg2 : w2.heap.size ≤ g := by have := HM2.out.bel.size; omega
        have HE7 := hide (HE2.out.below ((((M6.out.bel).setCell (p := ⟨g, k * 3, none⟩) hg2 (.string r.name)).setCell (p := ⟨g, k * 3 + 1, none⟩) hg2 (.int .i64 (min va vb))).setCell (p := ⟨g, k * 3 + 2, none⟩) hg2 (.int .i64 (max va vb))))
        have hs6 := M6.out.bel.size
        clear o1 o2 o3 hcell q0 q1 q2 HO HZ H4 HM2 HBW HOW M6 HB6 HB4
        go_upto_region 11 with (fail)
        obtain ⟨w7, hw7⟩ : ∃ w7, w7 = ((w6.setCell ⟨g, k * 3, none⟩ (.string r.name)).setCell ⟨g, k * 3 + 1, none⟩ (.int .i64 (min va vb))).setCell ⟨g, k * 3 + 2, none⟩ (.int .i64 (max va vb)) := ⟨_, rfl⟩
        rw [← hw7] at O3 HB7 HE7 ⊢
        clear hw7 k0 k1 k2 f0 f1 f2 g0
        have hl7 : w2.heap.size ≤ w7.heap.size := by
          have := (World.ownsRow.lt O3.out g rfl).2
          omega
        have HE8 := hide (HE7.out.more hl7)
        have HR8 : Hid (RRg w7 w7.heap.size (some ⟨g, 0, none⟩) n2 (l.set k ⟨r.name, min va vb, max va vb⟩)) := hide (Own.reads O3.out)
        have HRN8 : Hid (∀ r' ∈ l.set k ⟨r.name, min va vb, max va vb⟩, r'.name.size ≤ maxLen) := hide (fun r' hr' => by
          rcases List.mem_or_eq_of_mem_set hr' with h | h
          · exact HRN.out _ h
          · rw [h]
            exact HRN.out r (List.mem_of_getElem? HGET.out))
        obtain ⟨lo2, hi2, h1, h2, h3, h4⟩ := narrow_plain HRES.out HGET.out HV1.out HV2.out
        have H1 := hide h1
        have d1 : decide (lo ≤ lo2) = true := decide_eq_true h2
        have d2 : decide (lo2 ≤ hi2) = true := decide_eq_true h3
        have d3 : decide (hi2 ≤ hi) = true := decide_eq_true h4
        have hw8 := HB7.out.size
        clear h1 HE7 O3 HL2 HE2 HRES HV1 HV2
        go_wp2_with fail
        refine (bounds_any A c e (some ⟨g, 0, none⟩) n2 c6 _ w7 HE8.out HEN.out HEM.out HR8.out HLM.out HRN8.out).mono ?_
        rintro en w8 ⟨rfl, hb8⟩
        rw [H1.out]
        dsimp only
        have HB8 := hide (HB7.out.trans (hb8.mono hw8))
        clear hb8 HR8 HE8 HRN8 HB7
        go_wp2
        go_ret
        exact ⟨rfl, HB8.out⟩
      · have herr' : (err != 0) = true := bne_iff_ne.2 herr
        go_wp2
        go_ret
        exact ⟨rfl, HB2.out⟩
theorem u8_in {z : Int} (h : (Lit.int .u8 z).wf = true) : 0 ≤ z ∧ z ≤ 255 := by
  simp only [Lit.wf, Bool.and_eq_true, IntKind.min, IntKind.max] at h
  simpa [IntKind.signed, IntKind.bits] using h
theorem u16_in {z : Int} (h : (Lit.int .u16 z).wf = true) : 0 ≤ z ∧ z ≤ 65535 := by
  simp only [Lit.wf, Bool.and_eq_true, IntKind.min, IntKind.max] at h
  simpa [IntKind.signed, IntKind.bits] using h
theorem narrower_walk (A : Option Addr) (c : Nat) (e : List Nod) (A2 : Option Addr) (n2 c2 : Nat) (l : List Rng) (pick x y : Int) (w : World) (w0 : ExprAt w w.heap.size A e) (m0 : e.length ≤ maxLen)
    (b0 : ∀ x ∈ e, x.name.size ≤ maxLen ∧ x.kids.length ≤ maxLen ∧ (Lit.int .i64 x.op).wf = true ∧ (Lit.int .i64 x.n).wf = true ∧ ∀ k ∈ x.kids, (Lit.int .i64 k).wf = true) (w1 : RRg w w.heap.size A2 n2 l) (m1 : n2 ≤ maxLen)
    (b1 : ∀ r ∈ l, r.name.size ≤ maxLen ∧ (Lit.int .i64 r.low).wf = true ∧ (Lit.int .i64 r.high).wf = true) (w2 : (Lit.int .u8 pick).wf = true) (w3 : (Lit.int .u16 x).wf = true) (w4 : (Lit.int .u16 y).wf = true) :
    Calls Tryd.prog 5 #[.slice A e.length c, .slice A2 n2 c2, .int .u8 pick, .int .u16 x, .int .u16 y] w fun en w' => en = .returned (.bool true) ∧ Below w.heap.size w w' :=
  narrower_any A c e A2 n2 c2 l pick x y (u8_in w2) (u16_in w3) (u16_in w4) w w0 m0 w1 m1 (fun x hx => (b0 x hx).1) (fun r hr => (b1 r hr).1) (fun x hx => (b0 x hx).2.1)
end Go.Proofs.YtnlcfbaaomdjdaaDoor
