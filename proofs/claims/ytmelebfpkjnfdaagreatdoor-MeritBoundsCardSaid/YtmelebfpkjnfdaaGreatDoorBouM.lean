/-
  MeritBounds: the walk.
-/
import Derived.Test.YtmelebfpkjnfdaaGreatDoorHeadM
import Derived.Test.YtmelebfpkjnfdaaGreatDoorFewB
import Derived.Test.YtmelebfpkjnfdaaGreatDoorBndO
import Derived.Test.YtmelebfpkjnfdaaGreatDoorMerB
import Derived.Test.YtmelebfpkjnfdaaGreatDoorLiftK
set_option linter.unusedVariables false
set_option linter.unusedSimpArgs false
namespace Go.Proofs.YtmelebfpkjnfdaaGreatDoor
open Go.RowKit Go.Deep Go.Maps

theorem u16_wf {z : Int} (h : (Lit.int .u16 z).wf = true) : 0 ≤ z ∧ z ≤ 65535 := by
  simp only [Lit.wf, Bool.and_eq_true, IntKind.min, IntKind.max] at h
  simpa [IntKind.signed, IntKind.bits] using h
theorem i64_wf {z : Int} (h : (Lit.int .i64 z).wf = true) : -9223372036854775808 ≤ z ∧ z ≤ 9223372036854775807 := by
  simp only [Lit.wf, Bool.and_eq_true, IntKind.min, IntKind.max] at h
  simpa [IntKind.signed, IntKind.bits] using h
theorem rng_info : (Tryz.prog.info? 38).map (fun i => (i.zero, i.size, i.bytes)) = some (some (.agg #[.string ByteArray.empty, .int .i64 0, .int .i64 0]), 3, 32) := by kernel_rfl
/-- How far the ranges reach below and above. -/
def beW (ws : List Int) (i : Nat) : Int := nth ws i % 64
def abW (ws : List Int) (i : Nat) : Int := nth ws i / 64
theorem beab {ws : List Int} (h : ∀ x ∈ ws, 0 ≤ x ∧ x ≤ 65535) (i : Nat) : 0 ≤ beW ws i ∧ beW ws i ≤ 100000 ∧ 0 ≤ abW ws i ∧ abW ws i ≤ 100000 := by
  have : 0 ≤ nth ws i ∧ nth ws i ≤ 65535 := by
    by_cases hi : i < ws.length
    · exact h _ (nth_mem hi)
    · unfold nth
      rw [List.getD_eq_getElem?_getD, List.getElem?_eq_none (by omega)]
      simp
  unfold beW abW
  omega
theorem around_take {l : List Vr} {be ab : Nat → Int} {i : Nat} (h : i < l.length) : (aroundL l be ab).take (i + 1) = (aroundL l be ab).take i ++ [⟨(vrAt l i).name, wrap64 ((vrAt l i).val - be i), wrap64 ((vrAt l i).val + ab i)⟩] := by
  rw [List.take_add_one, around_at h]
  rfl
theorem around_names {l : List Vr} {be ab : Nat → Int} (h : ∀ r ∈ l, r.name.size ≤ maxLen) : ∀ r ∈ aroundL l be ab, r.name.size ≤ maxLen := by
  intro r hr
  unfold aroundL at hr
  obtain ⟨i, hi, rfl⟩ := List.mem_map.1 hr
  exact h _ (List.mem_of_getElem? (vrAt_get (List.mem_range.1 hi)))

set_option maxHeartbeats 8000000 in
set_option maxRecDepth 20000 in
theorem mbounds_any (A : Option Addr) (c : Nat) (e : List Nod) (L : Option Addr) (n cl : Nat) (l : List Vr) (W : Option Addr) (m cw : Nat) (ws : List Int) (w : World)
    (he : ExprAt w w.heap.size A e) (hem : e.length ≤ maxLen) (hen : ∀ x ∈ e, x.name.size ≤ maxLen) (hkn : ∀ x ∈ e, x.kids.length ≤ maxLen)
    (hl : RVr w w.heap.size L n l) (hln : n ≤ maxLen) (hrn : ∀ r ∈ l, r.name.size ≤ maxLen) (hvw : ∀ r ∈ l, -9223372036854775808 ≤ r.val ∧ r.val ≤ 9223372036854775807)
    (hr : RK .u16 w w.heap.size W m ws) (hm : m ≤ maxLen) (hrw : ∀ x ∈ ws, 0 ≤ x ∧ x ≤ 65535) :
    Calls Tryz.prog 4 #[.slice A e.length c, .slice L n cl, .slice W m cw] w fun en w' => en = .returned (.bool true) ∧ Below w.heap.size w w' := by
  have HE := hide he
  have HL := hide hl
  have HR := hide hr
  have HEM := hide hem
  have HEN := hide hen
  have HKN := hide hkn
  have HLM := hide hln
  have HRN := hide hrn
  have HLN := hide hl.len
  have HRL := hide hr.len
  have HRW := hide hrw
  have HVW := hide hvw
  have HBA := hide (beab hrw)
  unfold maxLen at hem hln hm
  clear he hl hen hrn hkn hr hrw hvw
  go_enter Tryz.func4, Tryz.ntmps4
  go_wp2_with fail
  refine (head_any w).mono ?_
  rintro en w1 ⟨rfl, hb1⟩
  have HE1 := hide (HE.out.next hb1)
  have HL1 := hide (HL.out.next hb1)
  have HR1 := hide (HR.out.next hb1)
  have HB1 := hide hb1
  clear hb1 HE HL HR
  go_wp2_with fail
  refine (few_any A c e L n cl l w1 HE1.out HEM.out HL1.out HLM.out HEN.out HRN.out HKN.out).mono ?_
  rintro en w' ⟨rfl, rfl⟩
  cases hfew : few23 e l
  · clear hfew
    go_wp2
    go_ret
    exact ⟨rfl, HB1.out⟩
  · have hl12 : n ≤ 12 := by
      have := (few23_out hfew).2.2.2.1
      have := HLN.out
      omega
    clear hfew
    go_wp2
    go_loopw [8, 9] (fun t8 t9 wr => ∃ (i : Nat) (A8 : Option Addr) (c8 : Nat), i ≤ n ∧ t9 = .int .i64 i ∧ t8 = .slice A8 i c8 ∧ Own wr w1.heap.size 38 3 A8 i c8 (cellsR ((aroundL l (beW ws) (abW ws)).take i)) ∧ Below w1.heap.size w1 wr) (fun _ t9 _ => n - (intOf t9).toNat)
    case atStart => exact ⟨0, none, 0, Nat.zero_le _, rfl, rfl, Own.nil _ _ _ _, Below.refl _ _⟩
    case round =>
      obtain ⟨i, A8, c8, hi, rfl, rfl, hown, hbr⟩ := hrel
      have HOW := hide hown
      have HBR := hide hbr
      by_cases hlt : i < n
      · obtain ⟨bl, offl, rfl, hbl, g0, g1⟩ := (HL1.out.below hbr).at_ hlt
        have HT := hide (around_take (l := l) (be := beW ws) (ab := abW ws) (i := i) (by rw [HLN.out]; exact hlt))
        have hval := HVW.out _ (List.mem_of_getElem? (vrAt_get (l := l) (i := i) (by rw [HLN.out]; exact hlt)))
        have hba := HBA.out i
        clear hown hbr
        generalize vrAt l i = v at g0 g1 HT hval
        by_cases hk : i < m
        · obtain ⟨b3, off3, rfl, hb3, gx⟩ := (RK.below HR1.out HBR.out).at_ hk
          have hxb : 0 ≤ nth ws i ∧ nth ws i ≤ 65535 := HRW.out _ (nth_mem (by rw [HRL.out]; exact hk))
          have HBE : Hid (beW ws i = nth ws i % 64 ∧ abW ws i = nth ws i / 64) := ⟨rfl, rfl⟩
          generalize nth ws i = x at gx hxb HBE
          have hx64 : 0 ≤ x % 64 ∧ x % 64 ≤ 64 ∧ 0 ≤ x / 64 ∧ x / 64 ≤ 2000 := by omega
          go_upto_region 10 with (fail)
          go_quiet (fail)
          generalize x % 64 = be at HBE hx64 ⊢
          generalize x / 64 = ab at HBE hx64 ⊢
          obtain ⟨hx1, hx2, hx3, hx4⟩ := hx64
          obtain ⟨lo, hlo⟩ : ∃ lo, lo = wrap64 (v.val - be) := ⟨_, rfl⟩
          obtain ⟨hi', hhi⟩ : ∃ h, h = wrap64 (v.val + ab) := ⟨_, rfl⟩
          have HTT : Hid ((aroundL l (beW ws) (abW ws)).take (i + 1) = (aroundL l (beW ws) (abW ws)).take i ++ [⟨v.name, lo, hi'⟩]) := hide (by rw [HT.out, HBE.out.1, HBE.out.2, hlo, hhi])
          have hw1 : IntKind.i64.wrap (v.val - be) = lo := by rw [IntWalk.i64_left, hlo]
          have hw2 : IntKind.i64.wrap (v.val + ab) = hi' := by rw [IntWalk.i64_left, hhi]
          have HOW2 := hide (HOW.out.drewN nq)
          have HBR2 := hide (below_drewN HBR.out nq)
          have HG01 := hide (show ∀ wq : World, Below w1.heap.size w1 wq → wq.cell? ⟨bl, offl + i * 2, none⟩ = some (.string v.name) ∧ wq.cell? ⟨bl, offl + i * 2 + 1, none⟩ = some (.int .i64 v.val) from fun wq hb => ⟨((hb.cell (p := ⟨bl, offl + i * 2, none⟩) hbl).trans (HBR.out.cell (p := ⟨bl, offl + i * 2, none⟩) hbl).symm).trans g0, ((hb.cell (p := ⟨bl, offl + i * 2 + 1, none⟩) hbl).trans (HBR.out.cell (p := ⟨bl, offl + i * 2 + 1, none⟩) hbl).symm).trans g1⟩)
          clear hlo hhi HT HBE hba HOW HBR gx hxb
          obtain ⟨w2, hw2'⟩ : ∃ w2, w2 = wr.drewN nq := ⟨_, rfl⟩
          rw [← hw2'] at HOW2 HBR2 ⊢
          have g0 : w2.cell? ⟨bl, offl + i * 2, none⟩ = some (.string v.name) := (HG01.out w2 HBR2.out).1
          have g1 : w2.cell? ⟨bl, offl + i * 2 + 1, none⟩ = some (.int .i64 v.val) := (HG01.out w2 HBR2.out).2
          clear hw2'
          have HOA : Hid (Own (w2.alloc (Obj.cells #[.string v.name, .int .i64 lo, .int .i64 hi'] 38)).drew w1.heap.size 38 3 A8 i c8 (cellsR ((aroundL l (beW ws) (abW ws)).take i))) := hide ((HOW2.out.alloc _).below (Below.drew (Below.refl _ _)))
          have HBA2 : Hid (Below w1.heap.size w1 (w2.alloc (Obj.cells #[.string v.name, .int .i64 lo, .int .i64 hi'] 38)).drew) := hide ((HBR2.out.alloc HBR2.out.size _).drew)
          have RR : Hid (Reads (w2.alloc (Obj.cells #[.string v.name, .int .i64 lo, .int .i64 hi'] 38)).drew (w2.heap.size + 1) 3 (some ⟨w2.heap.size, 0, none⟩) 1 (cellsR [⟨v.name, lo, hi'⟩])) := hide (reads_new w2 _ 38 3 1 rfl)
          have S0 : Hid (w2.drew.cell? ⟨bl, offl + i * 2, none⟩ = some (.string v.name) ∧ w2.drew.cell? ⟨bl, offl + i * 2 + 1, none⟩ = some (.int .i64 v.val)) := ⟨g0, g1⟩
          have hmx : i + 1 ≤ maxLen := by unfold maxLen; omega
          have hq5 : w1.heap.size ≤ (w2.alloc (Obj.cells #[.string v.name, .int .i64 lo, .int .i64 hi'] 38)).drew.heap.size := HBA2.out.size
          go_upto_region 11 with (fail)
          go_region_held3 (fun w' => w'.cell? ⟨bl, offl + i * 2, none⟩ = some (.string v.name) ∧ w'.cell? ⟨bl, offl + i * 2 + 1, none⟩ = some (.int .i64 v.val)) (first | go_keep | exact S0.out | exact S1.out)
            (first
              | (refine step_app (by rfl) (.tmp 45) (.tmp 66) 33 (by rfl) w1.heap.size 38 _ 3 32 Tryz.underlying33 rng_info (by rfl) (by omega) A8 i c8 _ (by rfl) (by exact HOA.out) _ _ 1 _ (cellsR [⟨v.name, lo, hi'⟩]) (by rfl) (by exact RR.out) (cellsR_one _) hmx (by omega) hq5 ?_; intro A9 c9 w9 hown9 hb9; rw [← cellsR_append] at hown9; have HO9 := hide hown9; have HB9 := hide (HBA2.out.trans hb9); have S1 : Hid (w9.cell? ⟨bl, offl + i * 2, none⟩ = some (.string v.name) ∧ w9.cell? ⟨bl, offl + i * 2 + 1, none⟩ = some (.int .i64 v.val)) := HG01.out w9 (HBA2.out.trans hb9); clear hown9 hb9))
          go_wp2
          go_roundw
          case rel => exact ⟨i + 1, A9, c9, by omega, by go_num, rfl, by rw [HTT.out]; exact HO9.out, HB9.out⟩
          case measure => simp [intOf]; omega
        · have HBE : Hid (beW ws i = 0 ∧ abW ws i = 0) := by
            have : nth ws i = 0 := by
              unfold nth
              rw [List.getD_eq_getElem?_getD, List.getElem?_eq_none (by rw [HRL.out]; omega)]
              rfl
            show beW ws i = 0 ∧ abW ws i = 0
            unfold beW abW
            rw [this]
            decide
          have HTT : Hid ((aroundL l (beW ws) (abW ws)).take (i + 1) = (aroundL l (beW ws) (abW ws)).take i ++ [⟨v.name, v.val, v.val⟩]) := hide (by
            rw [HT.out, HBE.out.1, HBE.out.2]
            have e1 : wrap64 (v.val - 0) = v.val := by rw [Int.sub_zero]; exact IntWalk.wrap64_in _ hval
            have e2 : wrap64 (v.val + 0) = v.val := by rw [Int.add_zero]; exact IntWalk.wrap64_in _ hval
            rw [e1, e2])
          have HOW2 := hide HOW.out
          have HBR2 := hide HBR.out
          have HG01 := hide (show ∀ wq : World, Below w1.heap.size w1 wq → wq.cell? ⟨bl, offl + i * 2, none⟩ = some (.string v.name) ∧ wq.cell? ⟨bl, offl + i * 2 + 1, none⟩ = some (.int .i64 v.val) from fun wq hb => ⟨((hb.cell (p := ⟨bl, offl + i * 2, none⟩) hbl).trans (HBR.out.cell (p := ⟨bl, offl + i * 2, none⟩) hbl).symm).trans g0, ((hb.cell (p := ⟨bl, offl + i * 2 + 1, none⟩) hbl).trans (HBR.out.cell (p := ⟨bl, offl + i * 2 + 1, none⟩) hbl).symm).trans g1⟩)
          obtain ⟨hv1, hv2⟩ := hval
          have hwv : IntKind.i64.wrap v.val = v.val := IntWalk.i64_in _ ⟨hv1, hv2⟩
          clear HT HBE hba HOW HBR
          have HOA : Hid (Own (wr.alloc (Obj.cells #[.string v.name, .int .i64 v.val, .int .i64 v.val] 38)).drew w1.heap.size 38 3 A8 i c8 (cellsR ((aroundL l (beW ws) (abW ws)).take i))) := hide ((HOW2.out.alloc _).below (Below.drew (Below.refl _ _)))
          have HBA2 : Hid (Below w1.heap.size w1 (wr.alloc (Obj.cells #[.string v.name, .int .i64 v.val, .int .i64 v.val] 38)).drew) := hide ((HBR2.out.alloc HBR2.out.size _).drew)
          have RR : Hid (Reads (wr.alloc (Obj.cells #[.string v.name, .int .i64 v.val, .int .i64 v.val] 38)).drew (wr.heap.size + 1) 3 (some ⟨wr.heap.size, 0, none⟩) 1 (cellsR [⟨v.name, v.val, v.val⟩])) := hide (reads_new wr _ 38 3 1 rfl)
          have S0 : Hid (wr.drew.cell? ⟨bl, offl + i * 2, none⟩ = some (.string v.name) ∧ wr.drew.cell? ⟨bl, offl + i * 2 + 1, none⟩ = some (.int .i64 v.val)) := ⟨g0, g1⟩
          have hmx : i + 1 ≤ maxLen := by unfold maxLen; omega
          have hq5 : w1.heap.size ≤ (wr.alloc (Obj.cells #[.string v.name, .int .i64 v.val, .int .i64 v.val] 38)).drew.heap.size := HBA2.out.size
          go_upto_region 11 with (fail)
          go_region_held3 (fun w' => w'.cell? ⟨bl, offl + i * 2, none⟩ = some (.string v.name) ∧ w'.cell? ⟨bl, offl + i * 2 + 1, none⟩ = some (.int .i64 v.val)) (first | go_keep | exact S0.out | exact S1.out)
            (first
              | (refine step_app (by rfl) (.tmp 45) (.tmp 66) 33 (by rfl) w1.heap.size 38 _ 3 32 Tryz.underlying33 rng_info (by rfl) (by omega) A8 i c8 _ (by rfl) (by exact HOA.out) _ _ 1 _ (cellsR [⟨v.name, v.val, v.val⟩]) (by rfl) (by exact RR.out) (cellsR_one _) hmx (by omega) hq5 ?_; intro A9 c9 w9 hown9 hb9; rw [← cellsR_append] at hown9; have HO9 := hide hown9; have HB9 := hide (HBA2.out.trans hb9); have S1 : Hid (w9.cell? ⟨bl, offl + i * 2, none⟩ = some (.string v.name) ∧ w9.cell? ⟨bl, offl + i * 2 + 1, none⟩ = some (.int .i64 v.val)) := HG01.out w9 (HBA2.out.trans hb9); clear hown9 hb9))
          go_wp2
          go_roundw
          case rel => exact ⟨i + 1, A9, c9, by omega, by go_num, rfl, by rw [HTT.out]; exact HO9.out, HB9.out⟩
          case measure => simp [intOf]; omega
      · obtain rfl : i = n := by omega
        have hlen : (aroundL l (beW ws) (abW ws)).length = i := by rw [around_len, HLN.out]
        rw [List.take_of_length_le (by omega)] at HOW
        have HRD : Hid (RRg wr wr.heap.size A8 i (aroundL l (beW ws) (abW ws))) := hide HOW.out.reads
        have HNM := hide (around_names (l := l) (be := beW ws) (ab := abW ws) HRN.out)
        have HPL := hide (fun (lo hi : Int) (h : boundsL e (aroundL l (beW ws) (abW ws)) = (lo, hi, 0)) => merit_bounds HBA.out HVW.out h)
        have HER := hide (HE1.out.next HBR.out)
        have HLR := hide (HL1.out.next HBR.out)
        have HBW := hide (HB1.out.trans (HBR.out.mono HB1.out.size))
        clear hown hbr HOW HBR HE1 HL1 HR1 HB1 hlen
        generalize aroundL l (beW ws) (abW ws) = rs at HRD HNM HPL
        have hi12 : i ≤ maxLen := by unfold maxLen; omega
        go_wp2_with fail
        refine (bounds_any A c e A8 i c8 rs wr HER.out HEN.out HEM.out HRD.out hi12 HNM.out).mono ?_
        rintro en w2 ⟨rfl, hb2⟩
        have HE2 := hide (HER.out.next hb2)
        have HL2 := hide (HLR.out.next hb2)
        have HB2 := hide (HBW.out.trans (hb2.mono HBW.out.size))
        obtain ⟨res, hres⟩ : ∃ res, res = boundsL e rs := ⟨_, rfl⟩
        rw [← hres] at HPL ⊢
        clear hb2 HER HLR HBW HRD hres
        obtain ⟨lo, hi', err⟩ := res
        dsimp only
        go_wp2_with fail
        refine (meritEval_any A c e L i cl l w2 HE2.out HEN.out HEM.out HL2.out HLM.out HRN.out).mono ?_
        rintro en w3 ⟨rfl, hb3⟩
        have HB3 := hide (HB2.out.trans (hb3.mono HB2.out.size))
        clear hb3 HE2 HL2 HB2
        by_cases herr : err = 0
        · subst herr
          obtain ⟨v, hv1, hv2, hv3⟩ := HPL.out lo hi' rfl
          rw [hv1]
          dsimp only
          have d1 : decide (lo ≤ v) = true := decide_eq_true hv2
          have d2 : decide (v ≤ hi') = true := decide_eq_true hv3
          clear hv1 HPL
          go_wp2
          go_ret
          exact ⟨rfl, HB3.out⟩
        · have herr' : (err != 0) = true := bne_iff_ne.2 herr
          clear HPL
          generalize evalM e l = r
          obtain ⟨r1, r2⟩ := r
          dsimp only
          go_wp2
          go_ret
          exact ⟨rfl, HB3.out⟩
theorem mbounds_walk (A : Option Addr) (c : Nat) (e : List Nod) (L : Option Addr) (n cl : Nat) (l : List Vr) (W : Option Addr) (m cw : Nat) (ws : List Int) (w : World)
    (w0 : ExprAt w w.heap.size A e) (m0 : e.length ≤ maxLen) (b0 : ∀ x ∈ e, x.name.size ≤ maxLen ∧ x.kids.length ≤ maxLen ∧ (Lit.int .i64 x.op).wf = true ∧ (Lit.int .i64 x.n).wf = true ∧ ∀ k ∈ x.kids, (Lit.int .i64 k).wf = true)
    (w1 : RVr w w.heap.size L n l) (m1 : n ≤ maxLen) (b1 : ∀ r ∈ l, r.name.size ≤ maxLen ∧ (Lit.int .i64 r.val).wf = true)
    (w2 : RK .u16 w w.heap.size W m ws) (m2 : m ≤ maxLen) (b2 : ∀ z ∈ ws, (Lit.int .u16 z).wf = true) :
    Calls Tryz.prog 4 #[.slice A e.length c, .slice L n cl, .slice W m cw] w fun en w' => en = .returned (.bool true) ∧ Below w.heap.size w w' :=
  mbounds_any A c e L n cl l W m cw ws w w0 m0 (fun x hx => (b0 x hx).1) (fun x hx => (b0 x hx).2.1) w1 m1 (fun r hr => (b1 r hr).1) (fun r hr => i64_wf (b1 r hr).2) w2 m2 (fun z hz => u16_wf (b2 z hz))
end Go.Proofs.YtmelebfpkjnfdaaGreatDoor
