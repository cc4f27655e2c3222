/-
  Chapter 23: merit.Eval.
-/
import Derived.Test.YtkomgidcgepknaaGreatDoorMeV
import Derived.Test.YtkomgidcgepknaaGreatDoorMeD
import Derived.Test.YtkomgidcgepknaaGreatDoorExpL
import Derived.Test.YtkomgidcgepknaaGreatDoorTree
import Derived.Defers
set_option linter.unusedVariables false
set_option linter.unusedSimpArgs false
namespace Go.Proofs.YtkomgidcgepknaaGreatDoor
open Go.RowKit Go.Deep Go.Maps

theorem evalD_idle (gv ge : Nat) (v : Value) (u : FrameMode) (w : World) (he : Blk w ge 32 #[.int .i64 0]) :
    CallsD Tryz.prog 58 #[.pointer (some ⟨ge, 0, none⟩), .pointer (some ⟨gv, 0, none⟩)] u w fun e u' w' => u' = u ∧ (e = .returned (.tuple #[]) ∧ w = w') := by
  have c0 : w.cell? ⟨ge, 0, none⟩ = some (.int .i64 0) := he.cell 0
  refine callsD_of_wp Tryz.func58 rfl ?_
  rw [Tryz.ntmps58]
  go_wp2
  exact ⟨rfl, .tuple #[], by simp [results, Tryz.results58, go_sem], rfl, rfl⟩
theorem evalD_zero (gv ge : Nat) (v r : Int) (u : FrameMode) (w : World) (hv : Blk w gv 3 #[.int .i64 v]) (he : Blk w ge 32 #[.int .i64 r]) (hr : r ≠ 0) :
    CallsD Tryz.prog 58 #[.pointer (some ⟨ge, 0, none⟩), .pointer (some ⟨gv, 0, none⟩)] u w fun e u' w' => u' = u ∧ (e = .returned (.tuple #[]) ∧ w.setCell ⟨gv, 0, none⟩ (.int .i64 0) = w') := by
  have c0 : w.cell? ⟨ge, 0, none⟩ = some (.int .i64 r) := he.cell 0
  have c1 : w.cell? ⟨gv, 0, none⟩ = some (.int .i64 v) := hv.cell 0
  have f1 := hv.frozen 0
  have hr' : (r != 0) = true := bne_iff_ne.2 hr
  refine callsD_of_wp Tryz.func58 rfl ?_
  rw [Tryz.ntmps58]
  go_wp2
  exact ⟨rfl, .tuple #[], by simp [results, Tryz.results58, go_sem], rfl, rfl⟩
theorem evalFail_any (n r : Int) (w : World) : Calls Tryz.prog 59 #[.int .i64 n, .int .i64 r] w fun e w' => e = .returned (.tuple #[.int .i64 n, .int .i64 r]) ∧ w = w' := by
  go_enter Tryz.func59, Tryz.ntmps59
  go_wp2
  go_ret2
  exact ⟨rfl, rfl⟩

/-- The operands' values, as many as t. -/
def opsL (vs : List Int) (x : Nod) (t : Nat) : List Int := (List.range t).map fun i => valAt vs (kidAt x i)
theorem opsL_next (vs : List Int) (x : Nod) (t : Nat) : opsL vs x (t + 1) = opsL vs x t ++ [valAt vs (kidAt x t)] := by
  unfold opsL
  rw [List.range_succ, List.map_append]
  rfl
theorem opsL_len (vs : List Int) (x : Nod) (t : Nat) : (opsL vs x t).length = t := by simp [opsL]
theorem opsL_get (vs : List Int) (x : Nod) (t i : Nat) : (opsL vs x t).getD i 0 = kidV vs x t i := by
  unfold opsL kidV
  by_cases h : i < t
  · rw [if_pos h, List.getD_eq_getElem?_getD, List.getElem?_map, List.getElem?_range h]
    rfl
  · rw [if_neg h, List.getD_eq_getElem?_getD, List.getElem?_eq_none (by simp; omega)]
    rfl
theorem applyAll_any {x : Nod} (hf : formedL x = true) (h3 : 3 ≤ x.op) (A : Option Addr) (c base : Nat) (zs : List Int) (w : World) (ho : Own w base 3 1 A x.kids.length c (ints zs)) (hz : ∀ i, inB (zs.getD i 0)) :
    Calls Tryz.prog 60 #[.int .i64 x.op, .slice A x.kids.length c] w fun e w' => e = .returned (.int .i64 (applyM x.op (zs.getD 0 0) (zs.getD 1 0) (zs.getD 2 0))) ∧ ∃ q, w' = w.drewN q := by
  have hl : zs.length = x.kids.length := by
    have := ho.len
    rw [ints_length] at this
    omega
  have hk := formed_k hf
  have hok := (formed_ok hf).2.1
  have hok1 := (formed_ok hf).1
  have h300 := formed_kids hf
  unfold operands at hk
  rw [if_neg (by omega)] at hk
  have hpos : 0 < x.kids.length := by
    by_cases e12 : x.op = 12
    · rw [if_pos e12] at hk; omega
    · rw [if_neg e12] at hk
      by_cases e9 : x.op = 9
      · rw [if_pos e9] at hk; omega
      · rw [if_neg e9, if_pos (by omega)] at hk; omega
  obtain ⟨g, cap, hv, hgb, hlt⟩ := World.ownsRow.form ho hpos
  injection hv with hA _ hc
  subst hA
  have hcell := (World.ownsRow.cells ho (g := g) rfl)
  have hat : ∀ i, i < x.kids.length → w.cell? ⟨g, i, none⟩ = some (.int .i64 (zs.getD i 0)) := fun i hi => by
    have h1 := ints_get (xs := zs) (k := i) (by omega)
    have h2 := hcell i _ h1
    rwa [add_lit, Nat.zero_add] at h2
  have hnil : ∀ i, x.kids.length ≤ i → zs.getD i 0 = 0 := fun i hi => by
    rw [List.getD_eq_getElem?_getD, List.getElem?_eq_none (by omega)]
    rfl
  by_cases e12 : x.op = 12
  · rw [if_pos e12] at hk
    have hk1 : x.kids.length = 1 := by omega
    rw [hnil 1 (by omega), hnil 2 (by omega), e12]
    exact meritApplyNeg_any _ g _ c w (by omega) (by omega) (hz 0) (hat 0 (by omega))
  · rw [if_neg e12] at hk
    by_cases e9 : x.op = 9
    · rw [if_pos e9] at hk
      rw [e9]
      exact meritApplyIf_any _ _ _ g _ c w (by omega) (by omega) (hat 0 (by omega)) (hat 1 (by omega)) (hat 2 (by omega))
    · rw [if_neg e9, if_pos (by omega)] at hk
      rw [hnil 2 (by omega)]
      have hk2 : 2 ≤ x.kids.length := by omega
      by_cases e5 : x.op = 5
      · rw [e5]
        exact meritApplyMul_any _ _ g _ c w hk2 (by omega) (hz 0) (hz 1) (hat 0 (by omega)) (hat 1 (by omega))
      · by_cases e6 : x.op = 6
        · rw [e6]
          exact meritApplyDiv_any _ _ g _ c w hk2 (by omega) (hz 0) (hat 0 (by omega)) (hat 1 (by omega))
        · by_cases e10 : x.op = 10 ∨ x.op = 11
          · exact meritApplyCmp_any _ _ _ g _ c w e10 hk2 (by omega) (hat 0 (by omega)) (hat 1 (by omega))
          · exact meritApply2_any _ _ _ g _ c w (by omega) hk2 (by omega) (hz 0) (hz 1) (hat 0 (by omega)) (hat 1 (by omega))
theorem made_padM (n : Nat) : Array.replicate n (Value.int .i64 0) = (ints (padI n [])).toArray := by
  unfold padI ints
  apply Array.toList_inj.1
  simp
/-- The result of an evaluation of n nodes. -/
def endM (r : Except Int (List Int)) (n : Nat) : Int × Int := match r with | Except.error r => (0, r) | Except.ok vs => (vs.getD (n - 1) 0, 0)
def lastI (vs : List Int) : Int := vs.getD (vs.length - 1) 0
theorem lastI_snoc (vs : List Int) (v : Int) : lastI (vs ++ [v]) = v := by
  unfold lastI
  rw [List.length_append, List.getD_eq_getElem?_getD, List.getElem?_append_right (by simp)]
  simp

set_option maxHeartbeats 8000000 in
set_option maxRecDepth 100000 in
theorem meritEval_any (A : Option Addr) (c : Nat) (e : List Nod) (A2 : Option Addr) (n2 c2 : Nat) (rs : List Vr) (w : World) (he : ExprAt w w.heap.size A e) (hen : ∀ x ∈ e, x.name.size ≤ maxLen) (hlen : e.length ≤ maxLen)
    (hl : RVr w w.heap.size A2 n2 rs) (hln : n2 ≤ maxLen) (hrn : ∀ r ∈ rs, r.name.size ≤ maxLen) :
    Calls Tryz.prog 23 #[.slice A e.length c, .slice A2 n2 c2] w fun en w' => en = .returned (.tuple #[.int .i64 (evalM e rs).1, .int .i64 (evalM e rs).2]) ∧ Below w.heap.size w w' := by
  have hmf : ∀ (fn : Fn) (first cap : Array Value) (w : World), (Instr.makeFunc fn first cap).run Tryz.prog w = .ok (.func fn first cap) w := fun _ _ _ _ => rfl
  obtain ⟨res, hres⟩ : ∃ res, evalM e rs = res := ⟨_, rfl⟩
  rw [hres]
  have HRES := hide hres
  have HE := hide he
  have HL := hide hl
  have HEN := hide hen
  have HLEN := hide hlen
  have HLN := hide hln
  have HRN := hide hrn
  have HBAD : Hid (validVs rs = false ∨ validL e = false → res = (0, 1)) := hide (fun h => by
    rw [← HRES.out]
    unfold evalM
    rw [if_pos h])
  unfold maxLen at hlen hln
  clear he hl hen hrn hres
  have hb0 : Below w.heap.size w ((w.alloc (Obj.cells #[.int .i64 0] 3)).alloc (Obj.cells #[.int .i64 0] 32)) :=
    ((Below.refl _ _).alloc (Nat.le_refl _) _).alloc (by simp) _
  have n0 : Blk ((w.alloc (Obj.cells #[.int .i64 0] 3)).alloc (Obj.cells #[.int .i64 0] 32)) w.heap.size 3 #[.int .i64 0] := (Blk.new _ _ _).alloc _
  have n1 : Blk ((w.alloc (Obj.cells #[.int .i64 0] 3)).alloc (Obj.cells #[.int .i64 0] 32)) (w.heap.size + 1) 32 #[.int .i64 0] := by
    have := Blk.new (w.alloc (Obj.cells #[.int .i64 0] 3)) 32 #[.int .i64 0]
    simpa using this
  go_enter_defers Tryz.func23, Tryz.ntmps23
  go_wp2_with fail
  have hge : w.heap.size < w.heap.size + 1 := Nat.lt_succ_self _
  generalize ((w.alloc (Obj.cells #[.int .i64 0] 3)).alloc (Obj.cells #[.int .i64 0] 32)) = w0 at hb0 n0 n1 ⊢
  generalize w.heap.size + 1 = ge at n1 hge ⊢
  have HL0 := hide (HL.out.next hb0)
  refine (meritValues_any A2 n2 c2 rs w0 HL0.out HLN.out HRN.out).mono ?_
  rintro en w1 ⟨m, rfl, hb1, hm⟩
  have k0 := n0.below hb1 n0.lt
  have k1 := n1.below hb1 n1.lt
  have hbw1 := hb0.trans (hb1.mono hb0.size)
  have HMP : Hid (validVs rs = true → ∃ b, m = some b ∧ w0.heap.size ≤ b ∧ VM w1 b rs) := hide hm
  have hgs : ge < w0.heap.size := n1.lt
  clear n0 n1 hb0 hb1 hm HL0
  have HB1 := hide hbw1
  have K0 := hide k0
  have K1 := hide k1
  clear hbw1 k0 k1
  cases hv : validVs rs
  · have hr := HBAD.out (.inl hv)
    subst hr
    have c0 : w1.cell? ⟨w.heap.size, 0, none⟩ = some (.int .i64 0) := K0.out.cell 0
    have c1 : w1.cell? ⟨ge, 0, none⟩ = some (.int .i64 0) := K1.out.cell 0
    have f0 := K0.out.frozen 0
    have f1 := K1.out.frozen 0
    have hne : ¬ w.heap.size = ge := by omega
    have HF : Hid (Below w.heap.size w ((w1.setCell ⟨w.heap.size, 0, none⟩ (.int .i64 0)).setCell ⟨ge, 0, none⟩ (.int .i64 1)) ∧ Blk ((w1.setCell ⟨w.heap.size, 0, none⟩ (.int .i64 0)).setCell ⟨ge, 0, none⟩ (.int .i64 1)) w.heap.size 3 #[.int .i64 0] ∧ Blk ((w1.setCell ⟨w.heap.size, 0, none⟩ (.int .i64 0)).setCell ⟨ge, 0, none⟩ (.int .i64 1)) ge 32 #[.int .i64 1]) :=
      ⟨(HB1.out.setCell (p := ⟨w.heap.size, 0, none⟩) (Nat.le_refl _) _).setCell (p := ⟨ge, 0, none⟩) (Nat.le_of_lt hge) _, (K0.out.set_ 0 _).far (p := ⟨ge, 0, none⟩) (by show w.heap.size ≠ ge; omega) _, (K1.out.far (p := ⟨w.heap.size, 0, none⟩) (by show ge ≠ w.heap.size; omega) _).set_ 0 _⟩
    go_wp2
    generalize (w1.setCell ⟨w.heap.size, 0, none⟩ (.int .i64 0)).setCell ⟨ge, 0, none⟩ (.int .i64 1) = w9 at HF ⊢
    clear c0 c1 f0 f1
    have d0 : w9.cell? ⟨w.heap.size, 0, none⟩ = some (.int .i64 0) := HF.out.2.1.cell 0
    have d1 : w9.cell? ⟨ge, 0, none⟩ = some (.int .i64 1) := HF.out.2.2.cell 0
    refine ⟨.tuple #[.int .i64 0, .int .i64 1], by simp [results, Tryz.results23, go_sem, d0, d1], rfl, HF.out.1⟩
  · obtain ⟨b, rfl, hbm, hvm⟩ := HMP.out hv
    have HVM := hide hvm
    have HVT := hide hv
    have HE1 := hide (HE.out.next HB1.out)
    clear hvm hv HMP
    go_wp2_with fail
    refine (valid_any A c e w1 HE1.out HEN.out HLEN.out).mono ?_
    rintro en w2 ⟨rfl, hb2⟩
    have HE2 := hide (HE1.out.next hb2)
    have HVM2 := hide (HVM.out.kept (hb2.block b HVM.out.lt))
    have HB2 := hide (HB1.out.trans (hb2.mono HB1.out.size))
    have J0 := hide (K0.out.below hb2 K0.out.lt)
    have J1 := hide (K1.out.below hb2 K1.out.lt)
    clear hb2 HE1 HVM HB1 K0 K1
    have c0 : w2.cell? ⟨w.heap.size, 0, none⟩ = some (.int .i64 0) := J0.out.cell 0
    have c1 : w2.cell? ⟨ge, 0, none⟩ = some (.int .i64 0) := J1.out.cell 0
    have f0 := J0.out.frozen 0
    have f1 := J1.out.frozen 0
    have hne : ¬ w.heap.size = ge := by omega
    cases hve : validL e
    · have hr := HBAD.out (.inr hve)
      subst hr
      have HF : Hid (Below w.heap.size w ((w2.setCell ⟨w.heap.size, 0, none⟩ (.int .i64 0)).setCell ⟨ge, 0, none⟩ (.int .i64 1)) ∧ Blk ((w2.setCell ⟨w.heap.size, 0, none⟩ (.int .i64 0)).setCell ⟨ge, 0, none⟩ (.int .i64 1)) w.heap.size 3 #[.int .i64 0] ∧ Blk ((w2.setCell ⟨w.heap.size, 0, none⟩ (.int .i64 0)).setCell ⟨ge, 0, none⟩ (.int .i64 1)) ge 32 #[.int .i64 1]) :=
        ⟨(HB2.out.setCell (p := ⟨w.heap.size, 0, none⟩) (Nat.le_refl _) _).setCell (p := ⟨ge, 0, none⟩) (Nat.le_of_lt hge) _, (J0.out.set_ 0 _).far (p := ⟨ge, 0, none⟩) (by show w.heap.size ≠ ge; omega) _, (J1.out.far (p := ⟨w.heap.size, 0, none⟩) (by show ge ≠ w.heap.size; omega) _).set_ 0 _⟩
      go_wp2
      generalize (w2.setCell ⟨w.heap.size, 0, none⟩ (.int .i64 0)).setCell ⟨ge, 0, none⟩ (.int .i64 1) = w9 at HF ⊢
      clear c0 c1 f0 f1
      have d0 : w9.cell? ⟨w.heap.size, 0, none⟩ = some (.int .i64 0) := HF.out.2.1.cell 0
      have d1 : w9.cell? ⟨ge, 0, none⟩ = some (.int .i64 1) := HF.out.2.2.cell 0
      refine ⟨.tuple #[.int .i64 0, .int .i64 1], by simp [results, Tryz.results23, go_sem, d0, d1], rfl, HF.out.1⟩
    · have HG : Hid (res = endM (goM (sigV rs) [] e) e.length) := hide (by
        rw [← HRES.out, evalM_of HVT.out hve]
        unfold endM
        cases goM (sigV rs) [] e <;> rfl)
      have HND := hide (valid_nodes hve)
      obtain ⟨σ, hσ⟩ : ∃ σ, σ = sigV rs := ⟨_, rfl⟩
      have HSG := hide hσ
      rw [← hσ] at HG
      have hl300 : e.length ≤ 300 := HND.out.2.1
      have hmk := fun (w : World) => make_run (P := Tryz.prog) 31 3 (.int .i64 0) 8 Tryz.underlying31 int_info rfl e.length (by omega) (by omega) w
      have hb3 : Below w2.heap.size w2 (w2.alloc (.cells (Array.replicate e.length (.int .i64 0)) 3)) := (Below.refl _ _).alloc (Nat.le_refl _) _
      have hga : Blk (w2.alloc (.cells (Array.replicate e.length (.int .i64 0)) 3)) w2.heap.size 3 (ints (padI e.length [])).toArray := by
        rw [← made_padM]
        exact Blk.new _ _ _
      have hgf : ge < w2.heap.size := J1.out.lt
      have hbf : b < w2.heap.size := HVM2.out.lt
      clear c0 c1 f0 f1 HBAD HRES hσ
      go_upto_region 6 with (fail)
      generalize w2.alloc (.cells (Array.replicate e.length (.int .i64 0)) 3) = w3 at hb3 hga ⊢
      have J0' := hide (J0.out.below hb3 J0.out.lt)
      have J1' := hide (J1.out.below hb3 J1.out.lt)
      have HVM3 := hide (HVM2.out.kept (hb3.block b HVM2.out.lt))
      have HB3 := hide (HB2.out.trans (hb3.mono HB2.out.size))
      have HGA := hide hga
      have hgz : w2.heap.size < w3.heap.size := hga.lt
      clear hmk hb3 hga J0 J1 HVM2 HB2 HE2
      generalize w2.heap.size = gf at HGA hgf hbf hgz ⊢
      go_wp2
      go_loopw [33] (fun i wr => ∃ (k : Nat) (vs : List Int), k ≤ e.length ∧ i = .int .i64 k ∧ goM σ [] (e.take k) = Except.ok vs ∧ Blk wr w.heap.size 3 #[.int .i64 (lastI vs)] ∧ Blk wr ge 32 #[.int .i64 0] ∧ Blk wr gf 3 (ints (padI e.length vs)).toArray ∧ VM wr b rs ∧ Below w.heap.size w wr) (fun i _ => e.length - (intOf i).toNat)
      case atStart => exact ⟨0, [], Nat.zero_le _, rfl, rfl, J0'.out, J1'.out, HGA.out, HVM3.out, HB3.out⟩
      case round =>
        clear J0' J1' HGA HVM3 HB3
        obtain ⟨k, vs, hk, rfl, hgo, hv0, he0, hf0, hvm, hbr⟩ := hrel
        have hvl : vs.length = k := by
          have := goM_len _ _ _ hgo
          simp at this
          omega
        have HVI := hide (goM_in _ [] vs (fun v hv => absurd hv List.not_mem_nil) hgo)
        have HGO := hide hgo
        have HVL := hide hvl
        have HV0 := hide hv0
        have HE0 := hide he0
        have HF0 := hide hf0
        have HVM := hide hvm
        have HB := hide hbr
        clear hgo hv0 he0 hf0 hvm hbr hvl
        obtain ⟨wo, hwo⟩ : ∃ wo : World, wo = wr := ⟨_, rfl⟩
        subst hwo
        by_cases hlt : k < e.length
        · obtain ⟨be, offe, K, kc, rfl, hbe, x0, x1, x2, x3, hKd⟩ := (HE.out.below HB.out).at_ hlt
          have hnk := HND.out.2.2 k hlt
          have hxn1 : (nodAt e k).name.size ≤ maxLen := HEN.out _ (List.mem_of_getElem? (nodAt_get hlt))
          have HST := hide (fun (v : Int) (hs : stepM σ vs (nodAt e k) = Except.ok v) => goM_next hlt HGO.out hs)
          have HER := hide (fun (r : Int) (hs : stepM σ vs (nodAt e k) = Except.error r) => goM_stop hlt HGO.out hs)
          generalize nodAt e k = x at x0 x1 x2 x3 hKd hnk hxn1 HST HER
          have HFM := hide hnk.1
          have HKI := hide hnk.2
          have HKD := hide hKd
          have HXN := hide hxn1
          have hk3 := formed_kids hnk.1
          clear hnk hKd hxn1
          go_upto_region 10 with (fail)
          have hB5 : Blk (wo.alloc (Obj.cells #[.int .i64 x.op, .int .i64 x.n, .string x.name, .slice K x.kids.length kc] 56)) wo.heap.size 56 #[.int .i64 x.op, .int .i64 x.n, .string x.name, .slice K x.kids.length kc] := Blk.new _ _ _
          have hb5 : Below wo.heap.size wo (wo.alloc (Obj.cells #[.int .i64 x.op, .int .i64 x.n, .string x.name, .slice K x.kids.length kc] 56)) := (Below.refl _ _).alloc (Nat.le_refl _) _
          generalize wo.alloc (Obj.cells #[.int .i64 x.op, .int .i64 x.n, .string x.name, .slice K x.kids.length kc] 56) = w5 at hB5 hb5 ⊢
          have HV5 := hide (HV0.out.below hb5 HV0.out.lt)
          have HE5 := hide (HE0.out.below hb5 HE0.out.lt)
          have HF5 := hide (HF0.out.below hb5 HF0.out.lt)
          have HVM5 := hide (HVM.out.kept (hb5.block b HVM.out.lt))
          have HB5 := hide (HB.out.trans (hb5.mono HB.out.size))
          have hwo : wo.heap.size < w5.heap.size := hB5.lt
          have HKD5 := hide ((HKD.out.below (hb5.mono HB.out.size)))
          have y0 : w5.cell? ⟨wo.heap.size, 0, none⟩ = some (.int .i64 x.op) := hB5.cell 0
          have y1 : w5.cell? ⟨wo.heap.size, 1, none⟩ = some (.int .i64 x.n) := hB5.cell 1
          have y2 : w5.cell? ⟨wo.heap.size, 2, none⟩ = some (.string x.name) := hB5.cell 2
          have y3 : w5.cell? ⟨wo.heap.size, 3, none⟩ = some (.slice K x.kids.length kc) := hB5.cell 3
          have HNB := hide hB5
          have v5 : w5.cell? ⟨w.heap.size, 0, none⟩ = some (.int .i64 (lastI vs)) := HV5.out.cell 0
          have fv5 := HV5.out.frozen 0
          clear hB5 hb5 HV0 HE0 HF0 HVM HB HKD x0 x1 x2 x3
          by_cases h1 : x.op = 1
          · have hst : stepM σ vs x = if beyondL x.n = true then Except.error 9 else Except.ok x.n := by
              unfold stepM
              rw [if_pos h1]
            rw [h1] at y0
            have HV6 := hide (HV5.out.set_ 0 (.int .i64 x.n))
            have HE6 := hide (HE5.out.far (p := ⟨w.heap.size, 0, none⟩) (by show ge ≠ w.heap.size; omega) (.int .i64 x.n))
            have HF6 := hide (HF5.out.far (p := ⟨w.heap.size, 0, none⟩) (by show gf ≠ w.heap.size; omega) (.int .i64 x.n))
            have HVM6 := hide (HVM5.out.kept (w' := w5.setCell ⟨w.heap.size, 0, none⟩ (.int .i64 x.n)) (Below.heap_setCell w5 ⟨w.heap.size, 0, none⟩ _ b (by show b ≠ w.heap.size; omega)))
            have HB6 := hide (HB5.out.setCell (p := ⟨w.heap.size, 0, none⟩) (Nat.le_refl _) (.int .i64 x.n))
            go_upto_region 24 with (fail)
            generalize w5.setCell ⟨w.heap.size, 0, none⟩ (.int .i64 x.n) = w6 at HV6 HE6 HF6 HVM6 HB6 ⊢
            clear HV5 HE5 HF5 HVM5 HB5 y0 y1 y2 y3 v5 fv5 HNB
            -- TAIL ONE
            have v6 : w6.cell? ⟨w.heap.size, 0, none⟩ = some (.int .i64 x.n) := HV6.out.cell 0
            have e6 : w6.cell? ⟨ge, 0, none⟩ = some (.int .i64 0) := HE6.out.cell 0
            have fv6 := HV6.out.frozen 0
            have fe6 := HE6.out.frozen 0
            cases hbd : beyondL x.n
            · have HN := hide (HST.out _ (by rw [hst, hbd, if_neg (by decide)]))
              have hpl : k < (padI e.length vs).length := by rw [padI_len (by rw [HVL.out]; exact hk)]; exact hlt
              have gk := HF6.out.int hpl
              have fk := HF6.out.frozen k
              generalize nth (padI e.length vs) k = old at gk
              have R1 : Hid (Blk (w6.setCell ⟨gf, k, none⟩ (.int .i64 x.n)) gf 3 (ints (padI e.length (vs ++ [x.n]))).toArray) := by
                have := HF6.out.setInt k x.n
                rw [← HVL.out, padI_set (by rw [HVL.out]; exact hlt)] at this
                rw [HVL.out] at this
                exact this
              have R2 := hide (HV6.out.far (p := ⟨gf, k, none⟩) (by show w.heap.size ≠ gf; omega) (.int .i64 x.n))
              have R3 := hide (HE6.out.far (p := ⟨gf, k, none⟩) (by show ge ≠ gf; omega) (.int .i64 x.n))
              have R4 := hide (HVM6.out.kept (w' := w6.setCell ⟨gf, k, none⟩ (.int .i64 x.n)) (Below.heap_setCell w6 ⟨gf, k, none⟩ _ b (by show b ≠ gf; omega)))
              have R5 := hide (HB6.out.setCell (p := ⟨gf, k, none⟩) (by show w.heap.size ≤ gf; omega) (.int .i64 x.n))
              clear hpl
              go_wp2_with fail
              refine (meritOut_is _ w6 false hbd).mono ?_
              rintro en w' ⟨rfl, rfl⟩
              go_wp2
              go_roundw
              case rel => exact ⟨k + 1, _, hlt, by go_num, HN.out, by rw [lastI_snoc]; exact R2.out, R3.out, R1.out, R4.out, R5.out⟩
              case measure => simp [intOf]; omega
            · have HN := hide (HER.out _ (by rw [hst, hbd, if_pos rfl]))
              have HRS : Hid (res = (0, 9)) := by
                show _ = _
                rw [HG.out, HN.out]
                rfl
              go_wp2_with fail
              refine (meritOut_is _ w6 true hbd).mono ?_
              rintro en w' ⟨rfl, rfl⟩
              go_wp2_with fail
              refine (evalFail_any x.n 9 w6).mono ?_
              rintro en w' ⟨rfl, rfl⟩
              have HQ : Hid (Below w.heap.size w ((w6.setCell ⟨w.heap.size, 0, none⟩ (.int .i64 x.n)).setCell ⟨ge, 0, none⟩ (.int .i64 9)) ∧ Blk ((w6.setCell ⟨w.heap.size, 0, none⟩ (.int .i64 x.n)).setCell ⟨ge, 0, none⟩ (.int .i64 9)) w.heap.size 3 #[.int .i64 x.n] ∧ Blk ((w6.setCell ⟨w.heap.size, 0, none⟩ (.int .i64 x.n)).setCell ⟨ge, 0, none⟩ (.int .i64 9)) ge 32 #[.int .i64 9]) :=
                ⟨(HB6.out.setCell (p := ⟨w.heap.size, 0, none⟩) (Nat.le_refl _) _).setCell (p := ⟨ge, 0, none⟩) (Nat.le_of_lt hge) _, (HV6.out.set_ 0 _).far (p := ⟨ge, 0, none⟩) (by show w.heap.size ≠ ge; omega) _, (HE6.out.far (p := ⟨w.heap.size, 0, none⟩) (by show ge ≠ w.heap.size; omega) _).set_ 0 _⟩
              go_wp2
              generalize (w6.setCell ⟨w.heap.size, 0, none⟩ (.int .i64 x.n)).setCell ⟨ge, 0, none⟩ (.int .i64 9) = w7 at HQ ⊢
              clear v6 e6 fv6 fe6
              refine leaves_cons (f := 58) (args := #[.pointer (some ⟨ge, 0, none⟩), .pointer (some ⟨w.heap.size, 0, none⟩)]) (by simp) (by simp [go_sem]) ?_
              refine (evalD_zero w.heap.size ge x.n 9 .returning w7 HQ.out.2.1 HQ.out.2.2 (by decide)).mono ?_
              rintro en u' w8 ⟨rfl, rfl, rfl⟩
              have HQ8 : Hid (Below w.heap.size w (w7.setCell ⟨w.heap.size, 0, none⟩ (.int .i64 0)) ∧ Blk (w7.setCell ⟨w.heap.size, 0, none⟩ (.int .i64 0)) w.heap.size 3 #[.int .i64 0] ∧ Blk (w7.setCell ⟨w.heap.size, 0, none⟩ (.int .i64 0)) ge 32 #[.int .i64 9]) :=
                ⟨HQ.out.1.setCell (p := ⟨w.heap.size, 0, none⟩) (Nat.le_refl _) _, HQ.out.2.1.set_ 0 _, HQ.out.2.2.far (p := ⟨w.heap.size, 0, none⟩) (by show ge ≠ w.heap.size; omega) _⟩
              generalize w7.setCell ⟨w.heap.size, 0, none⟩ (.int .i64 0) = w9 at HQ8 ⊢
              have d0 : w9.cell? ⟨w.heap.size, 0, none⟩ = some (.int .i64 0) := HQ8.out.2.1.cell 0
              have d1 : w9.cell? ⟨ge, 0, none⟩ = some (.int .i64 9) := HQ8.out.2.2.cell 0
              refine ⟨.tuple #[.int .i64 0, .int .i64 9], by simp [results, Tryz.results23, go_sem, d0, d1], by rw [HRS.out], HQ8.out.1⟩
            -- END
          · have h1' : (x.op == 1) = false := beq_eq_false_iff_ne.2 h1
            by_cases h2 : x.op = 2
            · have hlook := HVM5.out.look_ HXN.out
              have hst0 : stepM σ vs x = match sigV rs x.name with | some v => (if beyondL v = true then Except.error 9 else Except.ok v) | none => Except.error 7 := by
                unfold stepM
                rw [if_neg h1, if_pos h2, HSG.out]
                cases sigV rs x.name <;> rfl
              have HST0 := hide hst0
              clear hst0
              generalize sigV rs x.name = o at hlook HST0
              rw [h2] at y0
              cases o with
              | none =>
                have hs : (Option.none : Option Int).isSome = false := rfl
                have hg : (Option.none : Option Int).getD 0 = 0 := rfl
                rw [hs, hg] at hlook
                have HN := hide (HER.out _ HST0.out)
                have HRS : Hid (res = (0, 7)) := by
                  show _ = _
                  rw [HG.out, HN.out]
                  rfl
                have HV6 := hide (HV5.out.set_ 0 (.int .i64 0))
                have HE6 := hide (HE5.out.far (p := ⟨w.heap.size, 0, none⟩) (by show ge ≠ w.heap.size; omega) (.int .i64 0))
                have HB6 := hide (HB5.out.setCell (p := ⟨w.heap.size, 0, none⟩) (Nat.le_refl _) (.int .i64 0))
                go_upto_region 22 with (fail)
                generalize w5.setCell ⟨w.heap.size, 0, none⟩ (.int .i64 0) = w6 at HV6 HE6 HB6 ⊢
                clear HV5 HE5 HF5 HVM5 HB5 y0 y1 y2 y3 v5 fv5 HNB hlook
                have v6 : w6.cell? ⟨w.heap.size, 0, none⟩ = some (.int .i64 0) := HV6.out.cell 0
                have e6 : w6.cell? ⟨ge, 0, none⟩ = some (.int .i64 0) := HE6.out.cell 0
                have fv6 := HV6.out.frozen 0
                have fe6 := HE6.out.frozen 0
                go_wp2_with fail
                -- TAIL NAME
                refine (evalFail_any 0 7 w6).mono ?_
                rintro en w' ⟨rfl, rfl⟩
                have HQ : Hid (Below w.heap.size w ((w6.setCell ⟨w.heap.size, 0, none⟩ (.int .i64 0)).setCell ⟨ge, 0, none⟩ (.int .i64 7)) ∧ Blk ((w6.setCell ⟨w.heap.size, 0, none⟩ (.int .i64 0)).setCell ⟨ge, 0, none⟩ (.int .i64 7)) w.heap.size 3 #[.int .i64 0] ∧ Blk ((w6.setCell ⟨w.heap.size, 0, none⟩ (.int .i64 0)).setCell ⟨ge, 0, none⟩ (.int .i64 7)) ge 32 #[.int .i64 7]) :=
                  ⟨(HB6.out.setCell (p := ⟨w.heap.size, 0, none⟩) (Nat.le_refl _) _).setCell (p := ⟨ge, 0, none⟩) (Nat.le_of_lt hge) _, (HV6.out.set_ 0 _).far (p := ⟨ge, 0, none⟩) (by show w.heap.size ≠ ge; omega) _, (HE6.out.far (p := ⟨w.heap.size, 0, none⟩) (by show ge ≠ w.heap.size; omega) _).set_ 0 _⟩
                go_wp2
                generalize (w6.setCell ⟨w.heap.size, 0, none⟩ (.int .i64 0)).setCell ⟨ge, 0, none⟩ (.int .i64 7) = w7 at HQ ⊢
                clear v6 e6 fv6 fe6
                refine leaves_cons (f := 58) (args := #[.pointer (some ⟨ge, 0, none⟩), .pointer (some ⟨w.heap.size, 0, none⟩)]) (by simp) (by simp [go_sem]) ?_
                refine (evalD_zero w.heap.size ge 0 7 .returning w7 HQ.out.2.1 HQ.out.2.2 (by decide)).mono ?_
                rintro en u' w8 ⟨rfl, rfl, rfl⟩
                have HQ8 : Hid (Below w.heap.size w (w7.setCell ⟨w.heap.size, 0, none⟩ (.int .i64 0)) ∧ Blk (w7.setCell ⟨w.heap.size, 0, none⟩ (.int .i64 0)) w.heap.size 3 #[.int .i64 0] ∧ Blk (w7.setCell ⟨w.heap.size, 0, none⟩ (.int .i64 0)) ge 32 #[.int .i64 7]) :=
                  ⟨HQ.out.1.setCell (p := ⟨w.heap.size, 0, none⟩) (Nat.le_refl _) _, HQ.out.2.1.set_ 0 _, HQ.out.2.2.far (p := ⟨w.heap.size, 0, none⟩) (by show ge ≠ w.heap.size; omega) _⟩
                generalize w7.setCell ⟨w.heap.size, 0, none⟩ (.int .i64 0) = w9 at HQ8 ⊢
                have d0 : w9.cell? ⟨w.heap.size, 0, none⟩ = some (.int .i64 0) := HQ8.out.2.1.cell 0
                have d1 : w9.cell? ⟨ge, 0, none⟩ = some (.int .i64 7) := HQ8.out.2.2.cell 0
                refine ⟨.tuple #[.int .i64 0, .int .i64 7], by simp [results, Tryz.results23, go_sem, d0, d1], by rw [HRS.out], HQ8.out.1⟩
                -- END
              | some v =>
                have hs : (some v).isSome = true := rfl
                have hg : (some v).getD 0 = v := rfl
                rw [hs, hg] at hlook
                have hst : stepM σ vs x = if beyondL v = true then Except.error 9 else Except.ok v := HST0.out
                have HV6 := hide (HV5.out.set_ 0 (.int .i64 v))
                have HE6 := hide (HE5.out.far (p := ⟨w.heap.size, 0, none⟩) (by show ge ≠ w.heap.size; omega) (.int .i64 v))
                have HF6 := hide (HF5.out.far (p := ⟨w.heap.size, 0, none⟩) (by show gf ≠ w.heap.size; omega) (.int .i64 v))
                have HVM6 := hide (HVM5.out.kept (w' := w5.setCell ⟨w.heap.size, 0, none⟩ (.int .i64 v)) (Below.heap_setCell w5 ⟨w.heap.size, 0, none⟩ _ b (by show b ≠ w.heap.size; omega)))
                have HB6 := hide (HB5.out.setCell (p := ⟨w.heap.size, 0, none⟩) (Nat.le_refl _) (.int .i64 v))
                go_upto_region 24 with (fail)
                generalize w5.setCell ⟨w.heap.size, 0, none⟩ (.int .i64 v) = w6 at HV6 HE6 HF6 HVM6 HB6 ⊢
                clear HV5 HE5 HF5 HVM5 HB5 y0 y1 y2 y3 v5 fv5 HNB hlook HST0
                -- TAIL TWO
                have v6 : w6.cell? ⟨w.heap.size, 0, none⟩ = some (.int .i64 v) := HV6.out.cell 0
                have e6 : w6.cell? ⟨ge, 0, none⟩ = some (.int .i64 0) := HE6.out.cell 0
                have fv6 := HV6.out.frozen 0
                have fe6 := HE6.out.frozen 0
                cases hbd : beyondL v
                · have HN := hide (HST.out _ (by rw [hst, hbd, if_neg (by decide)]))
                  have hpl : k < (padI e.length vs).length := by rw [padI_len (by rw [HVL.out]; exact hk)]; exact hlt
                  have gk := HF6.out.int hpl
                  have fk := HF6.out.frozen k
                  generalize nth (padI e.length vs) k = old at gk
                  have R1 : Hid (Blk (w6.setCell ⟨gf, k, none⟩ (.int .i64 v)) gf 3 (ints (padI e.length (vs ++ [v]))).toArray) := by
                    have := HF6.out.setInt k v
                    rw [← HVL.out, padI_set (by rw [HVL.out]; exact hlt)] at this
                    rw [HVL.out] at this
                    exact this
                  have R2 := hide (HV6.out.far (p := ⟨gf, k, none⟩) (by show w.heap.size ≠ gf; omega) (.int .i64 v))
                  have R3 := hide (HE6.out.far (p := ⟨gf, k, none⟩) (by show ge ≠ gf; omega) (.int .i64 v))
                  have R4 := hide (HVM6.out.kept (w' := w6.setCell ⟨gf, k, none⟩ (.int .i64 v)) (Below.heap_setCell w6 ⟨gf, k, none⟩ _ b (by show b ≠ gf; omega)))
                  have R5 := hide (HB6.out.setCell (p := ⟨gf, k, none⟩) (by show w.heap.size ≤ gf; omega) (.int .i64 v))
                  clear hpl
                  go_wp2_with fail
                  refine (meritOut_is _ w6 false hbd).mono ?_
                  rintro en w' ⟨rfl, rfl⟩
                  go_wp2
                  go_roundw
                  case rel => exact ⟨k + 1, _, hlt, by go_num, HN.out, by rw [lastI_snoc]; exact R2.out, R3.out, R1.out, R4.out, R5.out⟩
                  case measure => simp [intOf]; omega
                · have HN := hide (HER.out _ (by rw [hst, hbd, if_pos rfl]))
                  have HRS : Hid (res = (0, 9)) := by
                    show _ = _
                    rw [HG.out, HN.out]
                    rfl
                  go_wp2_with fail
                  refine (meritOut_is _ w6 true hbd).mono ?_
                  rintro en w' ⟨rfl, rfl⟩
                  go_wp2_with fail
                  refine (evalFail_any v 9 w6).mono ?_
                  rintro en w' ⟨rfl, rfl⟩
                  have HQ : Hid (Below w.heap.size w ((w6.setCell ⟨w.heap.size, 0, none⟩ (.int .i64 v)).setCell ⟨ge, 0, none⟩ (.int .i64 9)) ∧ Blk ((w6.setCell ⟨w.heap.size, 0, none⟩ (.int .i64 v)).setCell ⟨ge, 0, none⟩ (.int .i64 9)) w.heap.size 3 #[.int .i64 v] ∧ Blk ((w6.setCell ⟨w.heap.size, 0, none⟩ (.int .i64 v)).setCell ⟨ge, 0, none⟩ (.int .i64 9)) ge 32 #[.int .i64 9]) :=
                    ⟨(HB6.out.setCell (p := ⟨w.heap.size, 0, none⟩) (Nat.le_refl _) _).setCell (p := ⟨ge, 0, none⟩) (Nat.le_of_lt hge) _, (HV6.out.set_ 0 _).far (p := ⟨ge, 0, none⟩) (by show w.heap.size ≠ ge; omega) _, (HE6.out.far (p := ⟨w.heap.size, 0, none⟩) (by show ge ≠ w.heap.size; omega) _).set_ 0 _⟩
                  go_wp2
                  generalize (w6.setCell ⟨w.heap.size, 0, none⟩ (.int .i64 v)).setCell ⟨ge, 0, none⟩ (.int .i64 9) = w7 at HQ ⊢
                  clear v6 e6 fv6 fe6
                  refine leaves_cons (f := 58) (args := #[.pointer (some ⟨ge, 0, none⟩), .pointer (some ⟨w.heap.size, 0, none⟩)]) (by simp) (by simp [go_sem]) ?_
                  refine (evalD_zero w.heap.size ge v 9 .returning w7 HQ.out.2.1 HQ.out.2.2 (by decide)).mono ?_
                  rintro en u' w8 ⟨rfl, rfl, rfl⟩
                  have HQ8 : Hid (Below w.heap.size w (w7.setCell ⟨w.heap.size, 0, none⟩ (.int .i64 0)) ∧ Blk (w7.setCell ⟨w.heap.size, 0, none⟩ (.int .i64 0)) w.heap.size 3 #[.int .i64 0] ∧ Blk (w7.setCell ⟨w.heap.size, 0, none⟩ (.int .i64 0)) ge 32 #[.int .i64 9]) :=
                    ⟨HQ.out.1.setCell (p := ⟨w.heap.size, 0, none⟩) (Nat.le_refl _) _, HQ.out.2.1.set_ 0 _, HQ.out.2.2.far (p := ⟨w.heap.size, 0, none⟩) (by show ge ≠ w.heap.size; omega) _⟩
                  generalize w7.setCell ⟨w.heap.size, 0, none⟩ (.int .i64 0) = w9 at HQ8 ⊢
                  have d0 : w9.cell? ⟨w.heap.size, 0, none⟩ = some (.int .i64 0) := HQ8.out.2.1.cell 0
                  have d1 : w9.cell? ⟨ge, 0, none⟩ = some (.int .i64 9) := HQ8.out.2.2.cell 0
                  refine ⟨.tuple #[.int .i64 0, .int .i64 9], by simp [results, Tryz.results23, go_sem, d0, d1], by rw [HRS.out], HQ8.out.1⟩
                -- END
            · have h2' : (x.op == 2) = false := beq_eq_false_iff_ne.2 h2
              have h3 : 3 ≤ x.op := by have := (formed_ok HFM.out).1; omega
              have hstO : ∀ hb : beyondL (applyM x.op (kidV vs x x.kids.length 0) (kidV vs x x.kids.length 1) (kidV vs x x.kids.length 2)) = false, stepM σ vs x = Except.ok (applyM x.op (kidV vs x x.kids.length 0) (kidV vs x x.kids.length 1) (kidV vs x x.kids.length 2)) := fun hb => by
                rw [applyM_beyond] at hb
                rw [stepM_op HFM.out h3, hb, if_neg (by decide), applyM_in hb]
              have hstE : ∀ hb : beyondL (applyM x.op (kidV vs x x.kids.length 0) (kidV vs x x.kids.length 1) (kidV vs x x.kids.length 2)) = true, stepM σ vs x = Except.error 9 := fun hb => by
                rw [applyM_beyond] at hb
                rw [stepM_op HFM.out h3, hb, if_pos rfl]
              have HSO := hide hstO
              have HSE := hide hstE
              clear hstO hstE
              go_wp2
              go_loopw [12, 43] (fun s j wq => ∃ (t : Nat) (A4 : Option Addr) (c4 : Nat), t ≤ x.kids.length ∧ j = .int .i64 t ∧ s = .slice A4 t c4 ∧ Own wq w5.heap.size 3 1 A4 t c4 (ints (opsL vs x t)) ∧ Below w5.heap.size w5 wq) (fun _ j _ => x.kids.length - (intOf j).toNat)
              case atStart => exact ⟨0, none, 0, Nat.zero_le _, rfl, rfl, Own.nil _ _ _ _, Below.refl _ _⟩
              case round =>
                obtain ⟨t, A4, c4, ht, rfl, rfl, hown, hbq⟩ := hrel
                have HOW := hide hown
                have HBQ := hide hbq
                clear hown hbq
                have z0 : wr.cell? ⟨wo.heap.size, 0, none⟩ = some (.int .i64 x.op) := (HBQ.out.cell (p := ⟨wo.heap.size, 0, none⟩) hwo).trans y0
                clear y0 y1 y2 y3 v5 fv5
                by_cases htl : t < x.kids.length
                · obtain ⟨bk, offk, rfl, hbk, g0⟩ := HKD5.out.at_ htl
                  have g0' : wr.cell? ⟨bk, offk + t, none⟩ = some (.int .i64 (nth x.kids t)) := (HBQ.out.cell (p := ⟨bk, offk + t, none⟩) (by show bk < _; have := HB5.out.size; omega)).trans g0
                  have hkk : 0 ≤ nth x.kids t ∧ nth x.kids t < k := HKI.out _ (getD_mem x.kids t 0 htl)
                  obtain ⟨m, hm⟩ : ∃ m : Nat, nth x.kids t = m := ⟨(nth x.kids t).toNat, by omega⟩
                  have hmk : m < k := by omega
                  have gm : wr.cell? ⟨gf, m, none⟩ = some (.int .i64 (valAt vs (kidAt x t))) := by
                    have HFQ := HF5.out.below HBQ.out HF5.out.lt
                    rw [HFQ.int (k := m) (by rw [padI_len (by rw [HVL.out]; exact hk)]; omega)]
                    have e1 : kidAt x t = m := hm
                    rw [e1]
                    show some (Value.int .i64 ((padI e.length vs).getD m 0)) = _
                    rw [padI_get (by rw [HVL.out]; exact hmk)]
                    rfl
                  rw [hm] at g0'
                  have HNX := hide (opsL_next vs x t)
                  obtain ⟨u, hu⟩ : ∃ u, u = valAt vs (kidAt x t) := ⟨_, rfl⟩
                  rw [← hu] at gm HNX
                  clear hu hm g0 hkk
                  have hd1 : decide ((m : Int) < 0) = false := decide_eq_false (by omega)
                  have hd2 : decide ((e.length : Int) ≤ (m : Int)) = false := decide_eq_false (by omega)
                  have hd3 : decide (e.length ≤ m) = false := decide_eq_false (by omega)
                  have hme : (m : Int) < (e.length : Int) := by omega
                  have hmx : t + 1 ≤ maxLen := by unfold maxLen; omega
                  have hq5 : w5.heap.size ≤ (wr.alloc (Obj.cells #[.int .i64 u] 3)).heap.size := by
                    have := HBQ.out.size
                    rw [World.size_alloc]
                    omega
                  have RR : Hid (Reads (wr.alloc (Obj.cells #[.int .i64 u] 3)) (wr.heap.size + 1) 1 (some ⟨wr.heap.size, 0, none⟩) 1 (ints [u])) := hide (reads_new wr #[.int .i64 u] 3 1 1 rfl)
                  have HOA := hide (HOW.out.alloc (Obj.cells #[.int .i64 u] 3))
                  have HBA := hide (HBQ.out.alloc HBQ.out.size (Obj.cells #[.int .i64 u] 3))
                  go_wp2_with (at_builtin; refine wpList_app rfl (.tmp 47) (.tmp 52) 31 rfl w5.heap.size 3 (.int .i64 0) 1 8 Tryz.underlying31 int_info rfl (by omega) A4 t c4 (ints (opsL vs x t)) rfl HOA.out _ _ 1 _ _ rfl RR.out (ints_oneCell _) hmx (by omega) hq5 ?_; intro A7 c7 w7 hown7 hbw7 _; rw [← ints_append, ← HNX.out] at hown7; have HO7 := hide hown7; have HB7 := hide (HBA.out.trans hbw7); clear hown7 hbw7)
                  go_roundw
                  case rel => exact ⟨t + 1, A7, c7, by omega, by go_num, rfl, HO7.out, HB7.out⟩
                  case measure => simp [intOf]; omega
                · obtain rfl : t = x.kids.length := by omega
                  have hd5 : decide (x.kids.length < x.kids.length) = false := decide_eq_false (by omega)
                  have HBW := hide (HB5.out.trans (HBQ.out.mono HB5.out.size))
                  have HVq := hide (HV5.out.below HBQ.out HV5.out.lt)
                  have HEq := hide (HE5.out.below HBQ.out HE5.out.lt)
                  have HFq := hide (HF5.out.below HBQ.out HF5.out.lt)
                  have HVMq := hide (HVM5.out.kept (HBQ.out.block b HVM5.out.lt))
                  have HKV : Hid (∀ i, (opsL vs x x.kids.length).getD i 0 = kidV vs x x.kids.length i) := fun i => opsL_get vs x _ i
                  have HIN : Hid (∀ i, inB ((opsL vs x x.kids.length).getD i 0)) := fun i => by rw [opsL_get]; exact kidV_in HVI.out x _ i
                  go_wp2_with fail
                  refine (applyAll_any HFM.out h3 A4 c4 w5.heap.size _ wr HOW.out HIN.out).mono ?_
                  rintro en w6 ⟨rfl, q, rfl⟩
                  rw [HKV.out 0, HKV.out 1, HKV.out 2]
                  have hstO : ∀ hb, _ := HSO.out
                  have hstE : ∀ hb, _ := HSE.out
                  generalize applyM x.op (kidV vs x x.kids.length 0) (kidV vs x x.kids.length 1) (kidV vs x x.kids.length 2) = v at hstO hstE ⊢
                  have HSO2 := hide hstO
                  have HSE2 := hide hstE
                  clear hstO hstE HSO HSE HKV HIN HOW
                  have vq : (wr.drewN q).cell? ⟨w.heap.size, 0, none⟩ = some (.int .i64 (lastI vs)) := HVq.out.cell 0
                  have fvq := (HVq.out.drewN q).frozen 0
                  have HV6 := hide ((HVq.out.drewN q).set_ 0 (.int .i64 v))
                  have HE6 := hide ((HEq.out.drewN q).far (p := ⟨w.heap.size, 0, none⟩) (by show ge ≠ w.heap.size; omega) (.int .i64 v))
                  have HF6 := hide ((HFq.out.drewN q).far (p := ⟨w.heap.size, 0, none⟩) (by show gf ≠ w.heap.size; omega) (.int .i64 v))
                  have HVM6 := hide (HVMq.out.kept (w' := (wr.drewN q).setCell ⟨w.heap.size, 0, none⟩ (.int .i64 v)) (Below.heap_setCell (wr.drewN q) ⟨w.heap.size, 0, none⟩ _ b (by show b ≠ w.heap.size; omega)))
                  have HB6 := hide ((below_drewN HBW.out q).setCell (p := ⟨w.heap.size, 0, none⟩) (Nat.le_refl _) (.int .i64 v))
                  go_upto_region 24 with (fail)
                  generalize (wr.drewN q).setCell ⟨w.heap.size, 0, none⟩ (.int .i64 v) = w6 at HV6 HE6 HF6 HVM6 HB6 ⊢
                  clear HV5 HE5 HF5 HVM5 HB5 HNB HVq HEq HFq HVMq HBQ HBW z0 vq fvq
                  have hstO : ∀ hb : beyondL v = false, stepM σ vs x = Except.ok v := HSO2.out
                  have hstE : ∀ hb : beyondL v = true, stepM σ vs x = Except.error 9 := HSE2.out
                  -- TAIL OP
                  have v6 : w6.cell? ⟨w.heap.size, 0, none⟩ = some (.int .i64 v) := HV6.out.cell 0
                  have e6 : w6.cell? ⟨ge, 0, none⟩ = some (.int .i64 0) := HE6.out.cell 0
                  have fv6 := HV6.out.frozen 0
                  have fe6 := HE6.out.frozen 0
                  cases hbd : beyondL v
                  · have HN := hide (HST.out _ (hstO hbd))
                    have hpl : k < (padI e.length vs).length := by rw [padI_len (by rw [HVL.out]; exact hk)]; exact hlt
                    have gk := HF6.out.int hpl
                    have fk := HF6.out.frozen k
                    generalize nth (padI e.length vs) k = old at gk
                    have R1 : Hid (Blk (w6.setCell ⟨gf, k, none⟩ (.int .i64 v)) gf 3 (ints (padI e.length (vs ++ [v]))).toArray) := by
                      have := HF6.out.setInt k v
                      rw [← HVL.out, padI_set (by rw [HVL.out]; exact hlt)] at this
                      rw [HVL.out] at this
                      exact this
                    have R2 := hide (HV6.out.far (p := ⟨gf, k, none⟩) (by show w.heap.size ≠ gf; omega) (.int .i64 v))
                    have R3 := hide (HE6.out.far (p := ⟨gf, k, none⟩) (by show ge ≠ gf; omega) (.int .i64 v))
                    have R4 := hide (HVM6.out.kept (w' := w6.setCell ⟨gf, k, none⟩ (.int .i64 v)) (Below.heap_setCell w6 ⟨gf, k, none⟩ _ b (by show b ≠ gf; omega)))
                    have R5 := hide (HB6.out.setCell (p := ⟨gf, k, none⟩) (by show w.heap.size ≤ gf; omega) (.int .i64 v))
                    clear hpl
                    go_wp2_with fail
                    refine (meritOut_is _ w6 false hbd).mono ?_
                    rintro en w' ⟨rfl, rfl⟩
                    go_wp2
                    go_roundw
                    case rel => exact ⟨k + 1, _, hlt, by go_num, HN.out, by rw [lastI_snoc]; exact R2.out, R3.out, R1.out, R4.out, R5.out⟩
                    case measure => simp [intOf]; omega
                  · have HN := hide (HER.out _ (hstE hbd))
                    have HRS : Hid (res = (0, 9)) := by
                      show _ = _
                      rw [HG.out, HN.out]
                      rfl
                    go_wp2_with fail
                    refine (meritOut_is _ w6 true hbd).mono ?_
                    rintro en w' ⟨rfl, rfl⟩
                    go_wp2_with fail
                    refine (evalFail_any v 9 w6).mono ?_
                    rintro en w' ⟨rfl, rfl⟩
                    have HQ : Hid (Below w.heap.size w ((w6.setCell ⟨w.heap.size, 0, none⟩ (.int .i64 v)).setCell ⟨ge, 0, none⟩ (.int .i64 9)) ∧ Blk ((w6.setCell ⟨w.heap.size, 0, none⟩ (.int .i64 v)).setCell ⟨ge, 0, none⟩ (.int .i64 9)) w.heap.size 3 #[.int .i64 v] ∧ Blk ((w6.setCell ⟨w.heap.size, 0, none⟩ (.int .i64 v)).setCell ⟨ge, 0, none⟩ (.int .i64 9)) ge 32 #[.int .i64 9]) :=
                      ⟨(HB6.out.setCell (p := ⟨w.heap.size, 0, none⟩) (Nat.le_refl _) _).setCell (p := ⟨ge, 0, none⟩) (Nat.le_of_lt hge) _, (HV6.out.set_ 0 _).far (p := ⟨ge, 0, none⟩) (by show w.heap.size ≠ ge; omega) _, (HE6.out.far (p := ⟨w.heap.size, 0, none⟩) (by show ge ≠ w.heap.size; omega) _).set_ 0 _⟩
                    go_wp2
                    generalize (w6.setCell ⟨w.heap.size, 0, none⟩ (.int .i64 v)).setCell ⟨ge, 0, none⟩ (.int .i64 9) = w7 at HQ ⊢
                    clear v6 e6 fv6 fe6
                    refine leaves_cons (f := 58) (args := #[.pointer (some ⟨ge, 0, none⟩), .pointer (some ⟨w.heap.size, 0, none⟩)]) (by simp) (by simp [go_sem]) ?_
                    refine (evalD_zero w.heap.size ge v 9 .returning w7 HQ.out.2.1 HQ.out.2.2 (by decide)).mono ?_
                    rintro en u' w8 ⟨rfl, rfl, rfl⟩
                    have HQ8 : Hid (Below w.heap.size w (w7.setCell ⟨w.heap.size, 0, none⟩ (.int .i64 0)) ∧ Blk (w7.setCell ⟨w.heap.size, 0, none⟩ (.int .i64 0)) w.heap.size 3 #[.int .i64 0] ∧ Blk (w7.setCell ⟨w.heap.size, 0, none⟩ (.int .i64 0)) ge 32 #[.int .i64 9]) :=
                      ⟨HQ.out.1.setCell (p := ⟨w.heap.size, 0, none⟩) (Nat.le_refl _) _, HQ.out.2.1.set_ 0 _, HQ.out.2.2.far (p := ⟨w.heap.size, 0, none⟩) (by show ge ≠ w.heap.size; omega) _⟩
                    generalize w7.setCell ⟨w.heap.size, 0, none⟩ (.int .i64 0) = w9 at HQ8 ⊢
                    have d0 : w9.cell? ⟨w.heap.size, 0, none⟩ = some (.int .i64 0) := HQ8.out.2.1.cell 0
                    have d1 : w9.cell? ⟨ge, 0, none⟩ = some (.int .i64 9) := HQ8.out.2.2.cell 0
                    refine ⟨.tuple #[.int .i64 0, .int .i64 9], by simp [results, Tryz.results23, go_sem, d0, d1], by rw [HRS.out], HQ8.out.1⟩
                  -- END
        · obtain rfl : k = e.length := by omega
          have HRS : Hid (res = (lastI vs, 0)) := by
            show _ = _
            have := HGO.out
            rw [List.take_length] at this
            rw [HG.out, this]
            show (vs.getD (e.length - 1) 0, (0 : Int)) = _
            rw [← HVL.out]
            rfl
          have v6 : wo.cell? ⟨w.heap.size, 0, none⟩ = some (.int .i64 (lastI vs)) := HV0.out.cell 0
          have e6 : wo.cell? ⟨ge, 0, none⟩ = some (.int .i64 0) := HE0.out.cell 0
          have fv6 := HV0.out.frozen 0
          have fe6 := HE0.out.frozen 0
          have HQ : Hid (Below w.heap.size w ((wo.setCell ⟨w.heap.size, 0, none⟩ (.int .i64 (lastI vs))).setCell ⟨ge, 0, none⟩ (.int .i64 0)) ∧ Blk ((wo.setCell ⟨w.heap.size, 0, none⟩ (.int .i64 (lastI vs))).setCell ⟨ge, 0, none⟩ (.int .i64 0)) w.heap.size 3 #[.int .i64 (lastI vs)] ∧ Blk ((wo.setCell ⟨w.heap.size, 0, none⟩ (.int .i64 (lastI vs))).setCell ⟨ge, 0, none⟩ (.int .i64 0)) ge 32 #[.int .i64 0]) :=
            ⟨(HB.out.setCell (p := ⟨w.heap.size, 0, none⟩) (Nat.le_refl _) _).setCell (p := ⟨ge, 0, none⟩) (Nat.le_of_lt hge) _, (HV0.out.set_ 0 _).far (p := ⟨ge, 0, none⟩) (by show w.heap.size ≠ ge; omega) _, (HE0.out.far (p := ⟨w.heap.size, 0, none⟩) (by show ge ≠ w.heap.size; omega) _).set_ 0 _⟩
          generalize lastI vs = lv at v6 HQ HRS HV0
          clear HV0 HE0 HF0 HVM HB HVI HGO
          go_wp2
          generalize (wo.setCell ⟨w.heap.size, 0, none⟩ (.int .i64 lv)).setCell ⟨ge, 0, none⟩ (.int .i64 0) = w7 at HQ ⊢
          clear v6 e6 fv6 fe6
          refine leaves_cons (f := 58) (args := #[.pointer (some ⟨ge, 0, none⟩), .pointer (some ⟨w.heap.size, 0, none⟩)]) (by simp) (by simp [go_sem]) ?_
          refine (evalD_idle w.heap.size ge (.int .i64 lv) .returning w7 HQ.out.2.2).mono ?_
          rintro en u' w8 ⟨rfl, rfl, rfl⟩
          have d0 : w7.cell? ⟨w.heap.size, 0, none⟩ = some (.int .i64 lv) := HQ.out.2.1.cell 0
          have d1 : w7.cell? ⟨ge, 0, none⟩ = some (.int .i64 0) := HQ.out.2.2.cell 0
          refine ⟨.tuple #[.int .i64 lv, .int .i64 0], by simp [results, Tryz.results23, go_sem, d0, d1], by rw [HRS.out], HQ.out.1⟩
end Go.Proofs.YtkomgidcgepknaaGreatDoor
