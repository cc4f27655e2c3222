/-
  Chapter 22: the law's evaluation, the walk.
-/
import Derived.Test.YtnlcfbaaomdjdaaDoorEvP
import Derived.Test.YtnlcfbaaomdjdaaDoorFew
set_option linter.unusedVariables false
set_option linter.unusedSimpArgs false
namespace Go.Proofs.YtnlcfbaaomdjdaaDoor
open Go.RowKit Go.Deep Go.Maps

/-- What the evaluation leaves. -/
def EvPost (w : World) (r : Int × Bool) (e : Ending) (w' : World) : Prop := e = .returned (.tuple #[.int .i64 r.1, .bool r.2]) ∧ Below w.heap.size w w'
theorem made_pad (n : Nat) : Array.replicate n (Value.int .i64 0) = (ints (padI n [])).toArray := by
  unfold padI ints
  apply Array.toList_inj.1
  simp
theorem padI_zero {n : Nat} {vs : List Int} {k : Nat} (h : vs.length = k) (hk : k < n) : (padI n vs).set k 0 = padI n vs := by
  subst h
  unfold padI
  rw [List.set_append_right _ _ (Nat.le_refl _), Nat.sub_self, show n - vs.length = (n - (vs.length + 1)) + 1 from by omega, List.replicate_succ, List.set_cons_zero]
theorem prod_big {a b : Int} (h : 0 < max a (-a) ∧ 1000000000000 / (max a (-a)) < max b (-b)) : beyondL (a * b) = true := by
  have h1 : 1000000000000 < max b (-b) * max a (-a) := Int.lt_mul_of_ediv_lt h.1 h.2
  cases hb : beyondL (a * b)
  · have h2 := inB_beyond.1 hb
    unfold inB at h2
    rcases Int.le_total 0 a with ha | ha <;> rcases Int.le_total 0 b with hb | hb
    · rw [Int.max_eq_left (by omega), Int.max_eq_left (by omega), Int.mul_comm] at h1
      omega
    · rw [Int.max_eq_right (by omega), Int.max_eq_left (by omega), Int.neg_mul, Int.mul_comm] at h1
      omega
    · rw [Int.max_eq_left (by omega), Int.max_eq_right (by omega), Int.mul_neg, Int.mul_comm] at h1
      omega
    · rw [Int.max_eq_right (by omega), Int.max_eq_right (by omega), Int.neg_mul_neg, Int.mul_comm] at h1
      omega
  · rfl

set_option maxHeartbeats 40000000 in
set_option maxRecDepth 20000 in
theorem eval_any (A : Option Addr) (c : Nat) (e : List Nod) (A2 : Option Addr) (n2 c2 : Nat) (l : List Rng) (A3 : Option Addr) (n3 c3 : Nat) (xs : List Int) (w : World) (he : ExprAt w w.heap.size A e) (hen : ∀ x ∈ e, x.name.size ≤ maxLen) (hlen : e.length ≤ 300)
    (hl : RRg w w.heap.size A2 n2 l) (hln : n2 ≤ maxLen) (hrn : ∀ r ∈ l, r.name.size ≤ maxLen) (hx : RI w w.heap.size A3 n3 xs) (hxn : n3 ≤ maxLen)
    (hnod : ∀ i, i < e.length → formedL (nodAt e i) = true ∧ ∀ j ∈ (nodAt e i).kids, 0 ≤ j ∧ j < i) :
    Calls Tryd.prog 13 #[.slice A e.length c, .slice A2 n2 c2, .slice A3 n3 c3] w (EvPost w (evalR (sigL l xs) e)) := by
  obtain ⟨res, hres⟩ : ∃ res, evalR (sigL l xs) e = res := ⟨_, rfl⟩
  rw [hres]
  have HRES := hide hres
  have HE := hide he
  have HL := hide hl
  have HX := hide hx
  have HEN := hide hen
  have HRN := hide hrn
  have HNOD := hide hnod
  have HLN := hide hl.len
  have HXN := hide hx.len
  have HSG := hide (show ∀ t, sigL l xs t = lastV l xs t (min l.length xs.length) from fun t => rfl)
  unfold maxLen at hln hxn
  clear he hl hx hen hrn hnod hres
  obtain ⟨σ, hσ⟩ : ∃ σ, σ = sigL l xs := ⟨_, rfl⟩
  rw [← hσ] at HRES HSG
  clear hσ
  have HSTOP : Hid (goV σ [] e = none → ((0, false) : Int × Bool) = res) := hide (fun h => by
    rw [← HRES.out]
    unfold evalR
    rw [h])
  have hmk := fun (w : World) => make_run (P := Tryd.prog) 31 3 (.int .i64 0) 8 Tryd.underlying31 int_info rfl e.length (by omega) (by omega) w
  have hga : Blk (w.alloc (.cells (Array.replicate e.length (.int .i64 0)) 3)) w.heap.size 3 (ints (padI e.length [])).toArray := by
    rw [← made_pad]
    exact Blk.new _ _ _
  have hb4 : Below w.heap.size w (w.alloc (.cells (Array.replicate e.length (.int .i64 0)) 3)) := (Below.refl _ _).alloc (Nat.le_refl _) _
  go_enter Tryd.func13, Tryd.ntmps13
  go_upto_region 2 with (fail)
  generalize w.alloc (.cells (Array.replicate e.length (.int .i64 0)) 3) = w4 at hga hb4 ⊢
  clear hmk
  go_wp2
  go_loopw [9] (fun i wr => ∃ (k : Nat) (vs : List Int), k ≤ e.length ∧ i = .int .i64 k ∧ goV σ [] (e.take k) = some vs ∧ Blk wr w.heap.size 3 (ints (padI e.length vs)).toArray ∧ Below w.heap.size w wr) (fun i _ => e.length - (intOf i).toNat)
  case atStart => exact ⟨0, [], Nat.zero_le _, rfl, rfl, hga, hb4⟩
  case round =>
    clear hga hb4
    obtain ⟨k, vs, hk, rfl, hgo, hga, hbr⟩ := hrel
    have hvl : vs.length = k := by
      have := goV_len _ _ _ hgo
      simp at this
      omega
    have HVI := hide (goV_in _ [] vs (fun v hv => absurd hv List.not_mem_nil) hgo)
    have HGO := hide hgo
    have HVL := hide hvl
    have HGA := hide hga
    have HB := hide hbr
    have hgl := hga.lt
    clear hgo hga hbr hvl
    obtain ⟨wo, hwo⟩ : ∃ wo : World, wo = wr := ⟨_, rfl⟩
    subst hwo
    by_cases hlt : k < e.length
    · obtain ⟨be, offe, K, kc, rfl, hbe, x0, x1, x2, x3, hKd⟩ := HE.out.at_ hlt
      have hnk := HNOD.out k hlt
      have hxn1 : (nodAt e k).name.size ≤ maxLen := HEN.out _ (List.mem_of_getElem? (nodAt_get hlt))
      have HST := hide (fun (v : Int) (hs : stepV σ vs (nodAt e k) = some v) => goV_next hlt HGO.out hs)
      have HER := hide (fun (hs : stepV σ vs (nodAt e k) = none) => HSTOP.out (goV_stop hlt HGO.out hs))
      generalize nodAt e k = x at x0 x1 x2 x3 hKd hnk hxn1 HST HER
      have HF := hide hnk.1
      have HKI := hide hnk.2
      have HKD := hide hKd
      have hk3 := formed_kids hnk.1
      have HX0 := hide (show ∀ wq : World, Below w.heap.size w wq → wq.cell? ⟨be, offe + k * 4, none⟩ = some (.int .i64 x.op) ∧ wq.cell? ⟨be, offe + k * 4 + 1, none⟩ = some (.int .i64 x.n) ∧ wq.cell? ⟨be, offe + k * 4 + 2, none⟩ = some (.string x.name) ∧ wq.cell? ⟨be, offe + k * 4 + 3, none⟩ = some (.slice K x.kids.length kc) from
        fun wq hb => ⟨(hb.cell (p := ⟨be, offe + k * 4, none⟩) hbe).trans x0, (hb.cell (p := ⟨be, offe + k * 4 + 1, none⟩) hbe).trans x1, (hb.cell (p := ⟨be, offe + k * 4 + 2, none⟩) hbe).trans x2, (hb.cell (p := ⟨be, offe + k * 4 + 3, none⟩) hbe).trans x3⟩)
      have hB5 : Blk (wo.alloc (Obj.cells #[.int .i64 0, .int .i64 0, .int .i64 0] 58)) wo.heap.size 58 #[.int .i64 0, .int .i64 0, .int .i64 0] := Blk.new _ _ _
      have hb5 : Below wo.heap.size wo (wo.alloc (Obj.cells #[.int .i64 0, .int .i64 0, .int .i64 0] 58)) := (Below.refl _ _).alloc (Nat.le_refl _) _
      clear x0 x1 x2 x3 hnk hKd
      go_upto_region 6 with (fail)
      generalize wo.alloc (Obj.cells #[.int .i64 0, .int .i64 0, .int .i64 0] 58) = w5 at hB5 hb5 ⊢
      have HGA5 := hide (HGA.out.below hb5 hgl)
      have HB5 := hide (HB.out.trans (hb5.mono (Nat.le_of_lt hgl)))
      clear HGA hb5
      generalize wo.heap.size = kb at hgl hB5 ⊢
      have HK5 : Hid (Blk w5 kb 58 (ints (kidL vs x 0)).toArray) := hide hB5
      clear hB5
      go_wp2
      go_loopw [11] (fun j wq => ∃ t : Nat, t ≤ x.kids.length ∧ j = .int .i64 t ∧ Blk wq kb 58 (ints (kidL vs x t)).toArray ∧ Blk wq w.heap.size 3 (ints (padI e.length vs)).toArray ∧ Below w.heap.size w wq) (fun j _ => x.kids.length - (intOf j).toNat)
      case atStart => exact ⟨0, Nat.zero_le _, rfl, HK5.out, HGA5.out, HB5.out⟩
      case round =>
        obtain ⟨t, ht, rfl, hkq, hgq, hbq⟩ := hrel
        have HKQ := hide hkq
        have HGQ := hide hgq
        have HBQ := hide hbq
        obtain ⟨y0, y1, y2, y3⟩ := HX0.out wr hbq
        clear hkq hgq hbq HB5 HGA5 HK5 HB
        obtain ⟨wp, hwp⟩ : ∃ wp : World, wp = wr := ⟨_, rfl⟩
        subst hwp
        by_cases htl : t < x.kids.length
        · obtain ⟨bk, offk, rfl, hbk, g0⟩ := HKD.out.at_ htl
          have g0' : wp.cell? ⟨bk, offk + t, none⟩ = some (.int .i64 (nth x.kids t)) := (HBQ.out.cell (p := ⟨bk, offk + t, none⟩) hbk).trans g0
          have hkk : 0 ≤ nth x.kids t ∧ nth x.kids t < k := HKI.out _ (getD_mem x.kids t 0 htl)
          obtain ⟨m, hm⟩ : ∃ m : Nat, nth x.kids t = m := ⟨(nth x.kids t).toNat, by omega⟩
          have hmk : m < k := by omega
          have gm : wp.cell? ⟨w.heap.size, m, none⟩ = some (.int .i64 (valAt vs (kidAt x t))) := by
            rw [HGQ.out.int (k := m) (by rw [padI_len (by rw [HVL.out]; exact hk)]; omega)]
            have e1 : kidAt x t = m := hm
            rw [e1]
            show some (Value.int .i64 ((padI e.length vs).getD m 0)) = _
            rw [padI_get (by rw [HVL.out]; exact hmk)]
            rfl
          rw [hm] at g0'
          have HS := hide (kidL_set vs x t (by omega))
          obtain ⟨v, hv⟩ : ∃ v, v = valAt vs (kidAt x t) := ⟨_, rfl⟩
          rw [← hv] at gm HS
          have hfr := HKQ.out.frozen t
          have hcl : ∃ u, wp.cell? ⟨kb, t, none⟩ = some u := ⟨_, HKQ.out.int (k := t) (by show t < 3; omega)⟩
          obtain ⟨u, hcl⟩ := hcl
          have hd1 : decide ((m : Int) < 0) = false := decide_eq_false (by omega)
          have hd2 : decide ((k : Int) ≤ (m : Int)) = false := decide_eq_false (by omega)
          have hd3 : decide (k ≤ m) = false := decide_eq_false (by omega)
          have hd4 : decide ((t : Int) < 3) = true := decide_eq_true (by omega)
          have hd5 : decide (t < x.kids.length) = true := decide_eq_true htl
          have ii0 : (0 : Int) ≤ (t : Int) := by omega
          have ii1 : (t : Int) < 3 := by omega
          clear g0 hkk hm hv
          have r1 := HKQ.out.setInt t v
          rw [HS.out] at r1
          have R1 := hide r1
          have R2 := hide (HGQ.out.far (p := ⟨kb, t, none⟩) (by show w.heap.size ≠ kb; omega) (.int .i64 v))
          have R3 := hide (HBQ.out.setCell (p := ⟨kb, t, none⟩) (by show w.heap.size ≤ kb; omega) (.int .i64 v))
          clear r1 HS
          go_wp2
          go_roundw
          case rel => exact ⟨t + 1, htl, by go_num, R1.out, R2.out, R3.out⟩
          case measure => simp [intOf]; omega
        · obtain rfl : t = x.kids.length := by omega
          have hd5 : decide (x.kids.length < x.kids.length) = false := decide_eq_false (by omega)
          have hpl : k < (padI e.length vs).length := by rw [padI_len (by rw [HVL.out]; exact hk)]; exact hlt
          have gk := HGQ.out.int hpl
          have fk := HGQ.out.frozen k
          generalize nth (padI e.length vs) k = old at gk
          have c0 : wp.cell? ⟨kb, 0, none⟩ = some (.int .i64 (kidV vs x x.kids.length 0)) := HKQ.out.int (k := 0) (by show 0 < 3; omega)
          have c1 : wp.cell? ⟨kb, 1, none⟩ = some (.int .i64 (kidV vs x x.kids.length 1)) := HKQ.out.int (k := 1) (by show 1 < 3; omega)
          have c2' : wp.cell? ⟨kb, 2, none⟩ = some (.int .i64 (kidV vs x x.kids.length 2)) := HKQ.out.int (k := 2) (by show 2 < 3; omega)
          have HIN := hide (show ∀ i, inB (kidV vs x x.kids.length i) from fun i => kidV_in HVI.out x _ i)
          -- what a store of a value leaves
          have HSET := hide (show ∀ (wz : World) (v : Int), Blk wz w.heap.size 3 (ints (padI e.length vs)).toArray → Blk (wz.setCell ⟨w.heap.size, k, none⟩ (.int .i64 v)) w.heap.size 3 (ints (padI e.length (vs ++ [v]))).toArray from fun wz v hz => by
            have := hz.setInt k v
            rw [← HVL.out, padI_set (by rw [HVL.out]; exact hlt)] at this
            rw [HVL.out] at this
            exact this)
          have HLAST := hide (show ∀ v : Int, nth (padI e.length (vs ++ [v])) k = v from fun v => by
            show (padI e.length (vs ++ [v])).getD k 0 = v
            rw [padI_get (by rw [List.length_append, HVL.out]; simp), List.getD_eq_getElem?_getD, List.getElem?_append_right (by rw [HVL.out]; exact Nat.le_refl _), HVL.out, Nat.sub_self]
            rfl)
          have HPL := hide (show ∀ v : Int, k < (padI e.length (vs ++ [v])).length from fun v => by rw [padI_len (by rw [List.length_append, HVL.out]; simp; omega)]; exact hlt)
          clear hpl
          by_cases h1 : x.op = 1
          · have hst := stepV_one (σ := σ) (vs := vs) h1
            rw [h1] at y0
            have R1 := hide (HSET.out wp (x.n) HGQ.out)
            have R3 := hide (HBQ.out.setCell (p := ⟨w.heap.size, k, none⟩) (Nat.le_refl _) (.int .i64 (x.n)))
            go_upto_region 46 with (fail)
            generalize (wp).setCell ⟨w.heap.size, k, none⟩ (.int .i64 (x.n)) = w7 at R1 R3 ⊢
            have gz := R1.out.int (HPL.out (x.n))
            rw [HLAST.out] at gz
            have HLB := hide (lawBeyond_any (x.n) w7)
            cases hbd : beyondL (x.n)
            · rw [hbd] at hst HLB
              have HN := hide (HST.out _ hst)
              go_wp2_with fail
              refine HLB.out.mono ?_
              rintro en w' ⟨rfl, rfl⟩
              go_wp2
              go_roundw
              case rel => exact ⟨k + 1, _, hlt, by go_num, HN.out, R1.out, R3.out⟩
              case measure => simp [intOf]; omega
            · rw [hbd] at hst HLB
              have HN := hide (HER.out hst)
              go_wp2_with fail
              refine HLB.out.mono ?_
              rintro en w' ⟨rfl, rfl⟩
              go_wp2
              go_ret2
              rw [← HN.out]
              exact ⟨rfl, R3.out⟩
          · have h1' : (x.op == 1) = false := beq_eq_false_iff_ne.2 h1
            by_cases h2 : x.op = 2
            · as_aux_lemma =>
                have hst := stepV_two (σ := σ) (vs := vs) h2
                rw [h2] at y0
                have hpz : padI e.length (vs ++ [0]) = padI e.length vs := by
                  rw [← padI_set (by rw [HVL.out]; exact hlt), HVL.out, padI_zero HVL.out hlt]
                have HG0 : Hid (Blk wp w.heap.size 3 (ints (padI e.length (vs ++ [0]))).toArray) := by
                  show Blk _ _ _ _
                  rw [hpz]
                  exact HGQ.out
                have HST2 := hide hst
                clear hpz c0 c1 c2' gk fk hst hd5
                go_wp2
                go_loopw [12, 13] (fun ok j wq => ∃ q : Nat, q ≤ min n2 n3 ∧ j = .int .i64 q ∧ ok = .bool (lastV l xs x.name q).isSome ∧ Blk wq w.heap.size 3 (ints (padI e.length (vs ++ [(lastV l xs x.name q).getD 0]))).toArray ∧ Below w.heap.size w wq) (fun _ j _ => min n2 n3 - (intOf j).toNat)
                case atStart => exact ⟨0, Nat.zero_le _, rfl, rfl, HG0.out, HBQ.out⟩
                case round =>
                  obtain ⟨q, hq, rfl, rfl, hgr, hbr⟩ := hrel
                  have HGR := hide hgr
                  have HBR := hide hbr
                  obtain ⟨z0, z1, z2, z3⟩ := HX0.out wr hbr
                  rw [h2] at z0
                  clear hgr hbr y0 y1 y2 y3 HG0
                  obtain ⟨wz, hwz⟩ : ∃ wz : World, wz = wr := ⟨_, rfl⟩
                  subst hwz
                  by_cases hq2 : q < min n2 n3
                  · obtain ⟨br, offr, rfl, hbr, r0', -, -⟩ := HL.out.at_ (i := q) (show q < n2 by omega)
                    obtain ⟨bx, offx, rfl, hbx, rx'⟩ := HX.out.at_ (k := q) (show q < n3 by omega)
                    have r0 : wz.cell? ⟨br, offr + q * 3, none⟩ = some (.string (rngAt l q).name) := (HBR.out.cell (p := ⟨br, offr + q * 3, none⟩) hbr).trans r0'
                    have rx : wz.cell? ⟨bx, offx + q, none⟩ = some (.int .i64 (nth xs q)) := (HBR.out.cell (p := ⟨bx, offx + q, none⟩) hbx).trans rx'
                    have HT := hide (lastV_next l xs x.name q)
                    have hrn1 : (rngAt l q).name.size ≤ maxLen := HRN.out _ (List.mem_of_getElem? (rngAt_get (by rw [HLN.out]; omega)))
                    have HTN : Hid (lastV l xs x.name (q + 1) = if (rngAt l q).name = x.name then some (nth xs q) else lastV l xs x.name q) := HT.out
                    clear HT r0' rx'
                    have b1 : decide ((q : Int) < (n2 : Int)) = true := decide_eq_true (by omega)
                    have b1' : decide (q < n2) = true := decide_eq_true (by omega)
                    have b2 : decide ((q : Int) < (n3 : Int)) = true := decide_eq_true (by omega)
                    have b2' : decide (q < n3) = true := decide_eq_true (by omega)
                    obtain ⟨lv, hlv⟩ : ∃ lv, lv = lastV l xs x.name q := ⟨_, rfl⟩
                    rw [← hlv] at HTN HGR ⊢
                    clear hlv
                    generalize rngAt l q = r at r0 HTN hrn1
                    generalize nth xs q = xv at rx HTN
                    by_cases hn : r.name = x.name
                    · rw [hn] at r0
                      have HTP : Hid (lastV l xs x.name (q + 1) = some xv) := by
                        show _ = _
                        rw [HTN.out, if_pos hn]
                      clear hn
                      go_upto_region 21 with (fail)
                      go_quiet (fail)
                      have R0 : Hid (Blk (wz.drewN nq) w.heap.size 3 (ints (padI e.length (vs ++ [lv.getD 0]))).toArray) := HGR
                      have R3 := hide ((below_drewN HBR.out nq).setCell (p := ⟨w.heap.size, k, none⟩) (Nat.le_refl _) (.int .i64 xv))
                      have R1' := R0.out.setInt k xv
                      have hss : (padI e.length (vs ++ [lv.getD 0])).set k xv = padI e.length (vs ++ [xv]) := by
                        rw [← padI_set (by rw [HVL.out]; exact hlt), ← padI_set (by rw [HVL.out]; exact hlt), HVL.out, List.set_set]
                      rw [hss] at R1'
                      have R1 := hide R1'
                      have gq := R0.out.int (HPL.out (lv.getD 0))
                      have fq := R0.out.frozen k
                      have rx2 : (wz.drewN nq).cell? ⟨bx, offx + q, none⟩ = some (.int .i64 xv) := rx
                      clear R1' hss
                      go_wp2
                      go_roundw
                      case rel => exact ⟨q + 1, by omega, by go_num, by rw [HTP.out]; rfl, by rw [HTP.out]; exact R1.out, R3.out⟩
                      case measure => simp [intOf]; omega
                    · have hn' := bytes_ne hn
                      have HTP : Hid (lastV l xs x.name (q + 1) = lv) := by
                        show _ = _
                        rw [HTN.out, if_neg hn]
                      clear hn
                      go_upto_region 21 with (fail)
                      go_quiet (fail)
                      go_wp2
                      go_roundw
                      case rel => exact ⟨q + 1, by omega, by go_num, by rw [HTP.out], by rw [HTP.out]; exact HGR.out, below_drewN HBR.out _⟩
                      case measure => simp [intOf]; omega
                  · have hqe : q = min n2 n3 := by omega
                    have HSX : Hid (σ x.name = lastV l xs x.name q) := by
                      show _ = _
                      rw [HSG.out, HLN.out, HXN.out, hqe]
                    have hex : (decide (q < n2) = false) ∨ (decide (q < n2) = true ∧ decide (q < n3) = false) := by
                      by_cases h1 : q < n2
                      · exact .inr ⟨decide_eq_true h1, decide_eq_false (by omega)⟩
                      · exact .inl (decide_eq_false h1)
                    clear hqe
                    cases hlv : lastV l xs x.name q with
                    | none =>
                      rw [hlv] at HSX
                      have HN := hide (HER.out (by rw [HST2.out, HSX.out]))
                      rcases hex with b1 | ⟨b1, b2⟩
                      all_goals
                        go_wp2
                        go_ret2
                        rw [← HN.out]
                        exact ⟨rfl, HBR.out⟩
                    | some v =>
                      rw [hlv] at HSX HGR
                      have hst : stepV σ vs x = if beyondL v = true then none else some v := by
                        rw [HST2.out, HSX.out]
                      have gz := HGR.out.int (HPL.out v)
                      rw [HLAST.out] at gz
                      have HLB := hide (lawBeyond_any v wz)
                      cases hbd : beyondL v
                      · rw [hbd] at hst HLB
                        have HN := hide (HST.out _ hst)
                        rcases hex with b1 | ⟨b1, b2⟩
                        all_goals
                          go_wp2_with fail
                          refine HLB.out.mono ?_
                          rintro en w' ⟨rfl, rfl⟩
                          go_wp2
                          go_roundw
                          case rel => exact ⟨k + 1, _, hlt, by go_num, HN.out, HGR.out, HBR.out⟩
                          case measure => simp [intOf]; omega
                      · rw [hbd] at hst HLB
                        have HN := hide (HER.out hst)
                        rcases hex with b1 | ⟨b1, b2⟩
                        all_goals
                          go_wp2_with fail
                          refine HLB.out.mono ?_
                          rintro en w' ⟨rfl, rfl⟩
                          go_wp2
                          go_ret2
                          rw [← HN.out]
                          exact ⟨rfl, HBR.out⟩
            · have hok := formed_ok HF.out
              have hop3 : 3 ≤ x.op := by have := hok.1; omega
              have hop12 : x.op ≤ 12 := hok.2.1
              have hst := stepV_op (σ := σ) (vs := vs) HF.out hop3
              have hi0 := HIN.out 0
              have hi1 := HIN.out 1
              have hi2 := HIN.out 2
              generalize kidV vs x x.kids.length 0 = d0 at c0 hst hi0
              generalize kidV vs x x.kids.length 1 = d1 at c1 hst hi1
              generalize kidV vs x x.kids.length 2 = d2 at c2' hst hi2
              unfold inB at hi0 hi1 hi2
              clear h1 h2 h1' hok HIN HKI HKD HF
              have hops : x.op = 3 ∨ x.op = 4 ∨ x.op = 5 ∨ x.op = 6 ∨ x.op = 7 ∨ x.op = 8 ∨ x.op = 9 ∨ x.op = 10 ∨ x.op = 11 ∨ x.op = 12 := by omega
              rcases hops with ho | ho | ho | ho | ho | ho | ho | ho | ho | ho
              · as_aux_lemma =>
                  rw [ho] at y0 hst
                  have hov : opV 3 d0 d1 d2 = d0 + d1 := rfl
                  rw [hov] at hst
                  clear hov hop3 hop12 ho
                  have R1 := hide (HSET.out wp (d0 + d1) HGQ.out)
                  have R3 := hide (HBQ.out.setCell (p := ⟨w.heap.size, k, none⟩) (Nat.le_refl _) (.int .i64 (d0 + d1)))
                  go_upto_region 46 with (fail)
                  generalize (wp).setCell ⟨w.heap.size, k, none⟩ (.int .i64 (d0 + d1)) = w7 at R1 R3 ⊢
                  have gz := R1.out.int (HPL.out (d0 + d1))
                  rw [HLAST.out] at gz
                  have HLB := hide (lawBeyond_any (d0 + d1) w7)
                  cases hbd : beyondL (d0 + d1)
                  · rw [hbd] at hst HLB
                    have HN := hide (HST.out _ hst)
                    go_wp2_with fail
                    refine HLB.out.mono ?_
                    rintro en w' ⟨rfl, rfl⟩
                    go_wp2
                    go_roundw
                    case rel => exact ⟨k + 1, _, hlt, by go_num, HN.out, R1.out, R3.out⟩
                    case measure => simp [intOf]; omega
                  · rw [hbd] at hst HLB
                    have HN := hide (HER.out hst)
                    go_wp2_with fail
                    refine HLB.out.mono ?_
                    rintro en w' ⟨rfl, rfl⟩
                    go_wp2
                    go_ret2
                    rw [← HN.out]
                    exact ⟨rfl, R3.out⟩
              · as_aux_lemma =>
                  rw [ho] at y0 hst
                  have hov : opV 4 d0 d1 d2 = d0 - d1 := rfl
                  rw [hov] at hst
                  clear hov hop3 hop12 ho
                  have R1 := hide (HSET.out wp (d0 - d1) HGQ.out)
                  have R3 := hide (HBQ.out.setCell (p := ⟨w.heap.size, k, none⟩) (Nat.le_refl _) (.int .i64 (d0 - d1)))
                  go_upto_region 46 with (fail)
                  generalize (wp).setCell ⟨w.heap.size, k, none⟩ (.int .i64 (d0 - d1)) = w7 at R1 R3 ⊢
                  have gz := R1.out.int (HPL.out (d0 - d1))
                  rw [HLAST.out] at gz
                  have HLB := hide (lawBeyond_any (d0 - d1) w7)
                  cases hbd : beyondL (d0 - d1)
                  · rw [hbd] at hst HLB
                    have HN := hide (HST.out _ hst)
                    go_wp2_with fail
                    refine HLB.out.mono ?_
                    rintro en w' ⟨rfl, rfl⟩
                    go_wp2
                    go_roundw
                    case rel => exact ⟨k + 1, _, hlt, by go_num, HN.out, R1.out, R3.out⟩
                    case measure => simp [intOf]; omega
                  · rw [hbd] at hst HLB
                    have HN := hide (HER.out hst)
                    go_wp2_with fail
                    refine HLB.out.mono ?_
                    rintro en w' ⟨rfl, rfl⟩
                    go_wp2
                    go_ret2
                    rw [← HN.out]
                    exact ⟨rfl, R3.out⟩
              · as_aux_lemma =>
                  rw [ho] at y0 hst
                  have hov : opV 5 d0 d1 d2 = d0 * d1 := rfl
                  rw [hov] at hst
                  clear hov hop3 hop12 ho
                  have HPR := hide (product_any d0 d1 hi0 hi1 wp)
                  by_cases hbig : 0 < max d0 (-d0) ∧ 1000000000000 / (max d0 (-d0)) < max d1 (-d1)
                  · have hpv : prodV d0 d1 = .tuple #[.int .i64 0, .bool false] := if_pos hbig
                    rw [hpv] at HPR
                    rw [prod_big hbig] at hst
                    have HN := hide (HER.out hst)
                    have R3 := hide (HBQ.out.setCell (p := ⟨w.heap.size, k, none⟩) (Nat.le_refl _) (.int .i64 0))
                    clear hpv hbig
                    go_wp2_with fail
                    refine HPR.out.mono ?_
                    rintro en w' ⟨rfl, rfl⟩
                    go_wp2
                    go_ret2
                    rw [← HN.out]
                    exact ⟨rfl, R3.out⟩
                  · have hpv : prodV d0 d1 = .tuple #[.int .i64 (d0 * d1), .bool true] := if_neg hbig
                    rw [hpv] at HPR
                    have hpf := prod_fit hbig
                    clear hpv hbig
                    go_wp2_with fail
                    refine HPR.out.mono ?_
                    rintro en w' ⟨rfl, rfl⟩
                    have R1 := hide (HSET.out wp (d0 * d1) HGQ.out)
                    have R3 := hide (HBQ.out.setCell (p := ⟨w.heap.size, k, none⟩) (Nat.le_refl _) (.int .i64 (d0 * d1)))
                    go_upto_region 46 with (fail)
                    generalize (wp).setCell ⟨w.heap.size, k, none⟩ (.int .i64 (d0 * d1)) = w7 at R1 R3 ⊢
                    have gz := R1.out.int (HPL.out (d0 * d1))
                    rw [HLAST.out] at gz
                    have HLB := hide (lawBeyond_any (d0 * d1) w7)
                    cases hbd : beyondL (d0 * d1)
                    · rw [hbd] at hst HLB
                      have HN := hide (HST.out _ hst)
                      go_wp2_with fail
                      refine HLB.out.mono ?_
                      rintro en w' ⟨rfl, rfl⟩
                      go_wp2
                      go_roundw
                      case rel => exact ⟨k + 1, _, hlt, by go_num, HN.out, R1.out, R3.out⟩
                      case measure => simp [intOf]; omega
                    · rw [hbd] at hst HLB
                      have HN := hide (HER.out hst)
                      go_wp2_with fail
                      refine HLB.out.mono ?_
                      rintro en w' ⟨rfl, rfl⟩
                      go_wp2
                      go_ret2
                      rw [← HN.out]
                      exact ⟨rfl, R3.out⟩
              · as_aux_lemma =>
                  rw [ho] at y0 hst
                  have hov : opV 6 d0 d1 d2 = quot d0 d1 := rfl
                  rw [hov] at hst
                  clear hov hop3 hop12 ho
                  have HQR := hide (quotient_any d0 d1 hi0 hi1 wp)
                  go_wp2_with fail
                  refine HQR.out.mono ?_
                  rintro en w' ⟨rfl, rfl⟩
                  have R1 := hide (HSET.out wp (quot d0 d1) HGQ.out)
                  have R3 := hide (HBQ.out.setCell (p := ⟨w.heap.size, k, none⟩) (Nat.le_refl _) (.int .i64 (quot d0 d1)))
                  go_upto_region 46 with (fail)
                  generalize (wp).setCell ⟨w.heap.size, k, none⟩ (.int .i64 (quot d0 d1)) = w7 at R1 R3 ⊢
                  have gz := R1.out.int (HPL.out (quot d0 d1))
                  rw [HLAST.out] at gz
                  have HLB := hide (lawBeyond_any (quot d0 d1) w7)
                  cases hbd : beyondL (quot d0 d1)
                  · rw [hbd] at hst HLB
                    have HN := hide (HST.out _ hst)
                    go_wp2_with fail
                    refine HLB.out.mono ?_
                    rintro en w' ⟨rfl, rfl⟩
                    go_wp2
                    go_roundw
                    case rel => exact ⟨k + 1, _, hlt, by go_num, HN.out, R1.out, R3.out⟩
                    case measure => simp [intOf]; omega
                  · rw [hbd] at hst HLB
                    have HN := hide (HER.out hst)
                    go_wp2_with fail
                    refine HLB.out.mono ?_
                    rintro en w' ⟨rfl, rfl⟩
                    go_wp2
                    go_ret2
                    rw [← HN.out]
                    exact ⟨rfl, R3.out⟩
              · as_aux_lemma =>
                  rw [ho] at y0 hst
                  have hov : opV 7 d0 d1 d2 = min d0 d1 := rfl
                  rw [hov] at hst
                  clear hov hop3 hop12 ho
                  have R1 := hide (HSET.out wp (min d0 d1) HGQ.out)
                  have R3 := hide (HBQ.out.setCell (p := ⟨w.heap.size, k, none⟩) (Nat.le_refl _) (.int .i64 (min d0 d1)))
                  go_upto_region 46 with (fail)
                  generalize (wp).setCell ⟨w.heap.size, k, none⟩ (.int .i64 (min d0 d1)) = w7 at R1 R3 ⊢
                  have gz := R1.out.int (HPL.out (min d0 d1))
                  rw [HLAST.out] at gz
                  have HLB := hide (lawBeyond_any (min d0 d1) w7)
                  cases hbd : beyondL (min d0 d1)
                  · rw [hbd] at hst HLB
                    have HN := hide (HST.out _ hst)
                    go_wp2_with fail
                    refine HLB.out.mono ?_
                    rintro en w' ⟨rfl, rfl⟩
                    go_wp2
                    go_roundw
                    case rel => exact ⟨k + 1, _, hlt, by go_num, HN.out, R1.out, R3.out⟩
                    case measure => simp [intOf]; omega
                  · rw [hbd] at hst HLB
                    have HN := hide (HER.out hst)
                    go_wp2_with fail
                    refine HLB.out.mono ?_
                    rintro en w' ⟨rfl, rfl⟩
                    go_wp2
                    go_ret2
                    rw [← HN.out]
                    exact ⟨rfl, R3.out⟩
              · as_aux_lemma =>
                  rw [ho] at y0 hst
                  have hov : opV 8 d0 d1 d2 = max d0 d1 := rfl
                  rw [hov] at hst
                  clear hov hop3 hop12 ho
                  have R1 := hide (HSET.out wp (max d0 d1) HGQ.out)
                  have R3 := hide (HBQ.out.setCell (p := ⟨w.heap.size, k, none⟩) (Nat.le_refl _) (.int .i64 (max d0 d1)))
                  go_upto_region 46 with (fail)
                  generalize (wp).setCell ⟨w.heap.size, k, none⟩ (.int .i64 (max d0 d1)) = w7 at R1 R3 ⊢
                  have gz := R1.out.int (HPL.out (max d0 d1))
                  rw [HLAST.out] at gz
                  have HLB := hide (lawBeyond_any (max d0 d1) w7)
                  cases hbd : beyondL (max d0 d1)
                  · rw [hbd] at hst HLB
                    have HN := hide (HST.out _ hst)
                    go_wp2_with fail
                    refine HLB.out.mono ?_
                    rintro en w' ⟨rfl, rfl⟩
                    go_wp2
                    go_roundw
                    case rel => exact ⟨k + 1, _, hlt, by go_num, HN.out, R1.out, R3.out⟩
                    case measure => simp [intOf]; omega
                  · rw [hbd] at hst HLB
                    have HN := hide (HER.out hst)
                    go_wp2_with fail
                    refine HLB.out.mono ?_
                    rintro en w' ⟨rfl, rfl⟩
                    go_wp2
                    go_ret2
                    rw [← HN.out]
                    exact ⟨rfl, R3.out⟩
              · as_aux_lemma =>
                  rw [ho] at y0 hst
                  have hov : opV 9 d0 d1 d2 = (if 0 < d0 then d1 else d2) := rfl
                  rw [hov] at hst
                  clear hov hop3 hop12 ho
                  by_cases hz : 0 < d0
                  · rw [if_pos hz] at hst
                    have hz' : decide (0 < d0) = true := decide_eq_true hz
                    have S1 := hide (HGQ.out.setInt k d2)
                    have S3 := hide (HBQ.out.setCell (p := ⟨w.heap.size, k, none⟩) (Nat.le_refl _) (.int .i64 d2))
                    have e0 : (wp.setCell ⟨w.heap.size, k, none⟩ (.int .i64 d2)).cell? ⟨kb, 0, none⟩ = some (.int .i64 d0) := (World.cell?_setCell_other wp ⟨w.heap.size, k, none⟩ ⟨kb, 0, none⟩ _ (fun h => by injection h with h; omega)).trans c0
                    have e1 : (wp.setCell ⟨w.heap.size, k, none⟩ (.int .i64 d2)).cell? ⟨kb, 1, none⟩ = some (.int .i64 d1) := (World.cell?_setCell_other wp ⟨w.heap.size, k, none⟩ ⟨kb, 1, none⟩ _ (fun h => by injection h with h; omega)).trans c1
                    go_upto_region 40 with (fail)
                    generalize wp.setCell ⟨w.heap.size, k, none⟩ (.int .i64 d2) = w6 at S1 S3 e0 e1 ⊢
                    have f6 := S1.out.frozen k
                    have g6 := S1.out.int (k := k) (by rw [List.length_set, padI_len (by rw [HVL.out]; exact hk)]; exact hlt)
                    have r1 := S1.out.setInt k d1
                    rw [List.set_set, ← HVL.out, padI_set (by rw [HVL.out]; exact hlt), HVL.out] at r1
                    have R1 := hide r1
                    have R3 := hide (S3.out.setCell (p := ⟨w.heap.size, k, none⟩) (Nat.le_refl _) (.int .i64 d1))
                    clear r1
                    go_upto_region 46 with (fail)
                    generalize w6.setCell ⟨w.heap.size, k, none⟩ (.int .i64 d1) = w7 at R1 R3 ⊢
                    have gz := R1.out.int (HPL.out d1)
                    rw [HLAST.out] at gz
                    have HLB := hide (lawBeyond_any (d1) w7)
                    cases hbd : beyondL (d1)
                    · rw [hbd] at hst HLB
                      have HN := hide (HST.out _ hst)
                      go_wp2_with fail
                      refine HLB.out.mono ?_
                      rintro en w' ⟨rfl, rfl⟩
                      go_wp2
                      go_roundw
                      case rel => exact ⟨k + 1, _, hlt, by go_num, HN.out, R1.out, R3.out⟩
                      case measure => simp [intOf]; omega
                    · rw [hbd] at hst HLB
                      have HN := hide (HER.out hst)
                      go_wp2_with fail
                      refine HLB.out.mono ?_
                      rintro en w' ⟨rfl, rfl⟩
                      go_wp2
                      go_ret2
                      rw [← HN.out]
                      exact ⟨rfl, R3.out⟩
                  · rw [if_neg hz] at hst
                    have hz' : decide (0 < d0) = false := decide_eq_false hz
                    have e0 : (wp.setCell ⟨w.heap.size, k, none⟩ (.int .i64 d2)).cell? ⟨kb, 0, none⟩ = some (.int .i64 d0) := (World.cell?_setCell_other wp ⟨w.heap.size, k, none⟩ ⟨kb, 0, none⟩ _ (fun h => by injection h with h; omega)).trans c0
                    have R1 := hide (HSET.out wp (d2) HGQ.out)
                    have R3 := hide (HBQ.out.setCell (p := ⟨w.heap.size, k, none⟩) (Nat.le_refl _) (.int .i64 (d2)))
                    go_upto_region 46 with (fail)
                    generalize (wp).setCell ⟨w.heap.size, k, none⟩ (.int .i64 (d2)) = w7 at R1 R3 ⊢
                    have gz := R1.out.int (HPL.out (d2))
                    rw [HLAST.out] at gz
                    have HLB := hide (lawBeyond_any (d2) w7)
                    cases hbd : beyondL (d2)
                    · rw [hbd] at hst HLB
                      have HN := hide (HST.out _ hst)
                      go_wp2_with fail
                      refine HLB.out.mono ?_
                      rintro en w' ⟨rfl, rfl⟩
                      go_wp2
                      go_roundw
                      case rel => exact ⟨k + 1, _, hlt, by go_num, HN.out, R1.out, R3.out⟩
                      case measure => simp [intOf]; omega
                    · rw [hbd] at hst HLB
                      have HN := hide (HER.out hst)
                      go_wp2_with fail
                      refine HLB.out.mono ?_
                      rintro en w' ⟨rfl, rfl⟩
                      go_wp2
                      go_ret2
                      rw [← HN.out]
                      exact ⟨rfl, R3.out⟩
              · as_aux_lemma =>
                  rw [ho] at y0 hst
                  have hov : opV 10 d0 d1 d2 = (if d0 < d1 then 1 else 0) := rfl
                  rw [hov] at hst
                  clear hov hop3 hop12 ho
                  by_cases hz : d0 < d1
                  · rw [if_pos hz] at hst
                    have hz' : decide (d0 < d1) = true := decide_eq_true hz
                    have HFL := hide (flag_any true wp)
                    rw [if_pos rfl] at HFL
                    go_wp2_with fail
                    refine HFL.out.mono ?_
                    rintro en w' ⟨rfl, rfl⟩
                    have R1 := hide (HSET.out wp (1) HGQ.out)
                    have R3 := hide (HBQ.out.setCell (p := ⟨w.heap.size, k, none⟩) (Nat.le_refl _) (.int .i64 (1)))
                    go_upto_region 46 with (fail)
                    generalize (wp).setCell ⟨w.heap.size, k, none⟩ (.int .i64 (1)) = w7 at R1 R3 ⊢
                    have gz := R1.out.int (HPL.out (1))
                    rw [HLAST.out] at gz
                    have HLB := hide (lawBeyond_any (1) w7)
                    cases hbd : beyondL (1)
                    · rw [hbd] at hst HLB
                      have HN := hide (HST.out _ hst)
                      go_wp2_with fail
                      refine HLB.out.mono ?_
                      rintro en w' ⟨rfl, rfl⟩
                      go_wp2
                      go_roundw
                      case rel => exact ⟨k + 1, _, hlt, by go_num, HN.out, R1.out, R3.out⟩
                      case measure => simp [intOf]; omega
                    · rw [hbd] at hst HLB
                      have HN := hide (HER.out hst)
                      go_wp2_with fail
                      refine HLB.out.mono ?_
                      rintro en w' ⟨rfl, rfl⟩
                      go_wp2
                      go_ret2
                      rw [← HN.out]
                      exact ⟨rfl, R3.out⟩
                  · rw [if_neg hz] at hst
                    have hz' : decide (d0 < d1) = false := decide_eq_false hz
                    have HFL := hide (flag_any false wp)
                    rw [if_neg (by decide)] at HFL
                    go_wp2_with fail
                    refine HFL.out.mono ?_
                    rintro en w' ⟨rfl, rfl⟩
                    have R1 := hide (HSET.out wp (0) HGQ.out)
                    have R3 := hide (HBQ.out.setCell (p := ⟨w.heap.size, k, none⟩) (Nat.le_refl _) (.int .i64 (0)))
                    go_upto_region 46 with (fail)
                    generalize (wp).setCell ⟨w.heap.size, k, none⟩ (.int .i64 (0)) = w7 at R1 R3 ⊢
                    have gz := R1.out.int (HPL.out (0))
                    rw [HLAST.out] at gz
                    have HLB := hide (lawBeyond_any (0) w7)
                    cases hbd : beyondL (0)
                    · rw [hbd] at hst HLB
                      have HN := hide (HST.out _ hst)
                      go_wp2_with fail
                      refine HLB.out.mono ?_
                      rintro en w' ⟨rfl, rfl⟩
                      go_wp2
                      go_roundw
                      case rel => exact ⟨k + 1, _, hlt, by go_num, HN.out, R1.out, R3.out⟩
                      case measure => simp [intOf]; omega
                    · rw [hbd] at hst HLB
                      have HN := hide (HER.out hst)
                      go_wp2_with fail
                      refine HLB.out.mono ?_
                      rintro en w' ⟨rfl, rfl⟩
                      go_wp2
                      go_ret2
                      rw [← HN.out]
                      exact ⟨rfl, R3.out⟩
              · as_aux_lemma =>
                  rw [ho] at y0 hst
                  have hov : opV 11 d0 d1 d2 = (if d0 = d1 then 1 else 0) := rfl
                  rw [hov] at hst
                  clear hov hop3 hop12 ho
                  by_cases hz : d0 = d1
                  · rw [if_pos hz] at hst
                    have hz' : decide (d0 = d1) = true := decide_eq_true hz
                    have hz2 : (d0 == d1) = true := beq_iff_eq.2 hz
                    have HFL := hide (flag_any true wp)
                    rw [if_pos rfl] at HFL
                    go_wp2_with fail
                    refine HFL.out.mono ?_
                    rintro en w' ⟨rfl, rfl⟩
                    have R1 := hide (HSET.out wp (1) HGQ.out)
                    have R3 := hide (HBQ.out.setCell (p := ⟨w.heap.size, k, none⟩) (Nat.le_refl _) (.int .i64 (1)))
                    go_upto_region 46 with (fail)
                    generalize (wp).setCell ⟨w.heap.size, k, none⟩ (.int .i64 (1)) = w7 at R1 R3 ⊢
                    have gz := R1.out.int (HPL.out (1))
                    rw [HLAST.out] at gz
                    have HLB := hide (lawBeyond_any (1) w7)
                    cases hbd : beyondL (1)
                    · rw [hbd] at hst HLB
                      have HN := hide (HST.out _ hst)
                      go_wp2_with fail
                      refine HLB.out.mono ?_
                      rintro en w' ⟨rfl, rfl⟩
                      go_wp2
                      go_roundw
                      case rel => exact ⟨k + 1, _, hlt, by go_num, HN.out, R1.out, R3.out⟩
                      case measure => simp [intOf]; omega
                    · rw [hbd] at hst HLB
                      have HN := hide (HER.out hst)
                      go_wp2_with fail
                      refine HLB.out.mono ?_
                      rintro en w' ⟨rfl, rfl⟩
                      go_wp2
                      go_ret2
                      rw [← HN.out]
                      exact ⟨rfl, R3.out⟩
                  · rw [if_neg hz] at hst
                    have hz' : decide (d0 = d1) = false := decide_eq_false hz
                    have hz2 : (d0 == d1) = false := beq_eq_false_iff_ne.2 hz
                    have HFL := hide (flag_any false wp)
                    rw [if_neg (by decide)] at HFL
                    go_wp2_with fail
                    refine HFL.out.mono ?_
                    rintro en w' ⟨rfl, rfl⟩
                    have R1 := hide (HSET.out wp (0) HGQ.out)
                    have R3 := hide (HBQ.out.setCell (p := ⟨w.heap.size, k, none⟩) (Nat.le_refl _) (.int .i64 (0)))
                    go_upto_region 46 with (fail)
                    generalize (wp).setCell ⟨w.heap.size, k, none⟩ (.int .i64 (0)) = w7 at R1 R3 ⊢
                    have gz := R1.out.int (HPL.out (0))
                    rw [HLAST.out] at gz
                    have HLB := hide (lawBeyond_any (0) w7)
                    cases hbd : beyondL (0)
                    · rw [hbd] at hst HLB
                      have HN := hide (HST.out _ hst)
                      go_wp2_with fail
                      refine HLB.out.mono ?_
                      rintro en w' ⟨rfl, rfl⟩
                      go_wp2
                      go_roundw
                      case rel => exact ⟨k + 1, _, hlt, by go_num, HN.out, R1.out, R3.out⟩
                      case measure => simp [intOf]; omega
                    · rw [hbd] at hst HLB
                      have HN := hide (HER.out hst)
                      go_wp2_with fail
                      refine HLB.out.mono ?_
                      rintro en w' ⟨rfl, rfl⟩
                      go_wp2
                      go_ret2
                      rw [← HN.out]
                      exact ⟨rfl, R3.out⟩
              · as_aux_lemma =>
                  rw [ho] at y0 hst
                  have hov : opV 12 d0 d1 d2 = -d0 := rfl
                  rw [hov] at hst
                  clear hov hop3 hop12 ho
                  have R1 := hide (HSET.out wp (-d0) HGQ.out)
                  have R3 := hide (HBQ.out.setCell (p := ⟨w.heap.size, k, none⟩) (Nat.le_refl _) (.int .i64 (-d0)))
                  go_upto_region 46 with (fail)
                  generalize (wp).setCell ⟨w.heap.size, k, none⟩ (.int .i64 (-d0)) = w7 at R1 R3 ⊢
                  have gz := R1.out.int (HPL.out (-d0))
                  rw [HLAST.out] at gz
                  have HLB := hide (lawBeyond_any (-d0) w7)
                  cases hbd : beyondL (-d0)
                  · rw [hbd] at hst HLB
                    have HN := hide (HST.out _ hst)
                    go_wp2_with fail
                    refine HLB.out.mono ?_
                    rintro en w' ⟨rfl, rfl⟩
                    go_wp2
                    go_roundw
                    case rel => exact ⟨k + 1, _, hlt, by go_num, HN.out, R1.out, R3.out⟩
                    case measure => simp [intOf]; omega
                  · rw [hbd] at hst HLB
                    have HN := hide (HER.out hst)
                    go_wp2_with fail
                    refine HLB.out.mono ?_
                    rintro en w' ⟨rfl, rfl⟩
                    go_wp2
                    go_ret2
                    rw [← HN.out]
                    exact ⟨rfl, R3.out⟩
    · obtain rfl : k = e.length := by omega
      have hgo := HGO.out
      rw [List.take_length] at hgo
      by_cases h0 : e.length = 0
      · have HN : Hid (((0, false) : Int × Bool) = res) := hide (by
          rw [← HRES.out]
          unfold evalR
          rw [hgo]
          simp [h0])
        have h0' : ((e.length : Int) == 0) = true := by simp [h0]
        go_wp2
        go_ret2
        rw [← HN.out]
        exact ⟨rfl, HB.out⟩
      · have HN : Hid ((vs.getD (e.length - 1) 0, true) = res) := hide (by
          rw [← HRES.out]
          unfold evalR
          rw [hgo]
          simp [h0])
        have h0' : ((e.length : Int) == 0) = false := beq_eq_false_iff_ne.2 (by omega)
        have hpos : 0 < e.length := by omega
        have gl : wo.cell? ⟨w.heap.size, e.length - 1, none⟩ = some (.int .i64 (vs.getD (e.length - 1) 0)) := by
          rw [HGA.out.int (k := e.length - 1) (by rw [padI_len (by rw [HVL.out]; exact hk)]; omega)]
          show some (Value.int .i64 ((padI e.length vs).getD (e.length - 1) 0)) = _
          rw [padI_get (by rw [HVL.out]; omega)]
        generalize vs.getD (e.length - 1) 0 = v at gl HN
        have HB1 := hide HB.out
        clear HGA HGO HVL HVI HRES HSTOP HNOD HEN HE HL HX hgo hk h0 hlt HB
        generalize e.length = n at gl hpos h0' hlen ⊢
        obtain ⟨n1, rfl⟩ : ∃ n1, n = n1 + 1 := ⟨n - 1, by omega⟩
        rw [Nat.add_sub_cancel] at gl
        go_wp2
        go_ret2
        rw [← HN.out]
        exact ⟨rfl, HB1.out⟩
end Go.Proofs.YtnlcfbaaomdjdaaDoor
