/-
  Chapter 54: the walk of NetLines.
-/
import Derived.Test.YtnoihbbfodkejaaPair
import Derived.Test.YtnoihbbfodkejaaPlain7
import Derived.Laws.StructEq
import Derived.Deep.RegionHeld3
import Derived.Deep.DeepCutAuto
namespace Go.Proofs.Ytnoihbbfodkejaa
open Go.RowKit Go.Maps

/-- A step as one value. -/
def St.val (x : St) : Value := .agg #[.int .i64 x.kind, .int .i64 x.a, .int .i64 x.b, .int .i64 x.n, .string x.text, .bool x.lost, .bool x.again]
def Res.val (r : Res) : Value := .agg #[.int .i64 r.err, .string r.text, .bool r.ok]
theorem neq_res (r : Res) (w : World) : (binOp .neq 43 (.agg #[.int .i64 r.err, .string r.text, .bool r.ok]) (.agg #[.int .i64 r.err, .string r.text, .bool r.ok])).run Try.prog w = .ok (.bool false) w := by
  have hs : Try.prog.stoodInHeld 43 = false := by kernel_rfl
  have ht : Try.prog.underlying 43 = some (.struct (Try.prog.fieldsOf 43)) := by kernel_rfl
  have e0 := Try.underlying26
  have e1 := Try.underlying9
  have e2 := Try.underlying4
  have s0 := Try.sizeOf26
  have s1 := Try.sizeOf9
  have s2 := Try.sizeOf4
  rw [run_neq_struct, run_equalIn_struct w 9999 _ _ _ ht hs]
  unfold Program.fieldsOf
  rw [Try.underlying43]
  have p0 : ∀ (x y z : Value) (u : World), (part 26 #[x, y, z] 0).run Try.prog u = .ok x u := by
    intro x y z u
    unfold part
    simp [isAgg, sizeOf]
  have p1 : ∀ (x y z : Value) (u : World), (part 9 #[x, y, z] 1).run Try.prog u = .ok y u := by
    intro x y z u
    unfold part
    simp [isAgg, sizeOf]
  have p2 : ∀ (x y z : Value) (u : World), (part 4 #[x, y, z] 2).run Try.prog u = .ok z u := by
    intro x y z u
    unfold part
    simp [isAgg, sizeOf]
  have q0 := run_equalIn_int (P := Try.prog) w 9998 26 .i64 .i64 r.err r.err e0
  have q1 := run_equalIn_string (P := Try.prog) w 9998 9 r.text r.text e1
  have q2 := run_equalIn_bool' (P := Try.prog) w 9998 4 r.ok r.ok e2
  simp [Op.eqFields, p0, p1, p2, q0, q1, q2]
theorem cell_of_blk {w w' : World} (g i : Nat) (h : w'.heap[g]? = w.heap[g]?) : w'.cell? ⟨g, i, none⟩ = w.cell? ⟨g, i, none⟩ := World.cell?_of_block h
theorem NetGo.undrew {F F' : Nat → Prop} {w w' : World} (h : NetGo F F' w.drew w') : NetGo F F' w w' := ⟨h.grow, h.moved.os, h.moved.tape, h.moved.output, h.moved.size, h.moved.block⟩
/-- Two networks side by side. -/
structure Two (W : World) (p p' k : Nat) (s t : NS) (F F' : Nat → Prop) (w : World) : Prop where
  n1 : NetAt w p k s F
  n2 : NetAt w p' k t F'
  l1 : ∀ k, F k → W.heap.size ≤ k
  l2 : ∀ k, F' k → W.heap.size ≤ k
  far : ∀ k, F k → ¬ F' k
  bel : Below W.heap.size W w
section
variable {W w w' : World} {p p' k k' : Nat} {s s' t : NS} {F F' G : Nat → Prop}
theorem Two.step (h : Two W p p' k s t F F' w) (hn : NetAt w' p k' s' G) (hg : NetGo F G w w') (hk : k ≤ k') : Two W p p' k' s' t G F' w' := by
  obtain ⟨hb, hl⟩ := hg.below h.bel.size h.l1
  refine ⟨hn, (h.n2.moved hg.moved (fun j hj hf => h.far j hf hj)).mono hk, hl, h.l2, fun j hj hf => ?_, h.bel.trans hb⟩
  rcases hg.grow j hj with h1 | h1
  · exact h.far j h1 hf
  · have := h.n2.lt j hf; omega
theorem Two.swap (h : Two W p p' k s t F F' w) : Two W p' p k t s F' F w := ⟨h.n2, h.n1, h.l2, h.l1, fun j hj hf => h.far j hf hj, h.bel⟩
theorem Two.below (h : Two W p p' k s t F F' w) (hb : Below w.heap.size w w') : Two W p p' k s t F F' w' :=
  ⟨h.n1.below hb, h.n2.below hb, h.l1, h.l2, h.far, h.bel.trans (hb.mono h.bel.size)⟩
theorem Two.mono (h : Two W p p' k s t F F' w) (hk : k ≤ k') : Two W p p' k' s t F F' w := ⟨h.n1.mono hk, h.n2.mono hk, h.l1, h.l2, h.far, h.bel⟩
end

set_option maxRecDepth 100000 in
set_option maxHeartbeats 8000000 in
theorem law7_walk (N : Int) (A0 : Option Addr) (n c0 : Nat) (l : List St) (a b : Int) (w : World)
    (hN : (Lit.int .i64 N).wf = true) (h0 : RSt w w.heap.size A0 n l) (hn : n ≤ maxLen) (hwf : ∀ s ∈ l, s.wf) (ha : (Lit.int .i64 a).wf = true) (hb : (Lit.int .i64 b).wf = true) :
    Calls Try.prog 9 #[.int .i64 N, .slice A0 n c0, .int .i64 a, .int .i64 b] w fun e w' => e = .returned (.bool true) ∧ Below w.heap.size w w' := by
  unfold maxLen at hn
  have HL : Hid (l.length = n) := h0.len
  have H0 := hide h0
  have HWF := hide hwf
  have HA := hide ha
  have HB := hide hb
  clear h0 hN hwf ha hb
  go_enter Try.func9, Try.ntmps9
  go_wp2_with fail
  refine (head_any w).mono ?_
  rintro e w0 ⟨rfl, bel0⟩
  have B0 := hide bel0
  clear bel0
  go_wp2_with fail
  by_cases hgood : ¬ (1 ≤ N ∧ N ≤ 8)
  · refine (new_bad N w0 hgood).mono ?_
    rintro e w1 ⟨rfl, b1⟩
    have B1 := hide (B0.out.trans (b1.mono B0.out.size))
    clear b1
    go_wp2_with fail
    refine (new_bad N w1 hgood).mono ?_
    rintro e w2 ⟨rfl, b2⟩
    have B2 := hide (B1.out.trans (b2.mono B1.out.size))
    clear b2 B1
    have HR2 : Hid (RSt w2 w2.heap.size A0 n l) := (H0.out.below B2.out).more B2.out.size
    go_wp2_with fail
    refine (few_any A0 n c0 l w2 HR2.out).mono ?_
    rintro e w3 ⟨rfl, rfl⟩
    cases fewL l
    all_goals
      go_wp2
      go_ret
      exact ⟨rfl, B2.out⟩
  have hg : 1 ≤ N ∧ N ≤ 8 := Decidable.not_not.1 hgood
  clear hgood
  refine (new_ok N w0 hg).mono ?_
  rintro e w1 ⟨p, F1, rfl, n1, l1, b1⟩
  have X1 := hide (And.intro n1 (And.intro (fun k (hk : F1 k) => Nat.le_trans B0.out.size (l1 k hk)) (B0.out.trans (b1.mono B0.out.size))))
  clear n1 l1 b1
  go_wp2_with fail
  refine (new_ok N w1 hg).mono ?_
  rintro e w2 ⟨p', F2, rfl, n2, l2, b2⟩
  have T2 : Hid (Two w p p' 0 (NS.new N) (NS.new N) F1 F2 w2) :=
    ⟨X1.out.1.below b2, n2, X1.out.2.1, fun k hk => Nat.le_trans X1.out.2.2.size (l2 k hk), fun k hk hf => by have := l2 k hf; have := X1.out.1.lt k hk; omega, X1.out.2.2.trans (b2.mono X1.out.2.2.size)⟩
  clear n2 l2 b2 X1 B0
  have HR2 : Hid (RSt w2 w2.heap.size A0 n l) := (H0.out.below T2.out.bel).more T2.out.bel.size
  go_wp2_with fail
  refine (few_any A0 n c0 l w2 HR2.out).mono ?_
  rintro e w3 ⟨rfl, rfl⟩
  clear HR2
  have hfew : fewL l = true → n ≤ 150 := by
    intro h
    unfold fewL at h
    simp only [Bool.and_eq_true, decide_eq_true_eq] at h
    have := HL.out
    omega
  cases hf : fewL l
  · go_wp2
    go_ret
    exact ⟨rfl, T2.out.bel⟩
  have h150 := hfew hf
  clear hfew hf
  by_cases hab : a = b
  · have hab' : (a == b) = true := by simp [hab]
    have HAB := hide hab
    clear hab
    go_wp2
    go_ret
    exact ⟨rfl, T2.out.bel⟩
  have hab' : (a == b) = false := by simp [hab]
  have HAB := hide hab
  clear hab
  go_wp2
  go_loopw [14, 15] (fun c i wr => ∃ (k : Nat) (F F' : Nat → Prop), k ≤ n ∧ i = .int .i64 k ∧ c = .bool (((NS.new N).run (l.take k)).c (a, b)) ∧
      Two w p p' (8 * k) ((NS.new N).run (l.take k)) ((NS.new N).run (sub a b (l.take k))) F F' wr ∧ Same a b ((NS.new N).run (l.take k)) ((NS.new N).run (sub a b (l.take k))) ∧ Calm a b ((NS.new N).run (l.take k)))
    (fun _ i _ => n - (intOf i).toNat)
  case atStart => exact ⟨0, F1, F2, Nat.zero_le _, rfl, rfl, T2.out, Same.refl _ _ _, Calm.new _ _ _⟩
  case round =>
    obtain ⟨k, F, F', hk, rfl, rfl, ht, hsame, hcalm⟩ := hrel
    have HT := hide ht
    have HS := hide hsame
    have HC := hide hcalm
    clear ht hsame hcalm
    have HR : Hid (RSt wr wr.heap.size A0 n l) := (H0.out.below HT.out.bel).more HT.out.bel.size
    have HSM : Hid ((NS.new N).run (l.take k)).Small := run_small _ (NS.new_small N) _
    have HSM' : Hid ((NS.new N).run (sub a b (l.take k))).Small := run_small _ (NS.new_small N) _
    generalize hs : (NS.new N).run (l.take k) = s at HT HS HC HSM ⊢
    generalize ht : (NS.new N).run (sub a b (l.take k)) = t at HT HS HC HSM' ⊢
    have HEs := hide hs
    have HEt := hide ht
    clear hs ht
    by_cases hlt : k < n
    · have hkl : k < l.length := by rw [HL.out]; exact hlt
      have hwx : (stp l k).wf := by
        refine HWF.out _ ?_
        unfold stp
        rw [List.getD_eq_getElem?_getD, List.getElem?_eq_getElem hkl]
        exact List.getElem_mem _
      obtain ⟨bb, off, rfl, hb, hc⟩ := H0.out.at_ hlt
      have htk : l.take (k + 1) = l.take k ++ [stp l k] := take_snoc l k St.none_ hkl
      have HTK := hide htk
      clear htk hkl
      generalize hx : stp l k = x at hwx hc HTK ⊢
      have HW := hide hwx
      clear hwx hx
      have HCELL : Hid (∀ w', Below w.heap.size w w' → w'.cell? ⟨bb, off + k * 7, none⟩ = some (.int .i64 x.kind) ∧ w'.cell? ⟨bb, off + k * 7 + 1, none⟩ = some (.int .i64 x.a) ∧ w'.cell? ⟨bb, off + k * 7 + 2, none⟩ = some (.int .i64 x.b) ∧
          w'.cell? ⟨bb, off + k * 7 + 3, none⟩ = some (.int .i64 x.n) ∧ w'.cell? ⟨bb, off + k * 7 + 4, none⟩ = some (.string x.text) ∧ w'.cell? ⟨bb, off + k * 7 + 5, none⟩ = some (.bool x.lost) ∧ w'.cell? ⟨bb, off + k * 7 + 6, none⟩ = some (.bool x.again)) := by
        intro w' hb'
        have hq : ∀ j, j < 7 → w'.cell? ⟨bb, off + k * 7 + j, none⟩ = x.cells[j]? := fun j hj => (hb'.cell (p := ⟨bb, off + k * 7 + j, none⟩) hb).trans (hc j hj)
        exact ⟨hq 0 (by omega), hq 1 (by omega), hq 2 (by omega), hq 3 (by omega), hq 4 (by omega), hq 5 (by omega), hq 6 (by omega)⟩
      clear hc hb HR
      obtain ⟨c0, c1, c2, c3, c4, c5, c6⟩ := HCELL.out wr HT.out.bel
      go_wp2_with fail
      refine (do_any p (8 * k) s F x wr HT.out.n1 HW.out.2.1 HW.out.2.2.1 (by unfold maxLen; omega) HSM.out).mono ?_
      clear c0 c1 c2 c3 c4 c5 c6
      rintro e w3 ⟨rfl, G, hn3, hg3⟩
      have HT3 := hide (HT.out.step hn3 hg3 (by omega))
      clear hn3 hg3
      go_upto_region 11 with (fail)
      obtain ⟨g, hg⟩ : ∃ g, g = w3.heap.size := ⟨_, rfl⟩
      have HB4 : Hid (Below w3.heap.size w3 (w3.alloc (.cells #[.int .i64 (s.res x).err, .string (s.res x).text, .bool (s.res x).ok] 43))) := (Below.refl _ _).alloc (Nat.le_refl _) _
      have hbk : Blk (w3.alloc (.cells #[.int .i64 (s.res x).err, .string (s.res x).text, .bool (s.res x).ok] 43)) g 43 #[.int .i64 (s.res x).err, .string (s.res x).text, .bool (s.res x).ok] := by rw [hg]; exact Blk.new w3 _ _
      rw [← hg]
      have HBK := hide hbk
      have HG := hide hg
      clear hbk hg
      generalize w3.alloc (.cells #[.int .i64 (s.res x).err, .string (s.res x).text, .bool (s.res x).ok] 43) = w4 at HB4 HBK ⊢
      have HT4 : Hid (Two w p p' (8 * k + 4) (s.do_ x) t G F' w4) := HT3.out.below HB4.out
      have GF : Hid (¬ F' g ∧ w.heap.size ≤ g) := ⟨fun hf => by have := HT3.out.n2.lt g hf; have := HG.out; omega, by rw [HG.out]; exact HT3.out.bel.size⟩
      clear HT3 HB4
      have g0 := HBK.out.cell 0
      have g1 := HBK.out.cell 1
      have g2 := HBK.out.cell 2
      simp only [List.size_toArray, List.length_cons, List.length_nil, Nat.zero_add, Nat.reduceAdd, Nat.lt_add_one, getElem?_pos, List.getElem_toArray, List.getElem_cons_zero, List.getElem_cons_succ, Nat.reduceLT] at g0 g1 g2
      have SK4 := hide (And.intro (HCELL.out w4 HT4.out.bel) (And.intro g0 (And.intro g1 g2)))
      have SB : Hid (∀ (w5 : World) (G2 : Nat → Prop), NetGo F' G2 w4 w5 → _) := fun w5 G2 h5 => And.intro (HCELL.out w5 (HT4.out.bel.trans (h5.below HT4.out.bel.size HT4.out.l2).1)) (And.intro ((cell_of_blk g 0 (h5.moved.block g HBK.out.lt GF.out.1)).trans SK4.out.2.1) (And.intro ((cell_of_blk g 1 (h5.moved.block g HBK.out.lt GF.out.1)).trans SK4.out.2.2.1) ((cell_of_blk g 2 (h5.moved.block g HBK.out.lt GF.out.1)).trans SK4.out.2.2.2)))
      have HRS : Hid ((NS.new N).run (l.take (k + 1)) = s.do_ x) := by show _ = _; rw [HTK.out, run_snoc, HEs.out]
      have HSM2 : Hid (s.do_ x).Small := NS.do_small HSM.out x
      obtain ⟨c0, c1, c2, c3, c4, c5, c6⟩ := HCELL.out w4 HT4.out.bel
      clear c0 c3 c4 c5 c6
      have hab2 := HAB.out
      by_cases e1 : x.a = a
      ·
        have e3 : ¬ x.a = b := fun e => HAB.out (e1.symm.trans e)
        by_cases e2 : x.b = b
        ·
          have y0 : (x.a == a) = true := by simp [e1]
          have y1 : (x.b == b) = true := by simp [e2]
          have HE : Hid ((x.a == a) = true ∧ (x.b == b) = true) := ⟨y0, y1⟩
          clear e1 e2 e3 hab2
          have hin := do_in HS.out HC.out HAB.out (x := x) (by simp [onPair, HE.out])
          have HS2 := hide hin.1
          have HC2 := hide hin.2.1
          have hne : ∀ u : World, (binOp .neq 43 (.agg #[.int .i64 (t.res x).err, .string (t.res x).text, .bool (t.res x).ok]) (.agg #[.int .i64 (s.res x).err, .string (s.res x).text, .bool (s.res x).ok])).run Try.prog u = .ok (.bool false) u := by
            intro u
            rw [← hin.2.2.1]
            exact neq_res _ u
          have HFL := hide hin.2.2.2
          have HRT : Hid ((NS.new N).run (sub a b (l.take (k + 1))) = t.do_ x) := by show _ = _; rw [HTK.out, sub_snoc_in a b _ x (by simp [onPair, HE.out]), run_snoc, HEt.out]
          clear hin
          go_upto_region 12 with (fail)
          go_region_held3 (fun w' => (w'.cell? ⟨bb, off + k * 7, none⟩ = some (.int .i64 x.kind) ∧ w'.cell? ⟨bb, off + k * 7 + 1, none⟩ = some (.int .i64 x.a) ∧ w'.cell? ⟨bb, off + k * 7 + 2, none⟩ = some (.int .i64 x.b) ∧
                    w'.cell? ⟨bb, off + k * 7 + 3, none⟩ = some (.int .i64 x.n) ∧ w'.cell? ⟨bb, off + k * 7 + 4, none⟩ = some (.string x.text) ∧ w'.cell? ⟨bb, off + k * 7 + 5, none⟩ = some (.bool x.lost) ∧ w'.cell? ⟨bb, off + k * 7 + 6, none⟩ = some (.bool x.again)) ∧
                  w'.cell? ⟨g, 0, none⟩ = some (.int .i64 (s.res x).err) ∧ w'.cell? ⟨g, 1, none⟩ = some (.string (s.res x).text) ∧ w'.cell? ⟨g, 2, none⟩ = some (.bool (s.res x).ok))
            (first | exact SK4.out | exact SK5.out)
            (first
              | (go_at_call 18; refine (do_any p' (8 * k + 4) t F' x _ (by exact HT4.out.n2.drew) HW.out.2.1 HW.out.2.2.1 (by unfold maxLen; omega) HSM'.out).mono ?_; rintro e w5 ⟨rfl, G2, hn5, hg5'⟩; have hg5 := NetGo.undrew hg5'; clear hg5'; have SK5 := hide (SB.out w5 G2 hg5); have HT5 := hide (HT4.out.swap.step hn5 hg5 (by omega)).swap; clear hn5 hg5))
          obtain ⟨_, g0, g1, g2⟩ := SK5.out
          obtain ⟨c0, c1, c2, c3, c4, c5, c6⟩ := HCELL.out w5 HT5.out.bel
          go_upto_region 14 with (fail)
          cases hcs : s.c (a, b)
          ·
            by_cases q2 : x.kind = 2
            ·
              have z2 : (x.kind == 2) = true := by simp [q2]
              have Qq2 := hide q2
              clear q2
              by_cases qe : (s.res x).err = 0
              ·
                have z3 : ((s.res x).err == 0) = true := by simp [qe]
                have z4 : ((s.res x).err != 0) = false := by simp [qe]
                have Qqe := hide qe
                clear qe
                have HF2 : Hid ((s.do_ x).c (a, b) = true) := by show _ = _; rw [HFL.out]; simp [nextCut, z2, z3, hcs]
                have HF3 : Hid (true = true) := (rfl : true = true)
                clear HFL
                have HWT := hide (HC2.out.waiting HF2.out)
                go_wp2_with fail
                refine (waiting_any p (8 * k + 8) _ G a b _ HT5.out.n1 HA.out HB.out HSM2.out).mono ?_
                rw [HWT.out.1]
                rintro e w6 ⟨A6, c6, rfl, _, hb6⟩
                have HT6 := hide (HT5.out.below hb6)
                clear hb6 HT5
                go_wp2_with fail
                refine (waiting_any p (8 * k + 8) _ G b a _ HT6.out.n1 HB.out HA.out HSM2.out).mono ?_
                rw [HWT.out.2]
                rintro e w7 ⟨A7, c7, rfl, _, hb7⟩
                have HT7 := hide (HT6.out.below hb7)
                clear hb7 HT6
                go_wp2_with fail
                go_roundw
                case rel => exact ⟨k + 1, G, G2, by omega, by go_num, by rw [HRS.out, HF2.out], by rw [HRS.out, HRT.out]; exact HT7.out, by rw [HRS.out, HRT.out]; exact HS2.out, by rw [HRS.out]; exact HC2.out⟩
                case measure => simp [intOf]; omega
              ·
                have z3 : ((s.res x).err == 0) = false := by simp [qe]
                have z4 : ((s.res x).err != 0) = true := by simp [qe]
                have Qqe := hide qe
                clear qe
                have HF2 : Hid ((s.do_ x).c (a, b) = false) := by show _ = _; rw [HFL.out]; simp [nextCut, z2, z3, hcs]
                have HF3 : Hid (false = false) := (rfl : false = false)
                clear HFL
                go_wp2_with fail
                go_roundw
                case rel => exact ⟨k + 1, G, G2, by omega, by go_num, by rw [HRS.out, HF2.out], by rw [HRS.out, HRT.out]; exact HT5.out, by rw [HRS.out, HRT.out]; exact HS2.out, by rw [HRS.out]; exact HC2.out⟩
                case measure => simp [intOf]; omega
            ·
              have z2 : (x.kind == 2) = false := by simp [q2]
              have Qq2 := hide q2
              clear q2
              have HF2 : Hid ((s.do_ x).c (a, b) = false) := by show _ = _; rw [HFL.out]; simp [nextCut, z2, hcs]
              have HF3 : Hid (false = false) := (rfl : false = false)
              clear HFL
              go_wp2_with fail
              go_roundw
              case rel => exact ⟨k + 1, G, G2, by omega, by go_num, by rw [HRS.out, HF2.out], by rw [HRS.out, HRT.out]; exact HT5.out, by rw [HRS.out, HRT.out]; exact HS2.out, by rw [HRS.out]; exact HC2.out⟩
              case measure => simp [intOf]; omega
          ·
            by_cases q0 : x.kind = 0
            ·
              have z0 : (x.kind == 0) = true := by simp [q0]
              have Qq0 := hide q0
              clear q0
              have HF2 : Hid ((s.do_ x).c (a, b) = true) := by show _ = _; rw [HFL.out]; simp [nextCut, z0, hcs]
              have HF3 : Hid (true = true) := (rfl : true = true)
              clear HFL
              have HWT := hide (HC2.out.waiting HF2.out)
              go_wp2_with fail
              refine (waiting_any p (8 * k + 8) _ G a b _ HT5.out.n1 HA.out HB.out HSM2.out).mono ?_
              rw [HWT.out.1]
              rintro e w6 ⟨A6, c6, rfl, _, hb6⟩
              have HT6 := hide (HT5.out.below hb6)
              clear hb6 HT5
              go_wp2_with fail
              refine (waiting_any p (8 * k + 8) _ G b a _ HT6.out.n1 HB.out HA.out HSM2.out).mono ?_
              rw [HWT.out.2]
              rintro e w7 ⟨A7, c7, rfl, _, hb7⟩
              have HT7 := hide (HT6.out.below hb7)
              clear hb7 HT6
              go_wp2_with fail
              go_roundw
              case rel => exact ⟨k + 1, G, G2, by omega, by go_num, by rw [HRS.out, HF2.out], by rw [HRS.out, HRT.out]; exact HT7.out, by rw [HRS.out, HRT.out]; exact HS2.out, by rw [HRS.out]; exact HC2.out⟩
              case measure => simp [intOf]; omega
            ·
              have z0 : (x.kind == 0) = false := by simp [q0]
              have Qq0 := hide q0
              clear q0
              by_cases q1 : x.kind = 1
              ·
                have z1 : (x.kind == 1) = true := by simp [q1]
                have Qq1 := hide q1
                clear q1
                have HF2 : Hid ((s.do_ x).c (a, b) = true) := by show _ = _; rw [HFL.out]; simp [nextCut, z0, z1, hcs]
                have HF3 : Hid (true = true) := (rfl : true = true)
                clear HFL
                have HWT := hide (HC2.out.waiting HF2.out)
                go_wp2_with fail
                refine (waiting_any p (8 * k + 8) _ G a b _ HT5.out.n1 HA.out HB.out HSM2.out).mono ?_
                rw [HWT.out.1]
                rintro e w6 ⟨A6, c6, rfl, _, hb6⟩
                have HT6 := hide (HT5.out.below hb6)
                clear hb6 HT5
                go_wp2_with fail
                refine (waiting_any p (8 * k + 8) _ G b a _ HT6.out.n1 HB.out HA.out HSM2.out).mono ?_
                rw [HWT.out.2]
                rintro e w7 ⟨A7, c7, rfl, _, hb7⟩
                have HT7 := hide (HT6.out.below hb7)
                clear hb7 HT6
                go_wp2_with fail
                go_roundw
                case rel => exact ⟨k + 1, G, G2, by omega, by go_num, by rw [HRS.out, HF2.out], by rw [HRS.out, HRT.out]; exact HT7.out, by rw [HRS.out, HRT.out]; exact HS2.out, by rw [HRS.out]; exact HC2.out⟩
                case measure => simp [intOf]; omega
              ·
                have z1 : (x.kind == 1) = false := by simp [q1]
                have Qq1 := hide q1
                clear q1
                by_cases q2 : x.kind = 2
                ·
                  have z2 : (x.kind == 2) = true := by simp [q2]
                  have Qq2 := hide q2
                  clear q2
                  have HF2 : Hid ((s.do_ x).c (a, b) = true) := by show _ = _; rw [HFL.out]; simp [nextCut, z0, z1, z2, hcs]
                  have HF3 : Hid (true = true) := (rfl : true = true)
                  clear HFL
                  have HWT := hide (HC2.out.waiting HF2.out)
                  go_wp2_with fail
                  refine (waiting_any p (8 * k + 8) _ G a b _ HT5.out.n1 HA.out HB.out HSM2.out).mono ?_
                  rw [HWT.out.1]
                  rintro e w6 ⟨A6, c6, rfl, _, hb6⟩
                  have HT6 := hide (HT5.out.below hb6)
                  clear hb6 HT5
                  go_wp2_with fail
                  refine (waiting_any p (8 * k + 8) _ G b a _ HT6.out.n1 HB.out HA.out HSM2.out).mono ?_
                  rw [HWT.out.2]
                  rintro e w7 ⟨A7, c7, rfl, _, hb7⟩
                  have HT7 := hide (HT6.out.below hb7)
                  clear hb7 HT6
                  go_wp2_with fail
                  go_roundw
                  case rel => exact ⟨k + 1, G, G2, by omega, by go_num, by rw [HRS.out, HF2.out], by rw [HRS.out, HRT.out]; exact HT7.out, by rw [HRS.out, HRT.out]; exact HS2.out, by rw [HRS.out]; exact HC2.out⟩
                  case measure => simp [intOf]; omega
                ·
                  have z2 : (x.kind == 2) = false := by simp [q2]
                  have Qq2 := hide q2
                  clear q2
                  by_cases qe : (s.res x).err = 0
                  ·
                    have z3 : ((s.res x).err == 0) = true := by simp [qe]
                    have z4 : ((s.res x).err != 0) = false := by simp [qe]
                    have Qqe := hide qe
                    clear qe
                    have HF2 : Hid ((s.do_ x).c (a, b) = false) := by show _ = _; rw [HFL.out]; simp [nextCut, z0, z1, z2, z3, z4, hcs]
                    have HF3 : Hid (false = false) := (rfl : false = false)
                    clear HFL
                    go_wp2_with fail
                    go_roundw
                    case rel => exact ⟨k + 1, G, G2, by omega, by go_num, by rw [HRS.out, HF2.out], by rw [HRS.out, HRT.out]; exact HT5.out, by rw [HRS.out, HRT.out]; exact HS2.out, by rw [HRS.out]; exact HC2.out⟩
                    case measure => simp [intOf]; omega
                  ·
                    have z3 : ((s.res x).err == 0) = false := by simp [qe]
                    have z4 : ((s.res x).err != 0) = true := by simp [qe]
                    have Qqe := hide qe
                    clear qe
                    have HF2 : Hid ((s.do_ x).c (a, b) = true) := by show _ = _; rw [HFL.out]; simp [nextCut, z0, z1, z2, z3, z4, hcs]
                    have HF3 : Hid (true = true) := (rfl : true = true)
                    clear HFL
                    have HWT := hide (HC2.out.waiting HF2.out)
                    go_wp2_with fail
                    refine (waiting_any p (8 * k + 8) _ G a b _ HT5.out.n1 HA.out HB.out HSM2.out).mono ?_
                    rw [HWT.out.1]
                    rintro e w6 ⟨A6, c6, rfl, _, hb6⟩
                    have HT6 := hide (HT5.out.below hb6)
                    clear hb6 HT5
                    go_wp2_with fail
                    refine (waiting_any p (8 * k + 8) _ G b a _ HT6.out.n1 HB.out HA.out HSM2.out).mono ?_
                    rw [HWT.out.2]
                    rintro e w7 ⟨A7, c7, rfl, _, hb7⟩
                    have HT7 := hide (HT6.out.below hb7)
                    clear hb7 HT6
                    go_wp2_with fail
                    go_roundw
                    case rel => exact ⟨k + 1, G, G2, by omega, by go_num, by rw [HRS.out, HF2.out], by rw [HRS.out, HRT.out]; exact HT7.out, by rw [HRS.out, HRT.out]; exact HS2.out, by rw [HRS.out]; exact HC2.out⟩
                    case measure => simp [intOf]; omega
        ·
          have y0 : (x.a == a) = true := by simp [e1]
          have y1 : (x.b == b) = false := by simp [e2]
          have y2 : (x.a == b) = false := by simp [e3]
          have HE : Hid ((x.a == a) = true ∧ (x.b == b) = false ∧ (x.a == b) = false) := ⟨y0, y1, y2⟩
          clear e1 e2 e3 hab2
          have hout := do_out HS.out HC.out (x := x) (by simp [onPair, HE.out])
          have HS2 := hide hout.1
          have HC2 := hide hout.2.1
          have HF2 := hide hout.2.2
          have HRT : Hid ((NS.new N).run (sub a b (l.take (k + 1))) = t) := by show _ = _; rw [HTK.out, sub_snoc_out a b _ x (by simp [onPair, HE.out]), HEt.out]
          clear hout
          obtain ⟨G2, hG2⟩ : ∃ G2, G2 = F' := ⟨_, rfl⟩
          rw [← hG2] at HT4
          clear hG2
          have HT5 := hide (HT4.out.mono (show 8 * k + 4 ≤ 8 * k + 8 by omega))
          clear HT4
          cases hcs : s.c (a, b)
          ·
            have HF2 : Hid ((s.do_ x).c (a, b) = false) := HF2.out.trans hcs
            go_wp2_with fail
            go_roundw
            case rel => exact ⟨k + 1, G, G2, by omega, by go_num, by rw [HRS.out, HF2.out], by rw [HRS.out, HRT.out]; exact HT5.out, by rw [HRS.out, HRT.out]; exact HS2.out, by rw [HRS.out]; exact HC2.out⟩
            case measure => simp [intOf]; omega
          ·
            have HF3 : Hid (true = true) := (rfl : true = true)
            have HF2 : Hid ((s.do_ x).c (a, b) = true) := HF2.out.trans hcs
            have HWT := hide (HC2.out.waiting HF2.out)
            go_wp2_with fail
            refine (waiting_any p (8 * k + 8) _ G a b _ HT5.out.n1 HA.out HB.out HSM2.out).mono ?_
            rw [HWT.out.1]
            rintro e w6 ⟨A6, c6, rfl, _, hb6⟩
            have HT6 := hide (HT5.out.below hb6)
            clear hb6 HT5
            go_wp2_with fail
            refine (waiting_any p (8 * k + 8) _ G b a _ HT6.out.n1 HB.out HA.out HSM2.out).mono ?_
            rw [HWT.out.2]
            rintro e w7 ⟨A7, c7, rfl, _, hb7⟩
            have HT7 := hide (HT6.out.below hb7)
            clear hb7 HT6
            go_wp2_with fail
            go_roundw
            case rel => exact ⟨k + 1, G, G2, by omega, by go_num, by rw [HRS.out, HF2.out], by rw [HRS.out, HRT.out]; exact HT7.out, by rw [HRS.out, HRT.out]; exact HS2.out, by rw [HRS.out]; exact HC2.out⟩
            case measure => simp [intOf]; omega
      ·
        by_cases e3 : x.a = b
        ·
          by_cases e4 : x.b = a
          ·
            have y0 : (x.a == a) = false := by simp [e1]
            have y1 : (x.a == b) = true := by simp [e3]
            have y2 : (x.b == a) = true := by simp [e4]
            have HE : Hid ((x.a == a) = false ∧ (x.a == b) = true ∧ (x.b == a) = true) := ⟨y0, y1, y2⟩
            clear e1 e3 e4 hab2
            have hin := do_in HS.out HC.out HAB.out (x := x) (by simp [onPair, HE.out])
            have HS2 := hide hin.1
            have HC2 := hide hin.2.1
            have hne : ∀ u : World, (binOp .neq 43 (.agg #[.int .i64 (t.res x).err, .string (t.res x).text, .bool (t.res x).ok]) (.agg #[.int .i64 (s.res x).err, .string (s.res x).text, .bool (s.res x).ok])).run Try.prog u = .ok (.bool false) u := by
              intro u
              rw [← hin.2.2.1]
              exact neq_res _ u
            have HFL := hide hin.2.2.2
            have HRT : Hid ((NS.new N).run (sub a b (l.take (k + 1))) = t.do_ x) := by show _ = _; rw [HTK.out, sub_snoc_in a b _ x (by simp [onPair, HE.out]), run_snoc, HEt.out]
            clear hin
            go_upto_region 12 with (fail)
            go_region_held3 (fun w' => (w'.cell? ⟨bb, off + k * 7, none⟩ = some (.int .i64 x.kind) ∧ w'.cell? ⟨bb, off + k * 7 + 1, none⟩ = some (.int .i64 x.a) ∧ w'.cell? ⟨bb, off + k * 7 + 2, none⟩ = some (.int .i64 x.b) ∧
                      w'.cell? ⟨bb, off + k * 7 + 3, none⟩ = some (.int .i64 x.n) ∧ w'.cell? ⟨bb, off + k * 7 + 4, none⟩ = some (.string x.text) ∧ w'.cell? ⟨bb, off + k * 7 + 5, none⟩ = some (.bool x.lost) ∧ w'.cell? ⟨bb, off + k * 7 + 6, none⟩ = some (.bool x.again)) ∧
                    w'.cell? ⟨g, 0, none⟩ = some (.int .i64 (s.res x).err) ∧ w'.cell? ⟨g, 1, none⟩ = some (.string (s.res x).text) ∧ w'.cell? ⟨g, 2, none⟩ = some (.bool (s.res x).ok))
              (first | exact SK4.out | exact SK5.out)
              (first
                | (go_at_call 18; refine (do_any p' (8 * k + 4) t F' x _ (by exact HT4.out.n2.drew) HW.out.2.1 HW.out.2.2.1 (by unfold maxLen; omega) HSM'.out).mono ?_; rintro e w5 ⟨rfl, G2, hn5, hg5'⟩; have hg5 := NetGo.undrew hg5'; clear hg5'; have SK5 := hide (SB.out w5 G2 hg5); have HT5 := hide (HT4.out.swap.step hn5 hg5 (by omega)).swap; clear hn5 hg5))
            obtain ⟨_, g0, g1, g2⟩ := SK5.out
            obtain ⟨c0, c1, c2, c3, c4, c5, c6⟩ := HCELL.out w5 HT5.out.bel
            go_upto_region 14 with (fail)
            cases hcs : s.c (a, b)
            ·
              by_cases q2 : x.kind = 2
              ·
                have z2 : (x.kind == 2) = true := by simp [q2]
                have Qq2 := hide q2
                clear q2
                by_cases qe : (s.res x).err = 0
                ·
                  have z3 : ((s.res x).err == 0) = true := by simp [qe]
                  have z4 : ((s.res x).err != 0) = false := by simp [qe]
                  have Qqe := hide qe
                  clear qe
                  have HF2 : Hid ((s.do_ x).c (a, b) = true) := by show _ = _; rw [HFL.out]; simp [nextCut, z2, z3, hcs]
                  have HF3 : Hid (true = true) := (rfl : true = true)
                  clear HFL
                  have HWT := hide (HC2.out.waiting HF2.out)
                  go_wp2_with fail
                  refine (waiting_any p (8 * k + 8) _ G a b _ HT5.out.n1 HA.out HB.out HSM2.out).mono ?_
                  rw [HWT.out.1]
                  rintro e w6 ⟨A6, c6, rfl, _, hb6⟩
                  have HT6 := hide (HT5.out.below hb6)
                  clear hb6 HT5
                  go_wp2_with fail
                  refine (waiting_any p (8 * k + 8) _ G b a _ HT6.out.n1 HB.out HA.out HSM2.out).mono ?_
                  rw [HWT.out.2]
                  rintro e w7 ⟨A7, c7, rfl, _, hb7⟩
                  have HT7 := hide (HT6.out.below hb7)
                  clear hb7 HT6
                  go_wp2_with fail
                  go_roundw
                  case rel => exact ⟨k + 1, G, G2, by omega, by go_num, by rw [HRS.out, HF2.out], by rw [HRS.out, HRT.out]; exact HT7.out, by rw [HRS.out, HRT.out]; exact HS2.out, by rw [HRS.out]; exact HC2.out⟩
                  case measure => simp [intOf]; omega
                ·
                  have z3 : ((s.res x).err == 0) = false := by simp [qe]
                  have z4 : ((s.res x).err != 0) = true := by simp [qe]
                  have Qqe := hide qe
                  clear qe
                  have HF2 : Hid ((s.do_ x).c (a, b) = false) := by show _ = _; rw [HFL.out]; simp [nextCut, z2, z3, hcs]
                  have HF3 : Hid (false = false) := (rfl : false = false)
                  clear HFL
                  go_wp2_with fail
                  go_roundw
                  case rel => exact ⟨k + 1, G, G2, by omega, by go_num, by rw [HRS.out, HF2.out], by rw [HRS.out, HRT.out]; exact HT5.out, by rw [HRS.out, HRT.out]; exact HS2.out, by rw [HRS.out]; exact HC2.out⟩
                  case measure => simp [intOf]; omega
              ·
                have z2 : (x.kind == 2) = false := by simp [q2]
                have Qq2 := hide q2
                clear q2
                have HF2 : Hid ((s.do_ x).c (a, b) = false) := by show _ = _; rw [HFL.out]; simp [nextCut, z2, hcs]
                have HF3 : Hid (false = false) := (rfl : false = false)
                clear HFL
                go_wp2_with fail
                go_roundw
                case rel => exact ⟨k + 1, G, G2, by omega, by go_num, by rw [HRS.out, HF2.out], by rw [HRS.out, HRT.out]; exact HT5.out, by rw [HRS.out, HRT.out]; exact HS2.out, by rw [HRS.out]; exact HC2.out⟩
                case measure => simp [intOf]; omega
            ·
              by_cases q0 : x.kind = 0
              ·
                have z0 : (x.kind == 0) = true := by simp [q0]
                have Qq0 := hide q0
                clear q0
                have HF2 : Hid ((s.do_ x).c (a, b) = true) := by show _ = _; rw [HFL.out]; simp [nextCut, z0, hcs]
                have HF3 : Hid (true = true) := (rfl : true = true)
                clear HFL
                have HWT := hide (HC2.out.waiting HF2.out)
                go_wp2_with fail
                refine (waiting_any p (8 * k + 8) _ G a b _ HT5.out.n1 HA.out HB.out HSM2.out).mono ?_
                rw [HWT.out.1]
                rintro e w6 ⟨A6, c6, rfl, _, hb6⟩
                have HT6 := hide (HT5.out.below hb6)
                clear hb6 HT5
                go_wp2_with fail
                refine (waiting_any p (8 * k + 8) _ G b a _ HT6.out.n1 HB.out HA.out HSM2.out).mono ?_
                rw [HWT.out.2]
                rintro e w7 ⟨A7, c7, rfl, _, hb7⟩
                have HT7 := hide (HT6.out.below hb7)
                clear hb7 HT6
                go_wp2_with fail
                go_roundw
                case rel => exact ⟨k + 1, G, G2, by omega, by go_num, by rw [HRS.out, HF2.out], by rw [HRS.out, HRT.out]; exact HT7.out, by rw [HRS.out, HRT.out]; exact HS2.out, by rw [HRS.out]; exact HC2.out⟩
                case measure => simp [intOf]; omega
              ·
                have z0 : (x.kind == 0) = false := by simp [q0]
                have Qq0 := hide q0
                clear q0
                by_cases q1 : x.kind = 1
                ·
                  have z1 : (x.kind == 1) = true := by simp [q1]
                  have Qq1 := hide q1
                  clear q1
                  have HF2 : Hid ((s.do_ x).c (a, b) = true) := by show _ = _; rw [HFL.out]; simp [nextCut, z0, z1, hcs]
                  have HF3 : Hid (true = true) := (rfl : true = true)
                  clear HFL
                  have HWT := hide (HC2.out.waiting HF2.out)
                  go_wp2_with fail
                  refine (waiting_any p (8 * k + 8) _ G a b _ HT5.out.n1 HA.out HB.out HSM2.out).mono ?_
                  rw [HWT.out.1]
                  rintro e w6 ⟨A6, c6, rfl, _, hb6⟩
                  have HT6 := hide (HT5.out.below hb6)
                  clear hb6 HT5
                  go_wp2_with fail
                  refine (waiting_any p (8 * k + 8) _ G b a _ HT6.out.n1 HB.out HA.out HSM2.out).mono ?_
                  rw [HWT.out.2]
                  rintro e w7 ⟨A7, c7, rfl, _, hb7⟩
                  have HT7 := hide (HT6.out.below hb7)
                  clear hb7 HT6
                  go_wp2_with fail
                  go_roundw
                  case rel => exact ⟨k + 1, G, G2, by omega, by go_num, by rw [HRS.out, HF2.out], by rw [HRS.out, HRT.out]; exact HT7.out, by rw [HRS.out, HRT.out]; exact HS2.out, by rw [HRS.out]; exact HC2.out⟩
                  case measure => simp [intOf]; omega
                ·
                  have z1 : (x.kind == 1) = false := by simp [q1]
                  have Qq1 := hide q1
                  clear q1
                  by_cases q2 : x.kind = 2
                  ·
                    have z2 : (x.kind == 2) = true := by simp [q2]
                    have Qq2 := hide q2
                    clear q2
                    have HF2 : Hid ((s.do_ x).c (a, b) = true) := by show _ = _; rw [HFL.out]; simp [nextCut, z0, z1, z2, hcs]
                    have HF3 : Hid (true = true) := (rfl : true = true)
                    clear HFL
                    have HWT := hide (HC2.out.waiting HF2.out)
                    go_wp2_with fail
                    refine (waiting_any p (8 * k + 8) _ G a b _ HT5.out.n1 HA.out HB.out HSM2.out).mono ?_
                    rw [HWT.out.1]
                    rintro e w6 ⟨A6, c6, rfl, _, hb6⟩
                    have HT6 := hide (HT5.out.below hb6)
                    clear hb6 HT5
                    go_wp2_with fail
                    refine (waiting_any p (8 * k + 8) _ G b a _ HT6.out.n1 HB.out HA.out HSM2.out).mono ?_
                    rw [HWT.out.2]
                    rintro e w7 ⟨A7, c7, rfl, _, hb7⟩
                    have HT7 := hide (HT6.out.below hb7)
                    clear hb7 HT6
                    go_wp2_with fail
                    go_roundw
                    case rel => exact ⟨k + 1, G, G2, by omega, by go_num, by rw [HRS.out, HF2.out], by rw [HRS.out, HRT.out]; exact HT7.out, by rw [HRS.out, HRT.out]; exact HS2.out, by rw [HRS.out]; exact HC2.out⟩
                    case measure => simp [intOf]; omega
                  ·
                    have z2 : (x.kind == 2) = false := by simp [q2]
                    have Qq2 := hide q2
                    clear q2
                    by_cases qe : (s.res x).err = 0
                    ·
                      have z3 : ((s.res x).err == 0) = true := by simp [qe]
                      have z4 : ((s.res x).err != 0) = false := by simp [qe]
                      have Qqe := hide qe
                      clear qe
                      have HF2 : Hid ((s.do_ x).c (a, b) = false) := by show _ = _; rw [HFL.out]; simp [nextCut, z0, z1, z2, z3, z4, hcs]
                      have HF3 : Hid (false = false) := (rfl : false = false)
                      clear HFL
                      go_wp2_with fail
                      go_roundw
                      case rel => exact ⟨k + 1, G, G2, by omega, by go_num, by rw [HRS.out, HF2.out], by rw [HRS.out, HRT.out]; exact HT5.out, by rw [HRS.out, HRT.out]; exact HS2.out, by rw [HRS.out]; exact HC2.out⟩
                      case measure => simp [intOf]; omega
                    ·
                      have z3 : ((s.res x).err == 0) = false := by simp [qe]
                      have z4 : ((s.res x).err != 0) = true := by simp [qe]
                      have Qqe := hide qe
                      clear qe
                      have HF2 : Hid ((s.do_ x).c (a, b) = true) := by show _ = _; rw [HFL.out]; simp [nextCut, z0, z1, z2, z3, z4, hcs]
                      have HF3 : Hid (true = true) := (rfl : true = true)
                      clear HFL
                      have HWT := hide (HC2.out.waiting HF2.out)
                      go_wp2_with fail
                      refine (waiting_any p (8 * k + 8) _ G a b _ HT5.out.n1 HA.out HB.out HSM2.out).mono ?_
                      rw [HWT.out.1]
                      rintro e w6 ⟨A6, c6, rfl, _, hb6⟩
                      have HT6 := hide (HT5.out.below hb6)
                      clear hb6 HT5
                      go_wp2_with fail
                      refine (waiting_any p (8 * k + 8) _ G b a _ HT6.out.n1 HB.out HA.out HSM2.out).mono ?_
                      rw [HWT.out.2]
                      rintro e w7 ⟨A7, c7, rfl, _, hb7⟩
                      have HT7 := hide (HT6.out.below hb7)
                      clear hb7 HT6
                      go_wp2_with fail
                      go_roundw
                      case rel => exact ⟨k + 1, G, G2, by omega, by go_num, by rw [HRS.out, HF2.out], by rw [HRS.out, HRT.out]; exact HT7.out, by rw [HRS.out, HRT.out]; exact HS2.out, by rw [HRS.out]; exact HC2.out⟩
                      case measure => simp [intOf]; omega
          ·
            have y0 : (x.a == a) = false := by simp [e1]
            have y1 : (x.a == b) = true := by simp [e3]
            have y2 : (x.b == a) = false := by simp [e4]
            have HE : Hid ((x.a == a) = false ∧ (x.a == b) = true ∧ (x.b == a) = false) := ⟨y0, y1, y2⟩
            clear e1 e3 e4 hab2
            have hout := do_out HS.out HC.out (x := x) (by simp [onPair, HE.out])
            have HS2 := hide hout.1
            have HC2 := hide hout.2.1
            have HF2 := hide hout.2.2
            have HRT : Hid ((NS.new N).run (sub a b (l.take (k + 1))) = t) := by show _ = _; rw [HTK.out, sub_snoc_out a b _ x (by simp [onPair, HE.out]), HEt.out]
            clear hout
            obtain ⟨G2, hG2⟩ : ∃ G2, G2 = F' := ⟨_, rfl⟩
            rw [← hG2] at HT4
            clear hG2
            have HT5 := hide (HT4.out.mono (show 8 * k + 4 ≤ 8 * k + 8 by omega))
            clear HT4
            cases hcs : s.c (a, b)
            ·
              have HF2 : Hid ((s.do_ x).c (a, b) = false) := HF2.out.trans hcs
              go_wp2_with fail
              go_roundw
              case rel => exact ⟨k + 1, G, G2, by omega, by go_num, by rw [HRS.out, HF2.out], by rw [HRS.out, HRT.out]; exact HT5.out, by rw [HRS.out, HRT.out]; exact HS2.out, by rw [HRS.out]; exact HC2.out⟩
              case measure => simp [intOf]; omega
            ·
              have HF3 : Hid (true = true) := (rfl : true = true)
              have HF2 : Hid ((s.do_ x).c (a, b) = true) := HF2.out.trans hcs
              have HWT := hide (HC2.out.waiting HF2.out)
              go_wp2_with fail
              refine (waiting_any p (8 * k + 8) _ G a b _ HT5.out.n1 HA.out HB.out HSM2.out).mono ?_
              rw [HWT.out.1]
              rintro e w6 ⟨A6, c6, rfl, _, hb6⟩
              have HT6 := hide (HT5.out.below hb6)
              clear hb6 HT5
              go_wp2_with fail
              refine (waiting_any p (8 * k + 8) _ G b a _ HT6.out.n1 HB.out HA.out HSM2.out).mono ?_
              rw [HWT.out.2]
              rintro e w7 ⟨A7, c7, rfl, _, hb7⟩
              have HT7 := hide (HT6.out.below hb7)
              clear hb7 HT6
              go_wp2_with fail
              go_roundw
              case rel => exact ⟨k + 1, G, G2, by omega, by go_num, by rw [HRS.out, HF2.out], by rw [HRS.out, HRT.out]; exact HT7.out, by rw [HRS.out, HRT.out]; exact HS2.out, by rw [HRS.out]; exact HC2.out⟩
              case measure => simp [intOf]; omega
        ·
          have y0 : (x.a == a) = false := by simp [e1]
          have y1 : (x.a == b) = false := by simp [e3]
          have HE : Hid ((x.a == a) = false ∧ (x.a == b) = false) := ⟨y0, y1⟩
          clear e1 e3 hab2
          have hout := do_out HS.out HC.out (x := x) (by simp [onPair, HE.out])
          have HS2 := hide hout.1
          have HC2 := hide hout.2.1
          have HF2 := hide hout.2.2
          have HRT : Hid ((NS.new N).run (sub a b (l.take (k + 1))) = t) := by show _ = _; rw [HTK.out, sub_snoc_out a b _ x (by simp [onPair, HE.out]), HEt.out]
          clear hout
          obtain ⟨G2, hG2⟩ : ∃ G2, G2 = F' := ⟨_, rfl⟩
          rw [← hG2] at HT4
          clear hG2
          have HT5 := hide (HT4.out.mono (show 8 * k + 4 ≤ 8 * k + 8 by omega))
          clear HT4
          cases hcs : s.c (a, b)
          ·
            have HF2 : Hid ((s.do_ x).c (a, b) = false) := HF2.out.trans hcs
            go_wp2_with fail
            go_roundw
            case rel => exact ⟨k + 1, G, G2, by omega, by go_num, by rw [HRS.out, HF2.out], by rw [HRS.out, HRT.out]; exact HT5.out, by rw [HRS.out, HRT.out]; exact HS2.out, by rw [HRS.out]; exact HC2.out⟩
            case measure => simp [intOf]; omega
          ·
            have HF3 : Hid (true = true) := (rfl : true = true)
            have HF2 : Hid ((s.do_ x).c (a, b) = true) := HF2.out.trans hcs
            have HWT := hide (HC2.out.waiting HF2.out)
            go_wp2_with fail
            refine (waiting_any p (8 * k + 8) _ G a b _ HT5.out.n1 HA.out HB.out HSM2.out).mono ?_
            rw [HWT.out.1]
            rintro e w6 ⟨A6, c6, rfl, _, hb6⟩
            have HT6 := hide (HT5.out.below hb6)
            clear hb6 HT5
            go_wp2_with fail
            refine (waiting_any p (8 * k + 8) _ G b a _ HT6.out.n1 HB.out HA.out HSM2.out).mono ?_
            rw [HWT.out.2]
            rintro e w7 ⟨A7, c7, rfl, _, hb7⟩
            have HT7 := hide (HT6.out.below hb7)
            clear hb7 HT6
            go_wp2_with fail
            go_roundw
            case rel => exact ⟨k + 1, G, G2, by omega, by go_num, by rw [HRS.out, HF2.out], by rw [HRS.out, HRT.out]; exact HT7.out, by rw [HRS.out, HRT.out]; exact HS2.out, by rw [HRS.out]; exact HC2.out⟩
            case measure => simp [intOf]; omega
    · obtain rfl : k = n := by omega
      have hwt := HS.out.waiting
      have hwt' := HS.out.swap.waiting
      have hl1 : (s.waiting a b).length ≤ 100 := by
        unfold NS.waiting
        split
        · exact HSM.out _
        · simp
      have hl2 : (s.waiting b a).length ≤ 100 := by
        unfold NS.waiting
        split
        · exact HSM.out _
        · simp
      have HWT := hide hwt
      have HWT' := hide hwt'
      have HL1 := hide hl1
      have HL2 := hide hl2
      clear hwt hwt' hl1 hl2
      go_wp2_with fail
      refine (waiting_any p (8 * k) _ F a b _ HT.out.n1 HA.out HB.out HSM.out).mono ?_
      generalize hq1 : s.waiting a b = q1 at HWT HL1
      have HQ1 := hide hq1
      clear hq1
      rintro e w3 ⟨A3, c3, rfl, o3, b3⟩
      have HT3 := hide (HT.out.below b3)
      have HO3 := hide o3
      clear b3 o3
      go_wp2_with fail
      refine (waiting_any p' (8 * k) _ F' a b _ HT3.out.n2 HA.out HB.out HSM'.out).mono ?_
      rw [← HWT.out]
      rintro e w4 ⟨A4, c4, rfl, o4, b4⟩
      have HT4 := hide (HT3.out.below b4)
      have HR3 : Hid (RS w4 w4.heap.size A3 q1.length q1) := Own.reads (Own.below HO3.out b4)
      have HR4 : Hid (RS w4 w4.heap.size A4 q1.length q1) := Own.reads o4
      clear b4 o4 HO3
      go_wp2_with fail
      refine (texts_any _ _ _ _ _ _ q1 q1 _ (by exact HR3.out) (by exact HR4.out) (by have := HL1.out; unfold maxLen; omega)).mono ?_
      rintro e w5 ⟨rfl, m5, rfl⟩
      have hd1 : decide (q1 = q1) = true := by simp
      rw [hd1]
      clear hd1
      have HT5 := hide (HT4.out.below (drewN_below _ _ m5))
      clear HR3 HR4
      generalize w4.drewN m5 = w5 at HT5 ⊢
      go_wp2_with fail
      refine (waiting_any p (8 * k) _ F b a _ HT5.out.n1 HB.out HA.out HSM.out).mono ?_
      generalize hq2 : s.waiting b a = q2 at HWT' HL2
      have HQ2 := hide hq2
      clear hq2
      rintro e w6 ⟨A6, c6, rfl, o6, b6⟩
      have HT6 := hide (HT5.out.below b6)
      have HO6 := hide o6
      clear b6 o6
      go_wp2_with fail
      refine (waiting_any p' (8 * k) _ F' b a _ HT6.out.n2 HB.out HA.out HSM'.out).mono ?_
      rw [← HWT'.out]
      rintro e w7 ⟨A7, c7, rfl, o7, b7⟩
      have HT7 := hide (HT6.out.below b7)
      have HR6 : Hid (RS w7 w7.heap.size A6 q2.length q2) := Own.reads (Own.below HO6.out b7)
      have HR7 : Hid (RS w7 w7.heap.size A7 q2.length q2) := Own.reads o7
      clear b7 o7 HO6
      go_wp2_with fail
      refine (texts_any _ _ _ _ _ _ q2 q2 _ (by exact HR6.out) (by exact HR7.out) (by have := HL2.out; unfold maxLen; omega)).mono ?_
      rintro e w8 ⟨rfl, m8, rfl⟩
      have hd1 : decide (q2 = q2) = true := by simp
      rw [hd1]
      go_wp2
      go_ret
      exact ⟨rfl, below_drewN HT7.out.bel _⟩
end Go.Proofs.Ytnoihbbfodkejaa
