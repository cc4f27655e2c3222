/-
  Chapter 17: Distribution, the walk.
-/
import Derived.Test.YtlkgoljpjeieiaaGreatDoorDisC
set_option linter.unusedVariables false
set_option linter.unusedSimpArgs false
namespace Go.Proofs.YtlkgoljpjeieiaaGreatDoor
open Go.RowKit Go.Deep Go.Maps Go.Sort Go.Shelf

theorem out_info : (Tryz.prog.info? 38).map (fun i => (i.zero, i.size, i.bytes)) = some (some (.agg #[.int .i64 0, .string ⟨#[]⟩]), 2, 24) := by kernel_rfl
/-- What Distribution leaves. -/
def DistPost (tape : List Int) (n : Nat) (w : World) (en : Ending) (w' : World) : Prop :=
  ∃ A c, en = .returned (.tuple #[.slice A (dist17 tape n).length c, .int .i64 0]) ∧ RD w' w'.heap.size A (dist17 tape n).length (dist17 tape n) ∧ Below w.heap.size w w'
theorem cnt17_zero (tape : List Int) : ∀ v, (if v = 0 then 1 else 0) = cnt17 tape 0 v := fun v => by
  show _ = ([0] : List Int).count v
  rw [List.count_singleton]
  by_cases h : v = 0
  · subst h
    rfl
  · have h' : ¬ (0 : Int) = v := fun e => h e.symm
    simp [h, h']
set_option maxHeartbeats 1000000 in
set_option maxRecDepth 100000 in
theorem dist_ok (A : Option Addr) (ca : Nat) (tape : List Int) (n : Nat) (w : World) (h : RI w w.heap.size A tape.length tape) (hv : valid17 tape = true) (hn : n ≤ 6) (hp : Pow w) :
    Calls Tryz.prog 11 #[.slice A tape.length ca, .int .i64 n] w (DistPost tape n w) := by
  obtain ⟨t1, t9, ht⟩ := valid17_ok hv
  have hmm := @run_makeMap Tryz.prog
  have hmf : ∀ (fn : Fn) (first cap : Array Value) (w : World), (Instr.makeFunc fn first cap).run Tryz.prog w = .ok (.func fn first cap) w := fun _ _ _ _ => rfl
  have H := hide h
  have HT := hide ht
  have HP := hide hp
  obtain ⟨pt, hpt⟩ : ∃ pt, pt = w.heap.size := ⟨_, rfl⟩
  have HPT := hide hpt
  have b1 : Below w.heap.size w (w.alloc (.cells #[.slice A tape.length ca] 22)) := (Below.refl _ _).alloc (Nat.le_refl _) _
  have k1 := Blk.new w 22 #[.slice A tape.length ca]
  have hvalid := nv17_any A ca tape (w.alloc (.cells #[.slice A tape.length ca] 22)) (h.allocs _) (by unfold maxLen; omega)
  rw [hv] at hvalid
  have b2 := b1.alloc (o := .map #[] 0) (by simp)
  have k2 := k1.alloc (.map #[] 0)
  obtain ⟨w3, hins, hcm3, hg3⟩ := (CM.made (w.alloc (.cells #[.slice A tape.length ca] 22))).put (v := 0) (by unfold maxLen; omega) (i64_wf (by omega)) (c := 1) (by omega)
  rw [ns_one] at hins
  have e1 : (w.alloc (.cells #[.slice A tape.length ca] 22)).heap.size = w.heap.size + 1 := by simp
  have HV := hide hvalid
  have hcm3 := hcm3.ext (cnt17_zero tape)
  have b3 := b2.grown hg3 (by simp; omega) (fun j hj => by cases hj; simp)
  have k3 := k2.grown hg3 (by simp)
  rw [e1] at hins hcm3
  have HC3 := hide hcm3
  have HB3 := hide b3
  have HK3 := hide k3
  clear h hp ht hcm3 b3 k3 b1 b2 k1 k2 hvalid hg3
  go_enter Tryz.func11, Tryz.ntmps11
  go_wp2_with fail
  refine HV.out.mono ?_
  rintro en w' ⟨rfl, hw'⟩
  subst hw'
  go_upto_region 5 with (fail)
  have hen : ∀ args w, (callFunc 22 args).run Tryz.prog w = .ok (.enter 22 args) w := enters_of Tryz.func22 (by kernel_rfl) rfl
  have hlt3 := HK3.out.lt
  have hn4 := Blk.new w3 MT #[.map (some (w.heap.size + 1))]
  have hk4 := HK3.out.alloc (.cells #[.map (some (w.heap.size + 1))] MT)
  have hc4 : CM (w3.alloc (.cells #[.map (some (w.heap.size + 1))] MT)) (w.heap.size + 1) (0 + 1) (cnt17 tape 0) := HC3.out.kept (Below.heap_alloc _ _ _ HC3.out.lt)
  have hb4 : RowKit.Below w.heap.size w (w3.alloc (.cells #[.map (some (w.heap.size + 1))] MT)) := HB3.out.alloc HB3.out.size _
  have N4 := hide hn4
  have K4 := hide hk4
  have C4 := hide hc4
  have B4 := hide hb4
  clear hn4 hk4 hc4 hb4 hins hcm3 HC3 HB3 HK3 HV e1 hmm hmf
  generalize w3.alloc (.cells #[.map (some (w.heap.size + 1))] MT) = w4 at N4 K4 C4 B4 ⊢
  generalize w3.heap.size = pc at N4 hlt3 ⊢
  rw [← hpt] at K4 hlt3 ⊢
  clear hpt
  go_wp2
  go_loopw [26] (fun t26 wr => ∃ (i b k : Nat), i ≤ n ∧ t26 = .int .i64 i ∧ k ≤ 9 ^ i ∧ Blk wr pc MT #[.map (some b)] ∧ Blk wr pt 22 #[.slice A tape.length ca] ∧ CM wr b k (cnt17 tape i) ∧ RowKit.Below w.heap.size w wr) (fun t26 _ => n - (intOf t26).toNat)
  case atStart => exact ⟨0, w.heap.size + 1, 0 + 1, Nat.zero_le _, rfl, by simp, N4.out, K4.out, C4.out, B4.out⟩
  case round =>
    clear N4 K4 C4 B4
    obtain ⟨i, b, k, hi, rfl, hk9, hnp, hkp, hcm, hbr⟩ := hrel
    have HN := hide hnp
    have HK := hide hkp
    have HC := hide hcm
    have HB := hide hbr
    clear hnp hkp hcm hbr
    by_cases hlt : i < n
    · have h5 : k ≤ 59049 := Nat.le_trans hk9 (Nat.le_trans (Nat.pow_le_pow_right (by decide) (show i ≤ 5 by omega)) (by decide))
      have HST := hide (step_any pc pt b k i A ca tape wr (HN.out.cell 0) (HN.out.frozen 0) HN.out.lt HK.out.lt (HK.out.cell 0) HC.out ((H.out.below HB.out).more HB.out.size) HT.out t9 (by omega) (by omega) (HP.out.below HB.out HP.out.lt))
      go_wp2_with fail
      refine HST.out.mono ?_
      rintro en w' ⟨b', w2, rfl, hw', hb2, hc2, hb'⟩
      have HN2 : Hid (Blk w' pc MT #[.map (some b')]) := hide (by
        rw [hw']
        exact (HN.out.below hb2 HN.out.lt).set_ 0 _)
      have HK2 : Hid (Blk w' pt 22 #[.slice A tape.length ca]) := hide (by
        rw [hw']
        exact (HK.out.below hb2 HK.out.lt).far (p := ⟨pc, 0, none⟩) (by show pt ≠ pc; omega) _)
      have HC2 : Hid (CM w' b' (k * 9) (cnt17 tape (i + 1))) := hide (by
        rw [hw']
        exact hc2.kept (Below.heap_setCell w2 ⟨pc, 0, none⟩ _ b' (by have := HN.out.lt; show b' ≠ pc; omega)))
      have HB2 : Hid (RowKit.Below w.heap.size w w') := hide (by
        rw [hw']
        exact (HB.out.trans (hb2.mono HB.out.size)).setCell (p := ⟨pc, 0, none⟩) (by have := HPT.out; show w.heap.size ≤ pc; omega) _)
      have hk2 : k * 9 ≤ 9 ^ (i + 1) := by
        rw [Nat.pow_succ]
        exact Nat.mul_le_mul_right _ hk9
      clear HST HN HK HC HB hw' hb2 hc2 hb' hk9
      go_wp2
      go_roundw
      case rel => exact ⟨i + 1, b', k * 9, by omega, by go_num, hk2, HN2.out, HK2.out, HC2.out, HB2.out⟩
      case measure => simp [intOf] <;> omega
    · obtain rfl : i = n := by omega
      have hk6 : k ≤ 531441 := Nat.le_trans hk9 (Nat.le_trans (Nat.pow_le_pow_right (by decide) hn) (by decide))
      obtain ⟨D, hown, hh, _⟩ := HC.out
      have hsz := hown.size_le
      have hsort := sortedf_any b k D wr hown (by unfold maxLen; omega) (by omega)
      have hperm := keys_perm hown hh (incr_nodup (supp17_incr tape i)) (fun x => by
        rw [supp17_mem HT.out]
        exact ⟨fun h => Nat.ne_of_gt (List.count_pos_iff.2 h), fun h => List.count_pos_iff.1 (Nat.pos_of_ne_zero h)⟩) (fun x hx => i64_wf (by have := supp17_bd hn hx; omega))
      have HSO := hide hsort
      have HPE := hide hperm
      have p1 := HN.out.cell 0
      clear hown hh hsort hperm hsz
      go_wp2_with fail
      refine (keysf_any b wr).mono ?_
      rintro en w5 ⟨rfl, hw5⟩
      subst hw5
      go_wp2_with fail
      refine HSO.out.mono ?_
      rintro en w6 ⟨v, ss, rfl, hsp, hrow, hnil, hb6⟩
      obtain ⟨L, hL⟩ : ∃ L, L = supp17 tape i := ⟨_, rfl⟩
      have hlen : ss.length = L.length := by rw [hL]; exact (hsp.trans HPE.out.symm).length_eq
      rw [sort_is (hsp.trans HPE.out.symm) (supp17_incr tape i), ← hL, hlen] at hrow
      obtain ⟨A5, c5, rfl⟩ : ∃ A5 c5, v = .slice A5 L.length c5 := by
        rcases hrow.2 with ⟨hv5, h05⟩ | ⟨g, cap, cur, hv5, _⟩
        · exact ⟨none, 0, by rw [hv5, h05]⟩
        · exact ⟨_, _, hv5⟩
      have hown5 : Own w6 wr.heap.size 3 1 A5 L.length c5 (ints L) := hrow
      have HRI := hide (Own.ri hown5)
      have HL := hide hL
      have HB6 := hide (HB.out.trans (hb6.mono HB.out.size))
      have HC6 := hide (HC.out.kept (hb6.block _ HC.out.lt))
      have HN6 := hide (HN.out.below hb6 HN.out.lt)
      have hln : L.length ≤ 601 := by
        rw [hL]
        unfold supp17
        refine Nat.le_trans (List.length_filter_le _ _) ?_
        rw [List.length_map, List.length_range]
        omega
      clear hsp hrow hnil hb6 hL hlen hown5 HSO HPE HN HK HC HB p1
      have HD : Hid (∀ j, j < L.length → (dist17 tape i).take (j + 1) = (dist17 tape i).take j ++ [(nth L j, cnt17 tape i (nth L j))] ∧ cnt17 tape i (nth L j) ≠ 0 ∧ (Lit.int .i64 (nth L j)).wf = true) := hide (fun j hj => by
        have e : dist17 tape i = L.map (fun v => (v, cnt17 tape i v)) := by rw [HL.out]; rfl
        have hg : L[j] = nth L j := by
          unfold nth
          rw [List.getD_eq_getElem?_getD, List.getElem?_eq_getElem hj]
          rfl
        have hm : nth L j ∈ supp17 tape i := by rw [← hg, ← HL.out]; exact List.getElem_mem hj
        refine ⟨?_, Nat.ne_of_gt (List.count_pos_iff.2 ((supp17_mem HT.out).1 hm)), i64_wf (by have := supp17_bd hn hm; omega)⟩
        rw [e, List.take_succ_eq_append_getElem (by simpa using hj), List.getElem_map, hg])
      have HDL : Hid ((dist17 tape i).length = L.length ∧ (dist17 tape i).take L.length = dist17 tape i) := hide (by
        have e : dist17 tape i = L.map (fun v => (v, cnt17 tape i v)) := by rw [HL.out]; rfl
        rw [e, List.length_map]
        exact ⟨rfl, List.take_of_length_le (by rw [List.length_map]; exact Nat.le_refl _)⟩)
      go_wp2
      go_loopw [8, 35] (fun t8 t35 wq => ∃ (j : Nat) (A8 : Option Addr) (c8 : Nat), j ≤ L.length ∧ t35 = .int .i64 j ∧ t8 = .slice A8 j c8 ∧ Own wq w6.heap.size 38 2 A8 j c8 (cellsO ((dist17 tape i).take j)) ∧ RowKit.Below w6.heap.size w6 wq) (fun _ t35 _ => L.length - (intOf t35).toNat)
      case atStart => exact ⟨0, none, 0, Nat.zero_le _, rfl, rfl, Own.nil _ _ _ _, RowKit.Below.refl _ _⟩
      case round =>
        obtain ⟨j, A8, c8, hj, rfl, rfl, hown8, hbq⟩ := hrel
        have HO8 := hide hown8
        have HBQ := hide hbq
        clear hown8 hbq
        by_cases hjl : j < L.length
        · obtain ⟨b5, o5, rfl, hb5, g0⟩ := HRI.out.at_ hjl
          have g0 := (HBQ.out.cell (p := ⟨b5, o5 + j, none⟩) hb5).trans g0
          obtain ⟨d1, d2, d3⟩ := HD.out j hjl
          have hlook := (HC6.out.kept (HBQ.out.block _ HC6.out.lt)).look1 d3 d2
          have p1 : wr.cell? ⟨pc, 0, none⟩ = some (.map (some b)) := (HBQ.out.cell (p := ⟨pc, 0, none⟩) HN6.out.lt).trans (HN6.out.cell 0)
          generalize cnt17 tape i (nth L j) = q at d1 hlook
          generalize nth L j = x at g0 d1 hlook
          have RR : Hid (Reads (wr.alloc (Obj.cells #[.int .i64 x, .string (NS q)] 38)) (wr.heap.size + 1) 2 (some ⟨wr.heap.size, 0, none⟩) 1 [.int .i64 x, .string (NS q)]) := hide (reads_new wr #[.int .i64 x, .string (NS q)] 38 2 1 rfl)
          have HOA := hide (HO8.out.alloc (Obj.cells #[.int .i64 x, .string (NS q)] 38))
          have HBA := hide (HBQ.out.alloc HBQ.out.size (Obj.cells #[.int .i64 x, .string (NS q)] 38))
          have HQA : Hid (w6.heap.size ≤ (wr.alloc (Obj.cells #[.int .i64 x, .string (NS q)] 38)).heap.size) := hide HBA.out.size
          have HCE : Hid (cellsO ((dist17 tape i).take j) ++ [.int .i64 x, .string (NS q)] = cellsO ((dist17 tape i).take (j + 1))) := hide (by rw [d1, cellsO_snoc])
          clear d1 d2 d3 HO8 HBQ
          go_wp2_with (at_builtin; refine wpList_app rfl (.tmp 39) (.tmp 45) 25 rfl w6.heap.size 38 (.agg #[.int .i64 0, .string ⟨#[]⟩]) 2 24 Tryz.underlying25 out_info rfl (by omega) A8 j c8 (cellsO ((dist17 tape i).take j)) rfl HOA.out _ _ 1 _ _ rfl RR.out (by simp [Value.oneCell']) (by unfold maxLen; omega) (by omega) HQA.out ?_; intro A7 c7 w7 hown7 hbw7 _; rw [HCE.out] at hown7; have HO7 := hide hown7; have HB7 := hide (HBA.out.trans hbw7); clear hown7 hbw7)
          go_roundw
          case rel => exact ⟨j + 1, A7, c7, by omega, by go_num, rfl, HO7.out, HB7.out⟩
          case measure => simp [intOf] <;> omega
        · obtain rfl : j = L.length := by omega
          have HRD : Hid (RD wr wr.heap.size A8 L.length (dist17 tape i)) := hide (by
            have := HO8.out.reads
            rw [HDL.out.2] at this
            exact this)
          have HFB : Hid (RowKit.Below w.heap.size w wr) := hide (HB6.out.trans (HBQ.out.mono HB6.out.size))
          clear HO8 HRI HC6 HN6
          go_wp2
          go_ret2
          exact ⟨A8, c8, by rw [HDL.out.1]; rfl, by rw [HDL.out.1]; exact HRD.out, HFB.out⟩
end Go.Proofs.YtlkgoljpjeieiaaGreatDoor
