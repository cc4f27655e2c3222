/-
  Chapter 17, Distribution: one step.
-/
import Derived.Test.YtlkgoljpjeieiaaGreatDoorMapN
import Derived.Test.YtlkgoljpjeieiaaGreatDoorStpP
set_option linter.unusedVariables false
set_option linter.unusedSimpArgs false
namespace Go.Proofs.YtlkgoljpjeieiaaGreatDoor
open Go.RowKit Go.Deep Go.Maps

theorem below_grow0 {w w' : World} (h : Below w.heap.size w w') : w.grownBy w' none := ⟨h.os, h.tape, h.output, h.size, fun k hk _ => h.block k hk⟩
/-- The counts of the sums of n offsets. -/
def cnt17 (tape : List Int) (n : Nat) : Int → Nat := fun v => (sums17 tape n).count v
/-- What has come together of a step. -/
def acc17 (tape : List Int) (n : Nat) (left : Lit → Bool) : Int → Nat := part17 tape n fun v => left (.int .i64 v)
theorem i64_wf {v : Int} (h : -100000 ≤ v ∧ v ≤ 100000) : (Lit.int .i64 v).wf = true := by
  have h1 : IntKind.i64.min = -9223372036854775808 := by decide
  have h2 : IntKind.i64.max = 9223372036854775807 := by decide
  show (decide (IntKind.i64.min ≤ v) && decide (v ≤ IntKind.i64.max)) = true
  rw [h1, h2, decide_eq_true (by omega), decide_eq_true (by omega)]
  rfl
theorem supp17_bd {tape : List Int} {n : Nat} (hn : n ≤ 6) {v : Int} (h : v ∈ supp17 tape n) : -300 ≤ v ∧ v ≤ 300 := by
  unfold supp17 at h
  rw [List.mem_filter, List.mem_map] at h
  obtain ⟨⟨i, hi, rfl⟩, _⟩ := h
  rw [List.mem_range] at hi
  omega
theorem same_int (x y : Int) : (Lit.int .i64 x).sameKey (.int .i64 y) = decide (x = y) := by
  by_cases h : x = y
  · subst h
    simp [Lit.sameKey]
  · simp [Lit.sameKey, h]
theorem nth_in {tape : List Int} (ht : ∀ t ∈ tape, -50 ≤ t ∧ t ≤ 50) {j : Nat} (hj : j < tape.length) : -50 ≤ nth tape j ∧ nth tape j ≤ 50 := by
  have hm : nth tape j ∈ tape := by
    unfold nth
    rw [List.getD_eq_getElem?_getD, List.getElem?_eq_getElem hj]
    exact List.getElem_mem hj
  exact ht _ hm
/-- What a step leaves. -/
def StepPost (pc k : Nat) (M : Int → Nat) (w : World) (en : Ending) (w' : World) : Prop :=
  ∃ b' w2, en = .returned (.tuple #[]) ∧ w' = w2.setCell ⟨pc, 0, none⟩ (.map (some b')) ∧ Below w.heap.size w w2 ∧ CM w2 b' k M ∧ w.heap.size ≤ b'
set_option maxHeartbeats 4000000 in
set_option maxRecDepth 100000 in
theorem step_any (pc pt b k n : Nat) (A : Option Addr) (ca : Nat) (tape : List Int) (w : World) (x1 : w.cell? ⟨pc, 0, none⟩ = some (.map (some b))) (f1 : w.frozen? ⟨pc, 0, none⟩ = false) (hpc : pc < w.heap.size) (hpt : pt < w.heap.size)
    (x2 : w.cell? ⟨pt, 0, none⟩ = some (.slice A tape.length ca)) (hcm : CM w b k (cnt17 tape n)) (htp : RI w w.heap.size A tape.length tape) (ht : ∀ t ∈ tape, -50 ≤ t ∧ t ≤ 50) (h9 : tape.length ≤ 9) (hn : n + 1 ≤ 6) (hk : k ≤ 60000) (hp : Pow w) :
    Calls Tryz.prog 22 #[.pointer (some ⟨pc, 0, none⟩), .pointer (some ⟨pt, 0, none⟩)] w (StepPost pc (k * 9) (cnt17 tape (n + 1)) w) := by
  have hmm := @run_makeMap Tryz.prog
  have HT := hide (And.intro ht h9)
  have HP := hide hp
  have HTP := hide htp
  have X1 := hide x1
  have F1 := hide f1
  have X2 := hide x2
  have hbl := hcm.lt
  obtain ⟨D, hown, hh, hV⟩ := hcm
  have HH := hide hh
  have HV := hide hV
  have hsz := hown.size_le
  have HB1 : Hid (Below w.heap.size w (w.alloc (.map #[] 0))) := hide ((Below.refl _ _).alloc (Nat.le_refl _) _)
  have HC1 := hide (CM.made w)
  have HOWN := hide (hown.alloc (.map #[] 0))
  have e1 : (w.alloc (.map #[] 0)).heap.size = w.heap.size + 1 := by simp
  have y1 : (w.alloc (.map #[] 0)).cell? ⟨pc, 0, none⟩ = some (.map (some b)) := (HB1.out.cell (p := ⟨pc, 0, none⟩) hpc).trans x1
  clear hh hV hown ht hp htp x1 f1 x2
  go_enter Tryz.func22, Tryz.ntmps22
  go_wp2_with (first
    | (at_range; refine wpList_range_own _ rfl _ MT rfl 3 29 keyedI Tryz.underlying46 _ b k _ rfl HOWN.out ?_; intro w0 hrg0 hg0 hs0)
    | go_in)
  go_frame
  rw [e1] at hrg0 hs0 ⊢
  have HRG := hide hrg0
  have HB2 : Hid (Below w.heap.size w w0) := hide (HB1.out.grown hg0 HB1.out.size (fun j hj => by cases hj))
  have HC2 := hide (HC1.out.kept (hg0.block _ HC1.out.lt (by simp)))
  clear hrg0 hg0 y1 hmm
  obtain ⟨sz, hsq⟩ : ∃ sz, sz = Maps.size D := ⟨_, rfl⟩
  have HSZ := hide hsq
  rw [← hsq] at hsz
  clear hsq
  go_loopw [3] (fun _ wr => ∃ (left : Lit → Bool) (cnt : Nat), wr.ranges Tryz.prog 3 Rv b (w.heap.size + 1) k D left cnt ∧ cnt ≤ sz ∧ CM wr w.heap.size ((sz - cnt) * 9) (acc17 tape n left) ∧ Below w.heap.size w wr) (fun _ wr => wr.rangeLeft b (w.heap.size + 1))
  case atStart =>
    refine ⟨_, _, HRG.out, by rw [HSZ.out]; exact Nat.le_refl _, ?_, HB2.out⟩
    refine (HC2.out.mono (Nat.zero_le _)).ext fun v => (part17_start (fun x hx => ?_) v).symm
    have hb := supp17_bd (by omega) hx
    rw [HH.out x (i64_wf (by omega))]
    refine decide_eq_true ?_
    have := (supp17_mem HT.out.1).1 hx
    exact Nat.ne_of_gt (List.count_pos_iff.2 this)
  case round =>
    clear HRG HC2 HB2 HOWN
    obtain ⟨left, cnt, hrg, hcs, hcm, hbr⟩ := hrel
    have HRG := hide hrg
    have HCM := hide hcm
    have HBR := hide hbr
    clear hcm hbr
    go_wp2_with (first
      | (at_next; refine wpList_next_ranges (α := Int) (β := Value) _ rfl _ rfl 3 keyedI Rv (Value.int .i64) (fun c => c) (fun key kl hk => by obtain ⟨x, rfl, _⟩ := Maps.keyOf_int_inv Tryz.underlying3 hk; exact ⟨x, rfl⟩) (fun v y _ => ⟨v, rfl⟩) b (w.heap.size + 1) k _ _ _ rfl HRG.out ?_ ?_)
      | go_in)
    · intro hc0 hl0
      subst hc0
      have HFIN := hide (HCM.out.ext (fun v => part17_end HT.out.1 (left := fun v => left (.int .i64 v)) (fun x => hl0 _) v))
      have z1 : wr.cell? ⟨pc, 0, none⟩ = some (.map (some b)) := (HBR.out.cell (p := ⟨pc, 0, none⟩) hpc).trans X1.out
      have z2 : wr.frozen? ⟨pc, 0, none⟩ = false := (World.frozen?_of_block (HBR.out.block pc hpc)).trans F1.out
      go_wp2
      go_end0
      exact ⟨w.heap.size, wr, rfl, rfl, HBR.out, HFIN.out.mono (by omega), Nat.le_refl _⟩
    · intro x c kl y ps w1 cnt1 hkey hlk hv hat hrg1 hlt hg1 hs1 hen
      obtain ⟨x', ex, rfl, hwx⟩ := Maps.keyOf_int_inv Tryz.underlying3 hkey
      injection ex with _ ex
      subst ex
      have hN0 : cnt17 tape n x ≠ 0 := by
        intro h0
        have q1 := hat (.held (.int .i64 0))
        have q2 := hat (.held (.int .i64 1))
        rw [HV.out x hwx, if_pos h0] at q1 q2
        rw [← q2] at q1
        injection q1 with q1
        injection q1 with _ q1
        cases q1
      have hc : c = .string (NS (cnt17 tape n x)) := by
        have q1 := hat (.held undef)
        rw [HV.out x hwx, if_neg hN0] at q1
        injection hv with hv
        injection hv with hv _
        rw [← hv] at q1
        injection q1 with q1
        exact q1.symm
      subst hc
      have hxs : x ∈ supp17 tape n := (supp17_mem HT.out.1).2 (List.count_pos_iff.1 (Nat.pos_of_ne_zero hN0))
      have hxb := supp17_bd (by omega) hxs
      have HXS := hide hxs
      have HLK := hide hlk
      have hNb : cnt17 tape n x ≤ 531441 := count_bd HT.out.2 (by omega) x
      have HRG1 := hide hrg1
      have HBR1 : Hid (Below w.heap.size w w1) := hide (HBR.out.grown hg1 HBR.out.size (fun j hj => by cases hj; exact Nat.le_succ _))
      have HCM1 := hide (HCM.out.kept (hg1.block _ HCM.out.lt (by simp)))
      have y2 : w1.cell? ⟨pt, 0, none⟩ = some (.slice A tape.length ca) := (HBR1.out.cell (p := ⟨pt, 0, none⟩) hpt).trans X2.out
      obtain ⟨q, hq⟩ : ∃ q, q = cnt17 tape n x := ⟨_, rfl⟩
      have HQ := hide hq
      rw [← hq] at hen hN0 hNb
      clear hat hv hkey hq hrg1 hg1 hlk HCM HBR hxs
      go_wp2
      go_loopw [19] (fun t19 wq => ∃ j : Nat, j ≤ tape.length ∧ t19 = .int .i64 j ∧ wq.ranges Tryz.prog 3 Rv b (w.heap.size + 1) k D (fun z => left z && !z.sameKey (.int .i64 x)) cnt1 ∧ CM wq w.heap.size ((sz - cnt) * 9 + j) (fun v => acc17 tape n left v + inn17 tape q x j v) ∧ Below w.heap.size w wq) (fun t19 _ => tape.length - (intOf t19).toNat)
      case atStart => exact ⟨0, Nat.zero_le _, rfl, HRG1.out, HCM1.out.ext (fun v => by rw [inn17_zero, Nat.add_zero]), HBR1.out⟩
      case round =>
        clear HRG1 HCM1 HBR1 y2
        obtain ⟨j, hj, rfl, hrq, hcq, hbq⟩ := hrel
        have HRQ := hide hrq
        have HCQ := hide hcq
        have HBQ := hide hbq
        clear hrq hcq hbq
        by_cases hjl : j < tape.length
        · obtain ⟨bt, ot, rfl, hbt, g0⟩ := HTP.out.at_ hjl
          have g0 := (HBQ.out.cell (p := ⟨bt, ot + j, none⟩) hbt).trans g0
          have htb := nth_in HT.out.1 hjl
          have HSTEP : Hid (∀ v, inn17 tape q x (j + 1) v = inn17 tape q x j v + if v = x + nth tape j then q else 0) := hide (fun v => inn17_step hjl q x v)
          have HBD : Hid (∀ v, acc17 tape n left v + inn17 tape q x j v ≤ 531441) := hide (fun v => by
            rw [HQ.out]
            exact step17_bd HT.out.1 HT.out.2 hn (left := fun v => left (.int .i64 v)) (left' := fun v => left (.int .i64 v) && !decide (v = x)) HXS.out HLK.out (fun k => rfl) j v)
          generalize nth tape j = t at g0 htb HSTEP
          have HWV : Hid ((Lit.int .i64 (x + t)).wf = true) := hide (i64_wf (by omega))
          have hlook := HCQ.out.look_ HWV.out
          have hbd := HBD.out (x + t)
          try (dsimp only at hlook)
          obtain ⟨o, ho⟩ : ∃ o, o = acc17 tape n left (x + t) + inn17 tape q x j (x + t) := ⟨_, rfl⟩
          have HO := hide ho
          rw [← ho] at hlook hbd
          clear ho
          have KEEP : Hid (∀ w5 : World, Below wr.heap.size wr w5 → ∃ w7, (Instr.mapUpdate MT (.map (some w.heap.size)) (.int .i64 (x + t)) (.string (NS (o + q)))).run Tryz.prog w5 = .ok () w7 ∧
              w7.ranges Tryz.prog 3 Rv b (w.heap.size + 1) k D (fun z => left z && !z.sameKey (.int .i64 x)) cnt1 ∧ CM w7 w.heap.size ((sz - cnt) * 9 + (j + 1)) (fun v => acc17 tape n left v + inn17 tape q x (j + 1) v) ∧ Below w.heap.size w w7) := hide (fun w5 h5 => by
            have hc5 := HCQ.out.kept (h5.block _ HCQ.out.lt)
            obtain ⟨w7, hrun, hcm7, hg7⟩ := hc5.put (by unfold maxLen; omega) HWV.out (c := o + q) (by omega)
            have hr5 := HRQ.out.kept (below_grow0 h5) (by simp) (by simp)
            have hr7 := hr5.kept hg7 (fun e => by have := Option.some.inj e; omega) (fun e => by have := Option.some.inj e; omega)
            refine ⟨w7, hrun, hr7, hcm7.ext fun v => ?_, (HBQ.out.trans (h5.mono HBQ.out.size)).grown hg7 (by have := HBQ.out.size; have := h5.size; omega) (fun j hj => by cases hj; exact Nat.le_refl _)⟩
            rw [HSTEP.out v]
            by_cases e : v = x + t
            · subst e
              rw [if_pos rfl, if_pos rfl, HO.out]
              omega
            · rw [if_neg e, if_neg e]
              omega)
          by_cases h0 : o = 0
          · subst h0
            rw [if_pos rfl] at hlook
            have hd0 : decide ((0 : Nat) ≠ 0) = false := by decide
            rw [hd0] at hlook
            have hadd := nadd_any 0 q wr (by omega) (by omega) (by omega) (HP.out.below HBQ.out HP.out.lt) (by have := HBQ.out.size; have := HP.out.lt; omega)
            rw [ns_zero] at hadd
            have HADD := hide hadd
            clear hadd hd0 HCQ HRQ HBQ HSTEP HBD HO
            go_wp2_with fail
            refine HADD.out.mono ?_
            rintro en w5 ⟨rfl, h5⟩
            obtain ⟨w7, hrun, hr7, hc7, hb7⟩ := KEEP.out w5 h5
            rw [Nat.zero_add] at hrun
            have HR7 := hide hr7
            have HC7 := hide hc7
            have HB7 := hide hb7
            clear hr7 hc7 hb7 h5 hlook g0
            go_wp2
            go_roundw
            case rel => exact ⟨j + 1, by omega, by go_num, HR7.out, HC7.out, HB7.out⟩
            case measure => simp [intOf] <;> omega
          · rw [if_neg h0, decide_eq_true h0] at hlook
            have HADD := hide (nadd_any o q wr (by omega) (by omega) (by omega) (HP.out.below HBQ.out HP.out.lt) (by have := HBQ.out.size; have := HP.out.lt; omega))
            clear HCQ HRQ HBQ HSTEP HBD HO
            go_wp2_with fail
            refine HADD.out.mono ?_
            rintro en w5 ⟨rfl, h5⟩
            obtain ⟨w7, hrun, hr7, hc7, hb7⟩ := KEEP.out w5 h5
            have HR7 := hide hr7
            have HC7 := hide hc7
            have HB7 := hide hb7
            clear hr7 hc7 hb7 h5 hlook g0
            go_wp2
            go_roundw
            case rel => exact ⟨j + 1, by omega, by go_num, HR7.out, HC7.out, HB7.out⟩
            case measure => simp [intOf] <;> omega
        · obtain rfl : j = tape.length := by omega
          have HACC : Hid (CM wr w.heap.size ((sz - cnt1) * 9) (acc17 tape n fun z => left z && !z.sameKey (.int .i64 x))) := hide ((HCQ.out.mono (by omega)).ext fun v => by
            have h1 := part17_step (tape := tape) (n := n) (left := fun v => left (.int .i64 v)) (left' := fun v => left (.int .i64 v) && !(Lit.int .i64 v).sameKey (.int .i64 x)) HXS.out HLK.out (fun k => by rw [same_int]) v
            show acc17 tape n left v + inn17 tape q x tape.length v = part17 tape n (fun v => left (.int .i64 v) && !(Lit.int .i64 v).sameKey (.int .i64 x)) v
            rw [h1, inn17_full, HQ.out]
            rfl)
          have HLE := hide (And.intro HRQ.out.left_eq HRG.out.left_eq)
          clear HCQ
          go_wp2
          go_roundw
          case rel => exact ⟨_, cnt1, HRQ.out, by omega, HACC.out, HBQ.out⟩
          case measure => rw [HLE.out.1, HLE.out.2]; exact hlt
end Go.Proofs.YtlkgoljpjeieiaaGreatDoor
