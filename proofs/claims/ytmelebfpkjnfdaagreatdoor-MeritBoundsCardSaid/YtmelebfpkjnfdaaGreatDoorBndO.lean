/-
  bound.Bounds.
-/
import Derived.Test.YtmelebfpkjnfdaaGreatDoorBndM
import Derived.Test.YtmelebfpkjnfdaaGreatDoorMore
import Derived.Test.YtmelebfpkjnfdaaGreatDoorBndDv
import Derived.Test.YtmelebfpkjnfdaaGreatDoorExpG
set_option linter.unusedVariables false
set_option linter.unusedSimpArgs false
namespace Go.Proofs.YtmelebfpkjnfdaaGreatDoor
open Go.RowKit Go.Deep Go.Maps

theorem span_info : (Tryz.prog.info? 88).map (fun i => (i.zero, i.size, i.bytes)) = some (some (.agg #[.int .i64 0, .int .i64 0]), 2, 16) := by kernel_rfl
theorem cellsS_set (s : Int × Int) : ∀ (ss : List (Int × Int)) (i : Nat), ((cellsS ss).set (i * 2) (.int .i64 s.1)).set (i * 2 + 1) (.int .i64 s.2) = cellsS (ss.set i s)
  | [], i => rfl
  | y :: ss, 0 => rfl
  | y :: ss, i + 1 => by
    have ih := cellsS_set s ss i
    rw [show (i + 1) * 2 = (i * 2) + 1 + 1 from by omega]
    unfold cellsS at ih ⊢
    simp only [List.flatMap_cons, List.cons_append, List.nil_append, List.set_cons_succ, ih]
/-- The bounds so far, and noughts behind them. -/
def padS (n : Nat) (all : List (Int × Int)) : List (Int × Int) := all ++ List.replicate (n - all.length) (0, 0)
theorem padS_len {n : Nat} {all : List (Int × Int)} (h : all.length ≤ n) : (padS n all).length = n := by
  unfold padS
  simp
  omega
theorem padS_set {n : Nat} {all : List (Int × Int)} (h : all.length < n) (s : Int × Int) : (padS n all).set all.length s = padS n (all ++ [s]) := by
  unfold padS
  rw [List.set_append_right _ _ (Nat.le_refl _), Nat.sub_self, List.length_append]
  rw [show n - all.length = (n - (all.length + 1)) + 1 from by omega, List.replicate_succ, List.set_cons_zero]
  simp
theorem padS_get {n : Nat} {all : List (Int × Int)} {i : Nat} (h : i < all.length) : (padS n all).getD i (0, 0) = all.getD i (0, 0) := by
  unfold padS
  rw [List.getD_eq_getElem?_getD, List.getD_eq_getElem?_getD, List.getElem?_append_left h]
theorem made_span (n : Nat) : madeCells #[.int .i64 0, .int .i64 0] (n * 2) = (cellsS (padS n [])).toArray := by
  have h : ∀ n, madeCells (Value.agg #[.int .i64 0, .int .i64 0]).cells (n * 2) = (cellsS (List.replicate n (0, 0))).toArray := by
    intro n
    apply Array.ext
    · rw [size_madeCells]
      simp [cellsS_len]
    · intro j h1 h2
      rw [size_madeCells] at h1
      have hj := madeCells_get (Value.agg #[.int .i64 0, .int .i64 0]).cells (n * 2) j h1
      rw [Array.getElem?_eq_getElem (by rw [size_madeCells]; exact h1)] at hj
      injection hj with hj
      rw [hj]
      have e1 : (Value.agg #[.int .i64 0, .int .i64 0]).cells[j % (Value.agg #[.int .i64 0, .int .i64 0]).cells.size]! = .int .i64 0 := by
        show (#[Value.int .i64 0, .int .i64 0] : Array Value)[j % 2]! = _
        have : j % 2 = 0 ∨ j % 2 = 1 := by omega
        rcases this with h | h <;> rw [h] <;> rfl
      rw [e1]
      have hg := cellsS_get (s := (0, 0)) (List.replicate n (0, 0)) (j / 2) (by rw [List.getElem?_replicate, if_pos (by omega)])
      have hd : j = j / 2 * 2 ∨ j = j / 2 * 2 + 1 := by omega
      have h3 : (cellsS (List.replicate n ((0 : Int), (0 : Int))))[j]? = some (.int .i64 0) := by
        rcases hd with hd | hd
        · rw [hd]; exact hg.1
        · rw [hd]; exact hg.2
      rw [List.getElem_toArray]
      have h4 : j < (cellsS (List.replicate n ((0 : Int), (0 : Int)))).length := by simpa using h2
      rw [List.getElem?_eq_getElem h4] at h3
      injection h3 with h3
      exact h3.symm
  exact h n

theorem Blk.setSpan {w : World} {g : Nat} {t : TypeId} {ss : List (Int × Int)} (h : Blk w g t (cellsS ss).toArray) (i : Nat) (s : Int × Int) :
    Blk ((w.setCell ⟨g, i * 2, none⟩ (.int .i64 s.1)).setCell ⟨g, i * 2 + 1, none⟩ (.int .i64 s.2)) g t (cellsS (ss.set i s)).toArray := by
  have := Blk.set_ (Blk.set_ h (i * 2) (.int .i64 s.1)) (i * 2 + 1) (.int .i64 s.2)
  rw [← cellsS_set]
  simpa using this
theorem Blk.spanAt_ {w : World} {g : Nat} {t : TypeId} {ss : List (Int × Int)} (h : Blk w g t (cellsS ss).toArray) {i : Nat} (hi : i < ss.length) :
    w.cell? ⟨g, i * 2, none⟩ = some (.int .i64 (ss.getD i (0, 0)).1) ∧ w.cell? ⟨g, i * 2 + 1, none⟩ = some (.int .i64 (ss.getD i (0, 0)).2) := by
  have hs : ss[i]? = some (ss.getD i (0, 0)) := by
    rw [List.getD_eq_getElem?_getD, List.getElem?_eq_getElem hi]
    rfl
  obtain ⟨g0, g1⟩ := cellsS_get ss i hs
  exact ⟨by rw [h.cell]; simpa using g0, by rw [h.cell]; simpa using g1⟩
theorem KeptBut.span {q : Nat} {w w' : World} (h : KeptBut q w w') (i j : Nat) (u v : Value) : KeptBut q w ((w'.setCell ⟨q, i, none⟩ u).setCell ⟨q, j, none⟩ v) := (h.set i u).set j v
/-- The operators' table. -/
def opCells : Array Value := #[.nilFunc, .nilFunc, .nilFunc, .func (.func 44) #[] #[], .func (.func 45) #[] #[], .func (.func 46) #[] #[],
  .func (.func 47) #[] #[], .func (.func 48) #[] #[], .func (.func 49) #[] #[], .func (.func 50) #[] #[],
  .func (.func 51) #[] #[], .func (.func 52) #[] #[], .func (.func 53) #[] #[]]

theorem kids1 {l : List Int} (h : (l.length : Int) = 1) : ∃ a, l = [a] := List.length_eq_one_iff.1 (by omega)
theorem kids2 {l : List Int} (h : (l.length : Int) = 2) : ∃ a b, l = [a, b] := by
  rcases l with _ | ⟨a, _ | ⟨b, _ | ⟨c, l⟩⟩⟩
  · simp at h
  · simp at h
  · exact ⟨a, b, rfl⟩
  · simp at h; omega
theorem kids3 {l : List Int} (h : (l.length : Int) = 3) : ∃ a b c, l = [a, b, c] := by
  rcases l with _ | ⟨a, _ | ⟨b, _ | ⟨c, _ | ⟨d, l⟩⟩⟩⟩
  · simp at h
  · simp at h
  · simp at h
  · exact ⟨a, b, c, rfl⟩
  · simp at h; omega
theorem formed_ops {x : Nod} (h : formedL x = true) : (x.kids.length : Int) = operands x.op := by
  unfold formedL at h
  cases hd : decide (operands x.op = x.kids.length)
  · rw [hd] at h; simp at h
  · exact (of_decide_eq_true hd).symm
theorem span_last (all : List (Int × Int)) (s : Int × Int) : (all ++ [s]).getD all.length (0, 0) = s := by
  rw [List.getD_eq_getElem?_getD, List.getElem?_append_right (Nat.le_refl _), Nat.sub_self]
  rfl

/-- What Bounds leaves. -/
def BndPost (w : World) (r : Int × Int × Int) (e : Ending) (w' : World) : Prop := e = .returned (.tuple #[.int .i64 r.1, .int .i64 r.2.1, .int .i64 r.2.2]) ∧ Below w.heap.size w w'

set_option maxHeartbeats 40000000 in
set_option maxRecDepth 20000 in
theorem bounds_any (A : Option Addr) (c : Nat) (e : List Nod) (A2 : Option Addr) (n2 c2 : Nat) (rs : List Rng) (w : World) (he : ExprAt w w.heap.size A e) (hen : ∀ x ∈ e, x.name.size ≤ maxLen) (hem : e.length ≤ maxLen)
    (hr : RRg w w.heap.size A2 n2 rs) (hrn : n2 ≤ maxLen) (hrm : ∀ r ∈ rs, r.name.size ≤ maxLen) :
    Calls Tryz.prog 17 #[.slice A e.length c, .slice A2 n2 c2] w (BndPost w (boundsL e rs)) := by
  obtain ⟨res, hres⟩ : ∃ res, boundsL e rs = res := ⟨_, rfl⟩
  rw [hres]
  have HE := hide he
  have HEN := hide hen
  have HRES : Hid (boundsL e rs = res) := hres
  clear he hres hen
  go_enter Tryz.func17, Tryz.ntmps17
  go_wp2_with fail
  refine (ranges_any A2 n2 c2 rs w hr hrn hrm).mono ?_
  rintro en w1 ⟨m, rfl, hb1, hm⟩
  have HM := hide hm
  clear hm
  cases hv : validRs rs
  · obtain rfl : (0, 0, 1) = res := by
      rw [← HRES.out]
      unfold boundsL
      rw [if_pos (.inl hv)]
    clear HRES HM hv
    go_wp2
    go_ret3
    exact ⟨rfl, hb1⟩
  · have HV := hide hv
    have he1 := HE.out.next hb1
    clear hv
    go_wp2_with fail
    refine (valid_any A c e w1 he1 HEN.out hem).mono ?_
    rintro en w2 ⟨rfl, hb2⟩
    have hb02 := hb1.trans (hb2.mono hb1.size)
    cases hv2 : validL e
    · obtain rfl : (0, 0, 1) = res := by
        rw [← HRES.out]
        unfold boundsL
        rw [if_pos (.inr hv2)]
      clear HRES HM hv2
      go_wp2
      go_ret3
      exact ⟨rfl, hb02⟩
    · obtain ⟨gm, rfl, hgm, hRM1⟩ := HM.out HV.out
      have HV2 := hide hv2
      obtain ⟨hl1, hl300, hnod⟩ := valid_nodes hv2
      have HNOD := hide hnod
      have HRM2 := hide (hRM1.kept (hb2.block gm hRM1.lt))
      have HE2 := hide ((HE.out.below hb1).below (hb2.mono hb1.size))
      have hgm2 : gm < w2.heap.size := Nat.lt_of_lt_of_le hRM1.lt hb2.size
      clear hv2 HM hnod hRM1 he1 hb1 hb2 HE
      have hmk := fun (w : World) => make_runS (P := Tryz.prog) 84 88 (.agg #[.int .i64 0, .int .i64 0]) 2 16 Tryz.underlying84 span_info e.length (by omega) (by omega) w
      go_upto_region 5 with (fail)
      have hB3 : Blk (w2.alloc (Obj.cells opCells 86)) w2.heap.size 86 opCells := Blk.new _ _ _
      have HRM3 : Hid (RM (w2.alloc (Obj.cells opCells 86)) gm rs) := hide (HRM2.out.kept (Below.heap_alloc _ _ _ hgm2))
      have HE3 : Hid (ExprAt (w2.alloc (Obj.cells opCells 86)) w.heap.size A e) := hide (HE2.out.keep (fun p hp => World.cell?_alloc_lt w2 _ p (Nat.lt_of_lt_of_le hp hb02.size)))
      have hb03 : Below w.heap.size w (w2.alloc (Obj.cells opCells 86)) := hb02.alloc hb02.size _
      have hgo : gm < w2.heap.size := hgm2
      have hwo : w.heap.size ≤ w2.heap.size := hb02.size
      unfold opCells at hB3 HRM3 HE3 hb03
      generalize w2.alloc (Obj.cells #[.nilFunc, .nilFunc, .nilFunc, .func (.func 44) #[] #[], .func (.func 45) #[] #[], .func (.func 46) #[] #[],
        .func (.func 47) #[] #[], .func (.func 48) #[] #[], .func (.func 49) #[] #[], .func (.func 50) #[] #[],
        .func (.func 51) #[] #[], .func (.func 52) #[] #[], .func (.func 53) #[] #[]] 86) = w3 at hB3 HRM3 HE3 hb03 ⊢
      generalize w2.heap.size = go at hB3 hgo hwo ⊢
      clear HRM2 HE2 hb02 hgm2
      have hl3 := hB3.lt
      have hga : Blk (w3.alloc (Obj.cells (madeCells #[.int .i64 0, .int .i64 0] (e.length * 2)) 88)) w3.heap.size 88 (cellsS (padS e.length [])).toArray := by
        rw [← made_span]
        exact Blk.new _ _ _
      have HB4 := hide (hB3.alloc (Obj.cells (madeCells #[.int .i64 0, .int .i64 0] (e.length * 2)) 88))
      have HRM4 := hide (HRM3.out.kept (Below.heap_alloc w3 (Obj.cells (madeCells #[.int .i64 0, .int .i64 0] (e.length * 2)) 88) gm HRM3.out.lt))
      have HE4 : Hid (ExprAt (w3.alloc (Obj.cells (madeCells #[.int .i64 0, .int .i64 0] (e.length * 2)) 88)) w.heap.size A e) := hide (HE3.out.keep (fun p hp => World.cell?_alloc_lt w3 _ p (Nat.lt_of_lt_of_le hp hb03.size)))
      have hb04 : Below w.heap.size w (w3.alloc (Obj.cells (madeCells #[.int .i64 0, .int .i64 0] (e.length * 2)) 88)) := hb03.alloc hb03.size _
      have hwa := hb03.size
      clear hB3 HRM3 HE3 hb03
      go_upto_region 6 with (fail)
      generalize w3.alloc (Obj.cells (madeCells #[.int .i64 0, .int .i64 0] (e.length * 2)) 88) = w4 at hga HB4 HRM4 HE4 hb04 ⊢
      generalize w3.heap.size = ga at hga hl3 hwa ⊢
      clear hmk
      have HBE : Hid (∀ r, goB rs [] e = .error r → ((0, 0, r) : Int × Int × Int) = res) := hide (fun r hr => by
        rw [← HRES.out]
        unfold boundsL
        rw [if_neg (by rw [HV.out, HV2.out]; simp), hr])
      go_wp2
      go_loopw [37] (fun i wr => ∃ (k : Nat) (all : List (Int × Int)), k ≤ e.length ∧ i = .int .i64 k ∧ goB rs [] (e.take k) = .ok all ∧ Blk wr ga 88 (cellsS (padS e.length all)).toArray ∧ KeptBut ga w4 wr) (fun i _ => e.length - (intOf i).toNat)
      case atStart => exact ⟨0, [], Nat.zero_le _, rfl, rfl, hga, KeptBut.refl _ _⟩
      case round =>
        clear hga
        obtain ⟨k, all, hk, rfl, hgo', hga, hK⟩ := hrel
        have hal : all.length = k := by
          have := go_len _ _ _ hgo'
          simp at this
          omega
        have HGO := hide hgo'
        have HAL := hide hal
        have l4 := hK.size
        have hRMr := HRM4.out.kept (hK.block gm HRM4.out.lt (by omega))
        have hOPr := hK.blk HB4.out (by omega)
        have hbr : Below w.heap.size w wr := hb04.trans (hK.below hwa hb04.size)
        have hEr := HE4.out.below (hK.below hwa hb04.size)
        have hgal := hga.lt
        have HGA := hide hga
        have HK := hide hK
        have HR5 := hide hRMr
        have HO5 := hide hOPr
        clear hgo' hal hga hK hRMr hOPr
        by_cases hlt : k < e.length
        · obtain ⟨be, offe, K, kc, rfl, hbe, x0, x1, x2, x3, hKd⟩ := hEr.at_ hlt
          have hnk := HNOD.out k hlt
          have hxn : (nodAt e k).name.size ≤ maxLen := HEN.out _ (List.mem_of_getElem? (nodAt_get hlt))
          have HST := hide (fun (s : Int × Int) (hs : stepB rs all (nodAt e k) = .ok s) => goB_next hlt HGO.out hs)
          have HER := hide (fun (r : Int) (hs : stepB rs all (nodAt e k) = .error r) => goB_stop hlt HGO.out hs)
          generalize nodAt e k = x at x0 x1 x2 x3 hKd hnk hxn HST HER
          have HF := hide hnk.1
          have HKI := hide hnk.2
          have HKD := hide hKd
          have hB5 : Blk (wr.alloc (Obj.cells #[.int .i64 x.op, .int .i64 x.n, .string x.name, .slice K x.kids.length kc] 63)) wr.heap.size 63 #[.int .i64 x.op, .int .i64 x.n, .string x.name, .slice K x.kids.length kc] := Blk.new _ _ _
          have hb5 : Below wr.heap.size wr (wr.alloc (Obj.cells #[.int .i64 x.op, .int .i64 x.n, .string x.name, .slice K x.kids.length kc] 63)) := (Below.refl _ _).alloc (Nat.le_refl _) _
          have hbel : be < wr.heap.size := by omega
          clear hnk hKd hEr
          go_upto_region 9 with (fail)
          generalize wr.alloc (Obj.cells #[.int .i64 x.op, .int .i64 x.n, .string x.name, .slice K x.kids.length kc] 63) = w5 at hB5 hb5 ⊢
          obtain ⟨c0, c1, c2', c3, _, _, _, _⟩ := blk4 hB5
          have HK5 := hide (HK.out.trans (KeptBut.of_below hb5))
          have HGA5 := hide (HGA.out.below hb5 hgal)
          have HRM5 := hide (HR5.out.kept (hb5.block gm HR5.out.lt))
          have HOP5 := hide (HO5.out.below hb5 HO5.out.lt)
          have HKD5 : Hid (RI w5 w.heap.size K x.kids.length x.kids) := hide (HKD.out.below (hb5.mono hbr.size))
          have hb05 := hbr.trans (hb5.mono hbr.size)
          have hgn : ga < wr.heap.size := hgal
          obtain ⟨s0, s1⟩ := HGA5.out.spanAt_ (i := k) (by rw [padS_len (by rw [HAL.out]; exact hk)]; exact hlt)
          have fa0 := HGA5.out.frozen (k * 2)
          have fa1 := HGA5.out.frozen (k * 2 + 1)
          have hl5 := hb5.size
          clear x0 x1 x2 x3 HK HGA HR5 HO5 HKD hb5 hbel
          generalize (padS e.length all).getD k (0, 0) = sp at s0 s1
          obtain ⟨sp0, sp1⟩ := sp
          dsimp only at s0 s1
          by_cases h1 : x.op = 1
          · have hst : stepB rs all x = .ok (x.n, x.n) := by
              unfold stepB
              rw [if_pos h1]
            have HGN := hide (HST.out _ hst)
            rw [h1] at c0
            clear hst
            have r6 := HGA5.out.setSpan k (x.n, x.n)
            rw [← HAL.out, padS_set (by rw [HAL.out]; exact hlt), HAL.out] at r6
            have R6 := hide r6
            have K6 := hide (HK5.out.span (k * 2) (k * 2 + 1) (.int .i64 x.n) (.int .i64 x.n))
            clear r6
            go_wp2
            go_roundw
            case rel => exact ⟨k + 1, all ++ [(x.n, x.n)], by omega, by go_num, HGN.out, R6.out, K6.out⟩
            case measure => simp [intOf]; omega
          · by_cases h2 : x.op = 2
            · have hd : distinctR rs = true := by
                have := HV.out
                rw [valid_split, Bool.and_eq_true] at this
                exact this.2
              have hlk := HRM5.out.look_ hd hxn
              rw [h2] at c0
              have hst : stepB rs all x = match look rs x.name with | some s => .ok s | none => .error 7 := by
                unfold stepB
                rw [if_neg h1, if_pos h2]
                cases look rs x.name <;> rfl
              cases hl : look rs x.name with
              | none =>
                rw [hl] at hlk hst
                have hlk' : (Instr.lookup 79 (.map (some gm)) (.string x.name) true).run Tryz.prog w5 = .ok (.tuple #[.agg #[.int .i64 0, .int .i64 0], .bool false]) w5 := hlk
                have HRS := hide (HBE.out 7 (HER.out 7 hst))
                clear hlk hst hd hl HST HER
                go_wp2
                go_ret3
                rw [← HRS.out]
                exact ⟨rfl, hb05.alloc hb05.size _⟩
              | some s =>
                rw [hl] at hlk hst
                have HGN := hide (HST.out s hst)
                obtain ⟨t1, t2⟩ := s
                have hlk' : (Instr.lookup 79 (.map (some gm)) (.string x.name) true).run Tryz.prog w5 = .ok (.tuple #[.agg #[.int .i64 t1, .int .i64 t2], .bool true]) w5 := hlk
                clear hlk hst hd hl HST HER
                have hb6 : Below w5.heap.size w5 (w5.alloc (Obj.cells #[.int .i64 t1, .int .i64 t2] 88)) := (Below.refl _ _).alloc (Nat.le_refl _) _
                have HB6 := hide (Blk.new w5 88 #[.int .i64 t1, .int .i64 t2])
                go_upto_region 14 with (fail)
                generalize w5.alloc (Obj.cells #[.int .i64 t1, .int .i64 t2] 88) = w6 at hb6 HB6 ⊢
                have HGA6 := hide (HGA5.out.below hb6 (by omega))
                have HK6 := hide (HK5.out.trans (KeptBut.of_below hb6))
                have d0 : w6.cell? ⟨w5.heap.size, 0, none⟩ = some (.int .i64 t1) := HB6.out.cell 0
                have d1 : w6.cell? ⟨w5.heap.size, 1, none⟩ = some (.int .i64 t2) := HB6.out.cell 1
                have s0' : w6.cell? ⟨ga, k * 2, none⟩ = some (.int .i64 sp0) := (hb6.cell (p := ⟨ga, k * 2, none⟩) (by show ga < _; omega)).trans s0
                have s1' : w6.cell? ⟨ga, k * 2 + 1, none⟩ = some (.int .i64 sp1) := (hb6.cell (p := ⟨ga, k * 2 + 1, none⟩) (by show ga < _; omega)).trans s1
                have fa0' := HGA6.out.frozen (k * 2)
                have fa1' := HGA6.out.frozen (k * 2 + 1)
                have r6 := HGA6.out.setSpan k (t1, t2)
                rw [← HAL.out, padS_set (by rw [HAL.out]; exact hlt), HAL.out] at r6
                have R6 := hide r6
                have K6 := hide (HK6.out.span (k * 2) (k * 2 + 1) (.int .i64 t1) (.int .i64 t2))
                clear r6 s0 s1 fa0 fa1 c0 c1 c2' c3 hlk'
                go_wp2
                go_roundw
                case rel => exact ⟨k + 1, all ++ [(t1, t2)], by omega, by go_num, HGN.out, R6.out, K6.out⟩
                case measure => simp [intOf]; omega
            · have hok := formed_ok HF.out
              have hop3 : 3 ≤ x.op := by have := hok.1; omega
              have hop12 : x.op ≤ 12 := hok.2.1
              have h1' : (x.op == 1) = false := beq_eq_false_iff_ne.2 h1
              have h2' : (x.op == 2) = false := beq_eq_false_iff_ne.2 h2
              have hk3 := formed_kids HF.out
              have HIN := hide (go_in HV.out (e.take k) [] all (fun s hs => absurd hs List.not_mem_nil) (fun y hy => by
                obtain ⟨i, hi, rfl⟩ := List.getElem_of_mem (List.mem_of_mem_take hy)
                have := HNOD.out i hi
                rw [← nodAt_get' hi] at this
                exact formed_ok this.1) HGO.out)
              have hw5 : w.heap.size ≤ w5.heap.size := hb05.size
              clear hok
              go_wp2
              obtain ⟨wo, rfl⟩ : ∃ wo : World, wo = wr := ⟨_, rfl⟩
              go_loopw [15, 72] (fun v i wq => ∃ (j : Nat) (A3 : Option Addr) (c3 : Nat), j ≤ x.kids.length ∧ i = .int .i64 j ∧ v = .slice A3 j c3 ∧ Own wq w5.heap.size 88 2 A3 j c3 (cellsS ((x.kids.take j).map (spanAt all))) ∧ Below w5.heap.size w5 wq) (fun _ i _ => x.kids.length - (intOf i).toNat)
              case atStart => exact ⟨0, none, 0, Nat.zero_le _, rfl, rfl, Own.nil _ _ _ _, Below.refl _ _⟩
              case round =>
                obtain ⟨j, A3, c3v, hj, rfl, rfl, hown, hbq⟩ := hrel
                have HBQ := hide hbq
                have lq := hbq.size
                by_cases hjl : j < x.kids.length
                · obtain ⟨bk, offk, rfl, hbk, gk⟩ := HKD5.out.at_ (k := j) hjl
                  have hkm : nth x.kids j ∈ x.kids := nth_mem hjl
                  have hkb := HKI.out _ hkm
                  obtain ⟨q, hq⟩ := Int.eq_ofNat_of_zero_le hkb.1
                  rw [hq] at gk hkb
                  have hqk : q < k := by omega
                  have HT : Hid ((x.kids.take (j + 1)).map (spanAt all) = (x.kids.take j).map (spanAt all) ++ [all.getD q (0, 0)]) := by
                    show _ = _
                    rw [nth_take hjl, List.map_append, hq]
                    rfl
                  have g0 : wr.cell? ⟨bk, offk + j, none⟩ = some (.int .i64 (q : Int)) := (hbq.cell (p := ⟨bk, offk + j, none⟩) (by show bk < _; omega)).trans gk
                  obtain ⟨a0, a1⟩ := (HGA5.out.below hbq (by omega)).spanAt_ (i := q) (by rw [padS_len (by rw [HAL.out]; exact hk)]; omega)
                  rw [padS_get (by rw [HAL.out]; exact hqk)] at a0 a1
                  generalize all.getD q (0, 0) = sq at a0 a1 HT
                  obtain ⟨sq1, sq2⟩ := sq
                  dsimp only at a0 a1 HT
                  have hqe : q < e.length := by omega
                  have HO := hide hown
                  clear hown hkm hkb hq gk s0 s1 c0 c1 c2' c3
                  have RR : Hid (Reads (wr.alloc (Obj.cells #[.int .i64 sq1, .int .i64 sq2] 88)) (wr.heap.size + 1) 2 (some ⟨wr.heap.size, 0, none⟩) 1 (cellsS [(sq1, sq2)])) := hide (reads_new wr #[.int .i64 sq1, .int .i64 sq2] 88 2 1 rfl)
                  have HO7 := hide (HO.out.alloc (Obj.cells #[.int .i64 sq1, .int .i64 sq2] 88))
                  have HB7 : Hid (Below w5.heap.size w5 (wr.alloc (Obj.cells #[.int .i64 sq1, .int .i64 sq2] 88))) := hide (hbq.alloc lq _)
                  have l7 : w5.heap.size ≤ (wr.alloc (Obj.cells #[.int .i64 sq1, .int .i64 sq2] 88)).heap.size := by simp; omega
                  clear HO hbq lq
                  go_wp2_with (at_builtin; refine wpList_app rfl (.tmp 76) (.tmp 81) 85 rfl w5.heap.size 88 (.agg #[.int .i64 0, .int .i64 0]) 2 16 Tryz.underlying85 span_info rfl (by omega) A3 j c3v _ rfl HO7.out _ _ 1 _ _ rfl RR.out (cellsS_one _) (by unfold maxLen; omega) (by omega) l7 ?_; intro A8 c8 w8 hown8 hb8 hg8; have HO8 := hide hown8; have HB8 := hide (HB7.out.trans hb8); clear hown8 hb8 hg8)
                  go_roundw
                  case rel => exact ⟨j + 1, A8, c8, by omega, by go_num, rfl, by rw [HT.out, cellsS_snoc]; exact HO8.out, HB8.out⟩
                  case measure => simp [intOf]; omega
                · obtain rfl : j = x.kids.length := by omega
                  rw [List.take_length] at hown
                  have hrs : RSp wr wr.heap.size A3 x.kids.length (x.kids.map (spanAt all)) := hown.reads
                  have hst : stepB rs all x = if beyondL (nodeB x.op (spanAt all (kidAt x 0)) (spanAt all (kidAt x 1)) (spanAt all (kidAt x 2))).1 || beyondL (nodeB x.op (spanAt all (kidAt x 0)) (spanAt all (kidAt x 1)) (spanAt all (kidAt x 2))).2 then .error 9 else .ok (nodeB x.op (spanAt all (kidAt x 0)) (spanAt all (kidAt x 1)) (spanAt all (kidAt x 2))) := by
                    unfold stepB
                    rw [if_neg h1, if_neg h2]
                  have hops := formed_ops HF.out
                  have d0 : wr.cell? ⟨wo.heap.size, 0, none⟩ = some (.int .i64 x.op) := (hbq.cell (p := ⟨wo.heap.size, 0, none⟩) hB5.lt).trans c0
                  have HGA6 := hide (HGA5.out.below hbq (by omega))
                  have HOP6 := hide (HOP5.out.below hbq HOP5.out.lt)
                  have HK6 := hide (HK5.out.trans (KeptBut.of_below hbq))
                  have hb06 := hb05.trans (hbq.mono hw5)
                  have s0' : wr.cell? ⟨ga, k * 2, none⟩ = some (.int .i64 sp0) := (hbq.cell (p := ⟨ga, k * 2, none⟩) (by show ga < _; omega)).trans s0
                  have s1' : wr.cell? ⟨ga, k * 2 + 1, none⟩ = some (.int .i64 sp1) := (hbq.cell (p := ⟨ga, k * 2 + 1, none⟩) (by show ga < _; omega)).trans s1
                  have HST2 := hide hst
                  have hz6 : ga < wr.heap.size := by omega
                  clear hown hst s0 s1 c0 c1 c2' c3 fa0 fa1 HBQ hbq
                  have hcase : x.op = 3 ∨ x.op = 4 ∨ x.op = 5 ∨ x.op = 6 ∨ x.op = 7 ∨ x.op = 8 ∨ x.op = 9 ∨ x.op = 10 ∨ x.op = 11 ∨ x.op = 12 := by omega
                  rcases hcase with hop | hop | hop | hop | hop | hop | hop | hop | hop | hop
                  · have hc0 : Hid (wr.cell? ⟨go, 3, none⟩ = some (.func (.func 44) #[] #[])) := HOP6.out.cell 3
                    obtain ⟨ka, kb, hkids⟩ := kids2 (by rw [hops, hop]; rfl : (x.kids.length : Int) = 2)
                    have hk0 : kidAt x 0 = ka := by unfold kidAt; rw [hkids]; rfl
                    have hk1 : kidAt x 1 = kb := by unfold kidAt; rw [hkids]; rfl
                    rw [hop, hk0, hk1] at HST2
                    have HKL : Hid (x.kids.length = 2) := by show _ = _; rw [hkids]; rfl
                    have hrs2 : RSp wr wr.heap.size A3 x.kids.length [spanAt all ka, spanAt all kb] := by
                      have hh := hrs
                      rw [show x.kids.map (spanAt all) = [spanAt all ka, spanAt all kb] from by rw [hkids]; rfl] at hh
                      exact hh
                    have HC : Hid (Calls Tryz.prog 44 #[.slice A3 x.kids.length c3v] wr fun e w' => e = .returned (spanV (nodeB 3 (spanAt all ka) (spanAt all kb) (spanAt all (kidAt x 2)))) ∧ Below wr.heap.size wr w') := hide (add_any A3 _ c3v (spanAt all ka) (spanAt all kb) wr hrs2 (span_in HIN.out ka) (span_in HIN.out kb))
                    rw [hop] at d0
                    generalize nodeB 3 (spanAt all ka) (spanAt all kb) (spanAt all (kidAt x 2)) = sr at HST2 HC
                    clear hrs hrs2 hkids hk0 hk1
                    have hc0' := hc0.out
                    clear HIN
                    go_wp2_with fail
                    refine HC.out.mono ?_
                    rintro en w7 ⟨rfl, hb7⟩
                    clear HC hc0 hc0' d0
                    have HGA7 := hide (HGA6.out.below hb7 hz6)
                    have HK7 := hide (HK6.out.trans (KeptBut.of_below hb7))
                    have hb07 := hb06.trans (hb7.mono hb06.size)
                    have t0 : w7.cell? ⟨ga, k * 2, none⟩ = some (.int .i64 sp0) := (hb7.cell (p := ⟨ga, k * 2, none⟩) hz6).trans s0'
                    have t1 : w7.cell? ⟨ga, k * 2 + 1, none⟩ = some (.int .i64 sp1) := (hb7.cell (p := ⟨ga, k * 2 + 1, none⟩) hz6).trans s1'
                    have fa0 := HGA7.out.frozen (k * 2)
                    have fa1 := HGA7.out.frozen (k * 2 + 1)
                    have r6 := HGA7.out.setSpan k sr
                    rw [← HAL.out, padS_set (by rw [HAL.out]; exact hlt), HAL.out] at r6
                    have R6 := hide r6
                    have K6 := hide (HK7.out.span (k * 2) (k * 2 + 1) (.int .i64 sr.1) (.int .i64 sr.2))
                    have hb8 : Below w.heap.size w ((w7.setCell ⟨ga, k * 2, none⟩ (.int .i64 sr.1)).setCell ⟨ga, k * 2 + 1, none⟩ (.int .i64 sr.2)) := (hb07.setCell (p := ⟨ga, k * 2, none⟩) hwa _).setCell (p := ⟨ga, k * 2 + 1, none⟩) hwa _
                    clear r6 s0' s1' HGA6 HOP6 HK6 hb06 hb7
                    go_upto_region 24 with (fail)
                    generalize (w7.setCell ⟨ga, k * 2, none⟩ (.int .i64 sr.1)).setCell ⟨ga, k * 2 + 1, none⟩ (.int .i64 sr.2) = w8 at R6 K6 hb8 ⊢
                    obtain ⟨v0, v1⟩ := R6.out.spanAt_ (i := k) (by rw [padS_len (by rw [List.length_append, HAL.out]; exact hlt)]; exact hlt)
                    rw [padS_get (by rw [List.length_append, HAL.out]; exact Nat.lt_succ_self _), ← HAL.out, span_last, HAL.out] at v0 v1
                    clear t0 t1 fa0 fa1 HGA7 HK7
                    cases hy1 : beyondL sr.1
                    · cases hy2 : beyondL sr.2
                      · have HGN := hide (HST.out sr (by rw [HST2.out, hy1, hy2]; rfl))
                        have HY1 := hide hy1
                        have HY2 := hide hy2
                        clear hy1 hy2
                        go_wp2_with fail
                        refine (beyond_is _ _ _ HY1.out).mono ?_
                        rintro en w9 ⟨rfl, rfl⟩
                        go_wp2_with fail
                        refine (beyond_is _ _ _ HY2.out).mono ?_
                        rintro en w9 ⟨rfl, rfl⟩
                        go_wp2
                        go_roundw
                        case rel => exact ⟨k + 1, all ++ [sr], by omega, by go_num, HGN.out, R6.out, K6.out⟩
                        case measure => simp [intOf]; omega
                      · have HRS := hide (HBE.out 9 (HER.out 9 (by rw [HST2.out, hy1, hy2]; rfl)))
                        have HY1 := hide hy1
                        have HY2 := hide hy2
                        clear hy1 hy2
                        go_wp2_with fail
                        refine (beyond_is _ _ _ HY1.out).mono ?_
                        rintro en w9 ⟨rfl, rfl⟩
                        go_wp2_with fail
                        refine (beyond_is _ _ _ HY2.out).mono ?_
                        rintro en w9 ⟨rfl, rfl⟩
                        go_wp2
                        go_ret3
                        rw [← HRS.out]
                        exact ⟨rfl, hb8⟩
                    · have HRS := hide (HBE.out 9 (HER.out 9 (by rw [HST2.out, hy1]; rfl)))
                      have HY1 := hide hy1
                      clear hy1
                      go_wp2_with fail
                      refine (beyond_is _ _ _ HY1.out).mono ?_
                      rintro en w9 ⟨rfl, rfl⟩
                      go_wp2
                      go_ret3
                      rw [← HRS.out]
                      exact ⟨rfl, hb8⟩
                  · have hc0 : Hid (wr.cell? ⟨go, 4, none⟩ = some (.func (.func 45) #[] #[])) := HOP6.out.cell 4
                    obtain ⟨ka, kb, hkids⟩ := kids2 (by rw [hops, hop]; rfl : (x.kids.length : Int) = 2)
                    have hk0 : kidAt x 0 = ka := by unfold kidAt; rw [hkids]; rfl
                    have hk1 : kidAt x 1 = kb := by unfold kidAt; rw [hkids]; rfl
                    rw [hop, hk0, hk1] at HST2
                    have HKL : Hid (x.kids.length = 2) := by show _ = _; rw [hkids]; rfl
                    have hrs2 : RSp wr wr.heap.size A3 x.kids.length [spanAt all ka, spanAt all kb] := by
                      have hh := hrs
                      rw [show x.kids.map (spanAt all) = [spanAt all ka, spanAt all kb] from by rw [hkids]; rfl] at hh
                      exact hh
                    have HC : Hid (Calls Tryz.prog 45 #[.slice A3 x.kids.length c3v] wr fun e w' => e = .returned (spanV (nodeB 4 (spanAt all ka) (spanAt all kb) (spanAt all (kidAt x 2)))) ∧ Below wr.heap.size wr w') := hide (sub_any A3 _ c3v (spanAt all ka) (spanAt all kb) wr hrs2 (span_in HIN.out ka) (span_in HIN.out kb))
                    rw [hop] at d0
                    generalize nodeB 4 (spanAt all ka) (spanAt all kb) (spanAt all (kidAt x 2)) = sr at HST2 HC
                    clear hrs hrs2 hkids hk0 hk1
                    have hc0' := hc0.out
                    clear HIN
                    go_wp2_with fail
                    refine HC.out.mono ?_
                    rintro en w7 ⟨rfl, hb7⟩
                    clear HC hc0 hc0' d0
                    have HGA7 := hide (HGA6.out.below hb7 hz6)
                    have HK7 := hide (HK6.out.trans (KeptBut.of_below hb7))
                    have hb07 := hb06.trans (hb7.mono hb06.size)
                    have t0 : w7.cell? ⟨ga, k * 2, none⟩ = some (.int .i64 sp0) := (hb7.cell (p := ⟨ga, k * 2, none⟩) hz6).trans s0'
                    have t1 : w7.cell? ⟨ga, k * 2 + 1, none⟩ = some (.int .i64 sp1) := (hb7.cell (p := ⟨ga, k * 2 + 1, none⟩) hz6).trans s1'
                    have fa0 := HGA7.out.frozen (k * 2)
                    have fa1 := HGA7.out.frozen (k * 2 + 1)
                    have r6 := HGA7.out.setSpan k sr
                    rw [← HAL.out, padS_set (by rw [HAL.out]; exact hlt), HAL.out] at r6
                    have R6 := hide r6
                    have K6 := hide (HK7.out.span (k * 2) (k * 2 + 1) (.int .i64 sr.1) (.int .i64 sr.2))
                    have hb8 : Below w.heap.size w ((w7.setCell ⟨ga, k * 2, none⟩ (.int .i64 sr.1)).setCell ⟨ga, k * 2 + 1, none⟩ (.int .i64 sr.2)) := (hb07.setCell (p := ⟨ga, k * 2, none⟩) hwa _).setCell (p := ⟨ga, k * 2 + 1, none⟩) hwa _
                    clear r6 s0' s1' HGA6 HOP6 HK6 hb06 hb7
                    go_upto_region 24 with (fail)
                    generalize (w7.setCell ⟨ga, k * 2, none⟩ (.int .i64 sr.1)).setCell ⟨ga, k * 2 + 1, none⟩ (.int .i64 sr.2) = w8 at R6 K6 hb8 ⊢
                    obtain ⟨v0, v1⟩ := R6.out.spanAt_ (i := k) (by rw [padS_len (by rw [List.length_append, HAL.out]; exact hlt)]; exact hlt)
                    rw [padS_get (by rw [List.length_append, HAL.out]; exact Nat.lt_succ_self _), ← HAL.out, span_last, HAL.out] at v0 v1
                    clear t0 t1 fa0 fa1 HGA7 HK7
                    cases hy1 : beyondL sr.1
                    · cases hy2 : beyondL sr.2
                      · have HGN := hide (HST.out sr (by rw [HST2.out, hy1, hy2]; rfl))
                        have HY1 := hide hy1
                        have HY2 := hide hy2
                        clear hy1 hy2
                        go_wp2_with fail
                        refine (beyond_is _ _ _ HY1.out).mono ?_
                        rintro en w9 ⟨rfl, rfl⟩
                        go_wp2_with fail
                        refine (beyond_is _ _ _ HY2.out).mono ?_
                        rintro en w9 ⟨rfl, rfl⟩
                        go_wp2
                        go_roundw
                        case rel => exact ⟨k + 1, all ++ [sr], by omega, by go_num, HGN.out, R6.out, K6.out⟩
                        case measure => simp [intOf]; omega
                      · have HRS := hide (HBE.out 9 (HER.out 9 (by rw [HST2.out, hy1, hy2]; rfl)))
                        have HY1 := hide hy1
                        have HY2 := hide hy2
                        clear hy1 hy2
                        go_wp2_with fail
                        refine (beyond_is _ _ _ HY1.out).mono ?_
                        rintro en w9 ⟨rfl, rfl⟩
                        go_wp2_with fail
                        refine (beyond_is _ _ _ HY2.out).mono ?_
                        rintro en w9 ⟨rfl, rfl⟩
                        go_wp2
                        go_ret3
                        rw [← HRS.out]
                        exact ⟨rfl, hb8⟩
                    · have HRS := hide (HBE.out 9 (HER.out 9 (by rw [HST2.out, hy1]; rfl)))
                      have HY1 := hide hy1
                      clear hy1
                      go_wp2_with fail
                      refine (beyond_is _ _ _ HY1.out).mono ?_
                      rintro en w9 ⟨rfl, rfl⟩
                      go_wp2
                      go_ret3
                      rw [← HRS.out]
                      exact ⟨rfl, hb8⟩
                  · have hc0 : Hid (wr.cell? ⟨go, 5, none⟩ = some (.func (.func 46) #[] #[])) := HOP6.out.cell 5
                    obtain ⟨ka, kb, hkids⟩ := kids2 (by rw [hops, hop]; rfl : (x.kids.length : Int) = 2)
                    have hk0 : kidAt x 0 = ka := by unfold kidAt; rw [hkids]; rfl
                    have hk1 : kidAt x 1 = kb := by unfold kidAt; rw [hkids]; rfl
                    rw [hop, hk0, hk1] at HST2
                    have HKL : Hid (x.kids.length = 2) := by show _ = _; rw [hkids]; rfl
                    have hrs2 : RSp wr wr.heap.size A3 x.kids.length [spanAt all ka, spanAt all kb] := by
                      have hh := hrs
                      rw [show x.kids.map (spanAt all) = [spanAt all ka, spanAt all kb] from by rw [hkids]; rfl] at hh
                      exact hh
                    have HC : Hid (Calls Tryz.prog 46 #[.slice A3 x.kids.length c3v] wr fun e w' => e = .returned (spanV (nodeB 5 (spanAt all ka) (spanAt all kb) (spanAt all (kidAt x 2)))) ∧ Below wr.heap.size wr w') := hide (mul_any A3 _ c3v (spanAt all ka) (spanAt all kb) wr hrs2 (span_in HIN.out ka) (span_in HIN.out kb))
                    rw [hop] at d0
                    generalize nodeB 5 (spanAt all ka) (spanAt all kb) (spanAt all (kidAt x 2)) = sr at HST2 HC
                    clear hrs hrs2 hkids hk0 hk1
                    have hc0' := hc0.out
                    clear HIN
                    go_wp2_with fail
                    refine HC.out.mono ?_
                    rintro en w7 ⟨rfl, hb7⟩
                    clear HC hc0 hc0' d0
                    have HGA7 := hide (HGA6.out.below hb7 hz6)
                    have HK7 := hide (HK6.out.trans (KeptBut.of_below hb7))
                    have hb07 := hb06.trans (hb7.mono hb06.size)
                    have t0 : w7.cell? ⟨ga, k * 2, none⟩ = some (.int .i64 sp0) := (hb7.cell (p := ⟨ga, k * 2, none⟩) hz6).trans s0'
                    have t1 : w7.cell? ⟨ga, k * 2 + 1, none⟩ = some (.int .i64 sp1) := (hb7.cell (p := ⟨ga, k * 2 + 1, none⟩) hz6).trans s1'
                    have fa0 := HGA7.out.frozen (k * 2)
                    have fa1 := HGA7.out.frozen (k * 2 + 1)
                    have r6 := HGA7.out.setSpan k sr
                    rw [← HAL.out, padS_set (by rw [HAL.out]; exact hlt), HAL.out] at r6
                    have R6 := hide r6
                    have K6 := hide (HK7.out.span (k * 2) (k * 2 + 1) (.int .i64 sr.1) (.int .i64 sr.2))
                    have hb8 : Below w.heap.size w ((w7.setCell ⟨ga, k * 2, none⟩ (.int .i64 sr.1)).setCell ⟨ga, k * 2 + 1, none⟩ (.int .i64 sr.2)) := (hb07.setCell (p := ⟨ga, k * 2, none⟩) hwa _).setCell (p := ⟨ga, k * 2 + 1, none⟩) hwa _
                    clear r6 s0' s1' HGA6 HOP6 HK6 hb06 hb7
                    go_upto_region 24 with (fail)
                    generalize (w7.setCell ⟨ga, k * 2, none⟩ (.int .i64 sr.1)).setCell ⟨ga, k * 2 + 1, none⟩ (.int .i64 sr.2) = w8 at R6 K6 hb8 ⊢
                    obtain ⟨v0, v1⟩ := R6.out.spanAt_ (i := k) (by rw [padS_len (by rw [List.length_append, HAL.out]; exact hlt)]; exact hlt)
                    rw [padS_get (by rw [List.length_append, HAL.out]; exact Nat.lt_succ_self _), ← HAL.out, span_last, HAL.out] at v0 v1
                    clear t0 t1 fa0 fa1 HGA7 HK7
                    cases hy1 : beyondL sr.1
                    · cases hy2 : beyondL sr.2
                      · have HGN := hide (HST.out sr (by rw [HST2.out, hy1, hy2]; rfl))
                        have HY1 := hide hy1
                        have HY2 := hide hy2
                        clear hy1 hy2
                        go_wp2_with fail
                        refine (beyond_is _ _ _ HY1.out).mono ?_
                        rintro en w9 ⟨rfl, rfl⟩
                        go_wp2_with fail
                        refine (beyond_is _ _ _ HY2.out).mono ?_
                        rintro en w9 ⟨rfl, rfl⟩
                        go_wp2
                        go_roundw
                        case rel => exact ⟨k + 1, all ++ [sr], by omega, by go_num, HGN.out, R6.out, K6.out⟩
                        case measure => simp [intOf]; omega
                      · have HRS := hide (HBE.out 9 (HER.out 9 (by rw [HST2.out, hy1, hy2]; rfl)))
                        have HY1 := hide hy1
                        have HY2 := hide hy2
                        clear hy1 hy2
                        go_wp2_with fail
                        refine (beyond_is _ _ _ HY1.out).mono ?_
                        rintro en w9 ⟨rfl, rfl⟩
                        go_wp2_with fail
                        refine (beyond_is _ _ _ HY2.out).mono ?_
                        rintro en w9 ⟨rfl, rfl⟩
                        go_wp2
                        go_ret3
                        rw [← HRS.out]
                        exact ⟨rfl, hb8⟩
                    · have HRS := hide (HBE.out 9 (HER.out 9 (by rw [HST2.out, hy1]; rfl)))
                      have HY1 := hide hy1
                      clear hy1
                      go_wp2_with fail
                      refine (beyond_is _ _ _ HY1.out).mono ?_
                      rintro en w9 ⟨rfl, rfl⟩
                      go_wp2
                      go_ret3
                      rw [← HRS.out]
                      exact ⟨rfl, hb8⟩
                  · have hc0 : Hid (wr.cell? ⟨go, 6, none⟩ = some (.func (.func 47) #[] #[])) := HOP6.out.cell 6
                    obtain ⟨ka, kb, hkids⟩ := kids2 (by rw [hops, hop]; rfl : (x.kids.length : Int) = 2)
                    have hk0 : kidAt x 0 = ka := by unfold kidAt; rw [hkids]; rfl
                    have hk1 : kidAt x 1 = kb := by unfold kidAt; rw [hkids]; rfl
                    rw [hop, hk0, hk1] at HST2
                    have HKL : Hid (x.kids.length = 2) := by show _ = _; rw [hkids]; rfl
                    have hrs2 : RSp wr wr.heap.size A3 x.kids.length [spanAt all ka, spanAt all kb] := by
                      have hh := hrs
                      rw [show x.kids.map (spanAt all) = [spanAt all ka, spanAt all kb] from by rw [hkids]; rfl] at hh
                      exact hh
                    have HC : Hid (Calls Tryz.prog 47 #[.slice A3 x.kids.length c3v] wr fun e w' => e = .returned (spanV (nodeB 6 (spanAt all ka) (spanAt all kb) (spanAt all (kidAt x 2)))) ∧ Below wr.heap.size wr w') := hide (div_any A3 _ c3v (spanAt all ka) (spanAt all kb) wr hrs2 (span_in HIN.out ka))
                    rw [hop] at d0
                    generalize nodeB 6 (spanAt all ka) (spanAt all kb) (spanAt all (kidAt x 2)) = sr at HST2 HC
                    clear hrs hrs2 hkids hk0 hk1
                    have hc0' := hc0.out
                    clear HIN
                    go_wp2_with fail
                    refine HC.out.mono ?_
                    rintro en w7 ⟨rfl, hb7⟩
                    clear HC hc0 hc0' d0
                    have HGA7 := hide (HGA6.out.below hb7 hz6)
                    have HK7 := hide (HK6.out.trans (KeptBut.of_below hb7))
                    have hb07 := hb06.trans (hb7.mono hb06.size)
                    have t0 : w7.cell? ⟨ga, k * 2, none⟩ = some (.int .i64 sp0) := (hb7.cell (p := ⟨ga, k * 2, none⟩) hz6).trans s0'
                    have t1 : w7.cell? ⟨ga, k * 2 + 1, none⟩ = some (.int .i64 sp1) := (hb7.cell (p := ⟨ga, k * 2 + 1, none⟩) hz6).trans s1'
                    have fa0 := HGA7.out.frozen (k * 2)
                    have fa1 := HGA7.out.frozen (k * 2 + 1)
                    have r6 := HGA7.out.setSpan k sr
                    rw [← HAL.out, padS_set (by rw [HAL.out]; exact hlt), HAL.out] at r6
                    have R6 := hide r6
                    have K6 := hide (HK7.out.span (k * 2) (k * 2 + 1) (.int .i64 sr.1) (.int .i64 sr.2))
                    have hb8 : Below w.heap.size w ((w7.setCell ⟨ga, k * 2, none⟩ (.int .i64 sr.1)).setCell ⟨ga, k * 2 + 1, none⟩ (.int .i64 sr.2)) := (hb07.setCell (p := ⟨ga, k * 2, none⟩) hwa _).setCell (p := ⟨ga, k * 2 + 1, none⟩) hwa _
                    clear r6 s0' s1' HGA6 HOP6 HK6 hb06 hb7
                    go_upto_region 24 with (fail)
                    generalize (w7.setCell ⟨ga, k * 2, none⟩ (.int .i64 sr.1)).setCell ⟨ga, k * 2 + 1, none⟩ (.int .i64 sr.2) = w8 at R6 K6 hb8 ⊢
                    obtain ⟨v0, v1⟩ := R6.out.spanAt_ (i := k) (by rw [padS_len (by rw [List.length_append, HAL.out]; exact hlt)]; exact hlt)
                    rw [padS_get (by rw [List.length_append, HAL.out]; exact Nat.lt_succ_self _), ← HAL.out, span_last, HAL.out] at v0 v1
                    clear t0 t1 fa0 fa1 HGA7 HK7
                    cases hy1 : beyondL sr.1
                    · cases hy2 : beyondL sr.2
                      · have HGN := hide (HST.out sr (by rw [HST2.out, hy1, hy2]; rfl))
                        have HY1 := hide hy1
                        have HY2 := hide hy2
                        clear hy1 hy2
                        go_wp2_with fail
                        refine (beyond_is _ _ _ HY1.out).mono ?_
                        rintro en w9 ⟨rfl, rfl⟩
                        go_wp2_with fail
                        refine (beyond_is _ _ _ HY2.out).mono ?_
                        rintro en w9 ⟨rfl, rfl⟩
                        go_wp2
                        go_roundw
                        case rel => exact ⟨k + 1, all ++ [sr], by omega, by go_num, HGN.out, R6.out, K6.out⟩
                        case measure => simp [intOf]; omega
                      · have HRS := hide (HBE.out 9 (HER.out 9 (by rw [HST2.out, hy1, hy2]; rfl)))
                        have HY1 := hide hy1
                        have HY2 := hide hy2
                        clear hy1 hy2
                        go_wp2_with fail
                        refine (beyond_is _ _ _ HY1.out).mono ?_
                        rintro en w9 ⟨rfl, rfl⟩
                        go_wp2_with fail
                        refine (beyond_is _ _ _ HY2.out).mono ?_
                        rintro en w9 ⟨rfl, rfl⟩
                        go_wp2
                        go_ret3
                        rw [← HRS.out]
                        exact ⟨rfl, hb8⟩
                    · have HRS := hide (HBE.out 9 (HER.out 9 (by rw [HST2.out, hy1]; rfl)))
                      have HY1 := hide hy1
                      clear hy1
                      go_wp2_with fail
                      refine (beyond_is _ _ _ HY1.out).mono ?_
                      rintro en w9 ⟨rfl, rfl⟩
                      go_wp2
                      go_ret3
                      rw [← HRS.out]
                      exact ⟨rfl, hb8⟩
                  · have hc0 : Hid (wr.cell? ⟨go, 7, none⟩ = some (.func (.func 48) #[] #[])) := HOP6.out.cell 7
                    obtain ⟨ka, kb, hkids⟩ := kids2 (by rw [hops, hop]; rfl : (x.kids.length : Int) = 2)
                    have hk0 : kidAt x 0 = ka := by unfold kidAt; rw [hkids]; rfl
                    have hk1 : kidAt x 1 = kb := by unfold kidAt; rw [hkids]; rfl
                    rw [hop, hk0, hk1] at HST2
                    have HKL : Hid (x.kids.length = 2) := by show _ = _; rw [hkids]; rfl
                    have hrs2 : RSp wr wr.heap.size A3 x.kids.length [spanAt all ka, spanAt all kb] := by
                      have hh := hrs
                      rw [show x.kids.map (spanAt all) = [spanAt all ka, spanAt all kb] from by rw [hkids]; rfl] at hh
                      exact hh
                    have HC : Hid (Calls Tryz.prog 48 #[.slice A3 x.kids.length c3v] wr fun e w' => e = .returned (spanV (nodeB 7 (spanAt all ka) (spanAt all kb) (spanAt all (kidAt x 2)))) ∧ Below wr.heap.size wr w') := hide (min_any A3 _ c3v (spanAt all ka) (spanAt all kb) wr hrs2 (span_in HIN.out ka) (span_in HIN.out kb))
                    rw [hop] at d0
                    generalize nodeB 7 (spanAt all ka) (spanAt all kb) (spanAt all (kidAt x 2)) = sr at HST2 HC
                    clear hrs hrs2 hkids hk0 hk1
                    have hc0' := hc0.out
                    clear HIN
                    go_wp2_with fail
                    refine HC.out.mono ?_
                    rintro en w7 ⟨rfl, hb7⟩
                    clear HC hc0 hc0' d0
                    have HGA7 := hide (HGA6.out.below hb7 hz6)
                    have HK7 := hide (HK6.out.trans (KeptBut.of_below hb7))
                    have hb07 := hb06.trans (hb7.mono hb06.size)
                    have t0 : w7.cell? ⟨ga, k * 2, none⟩ = some (.int .i64 sp0) := (hb7.cell (p := ⟨ga, k * 2, none⟩) hz6).trans s0'
                    have t1 : w7.cell? ⟨ga, k * 2 + 1, none⟩ = some (.int .i64 sp1) := (hb7.cell (p := ⟨ga, k * 2 + 1, none⟩) hz6).trans s1'
                    have fa0 := HGA7.out.frozen (k * 2)
                    have fa1 := HGA7.out.frozen (k * 2 + 1)
                    have r6 := HGA7.out.setSpan k sr
                    rw [← HAL.out, padS_set (by rw [HAL.out]; exact hlt), HAL.out] at r6
                    have R6 := hide r6
                    have K6 := hide (HK7.out.span (k * 2) (k * 2 + 1) (.int .i64 sr.1) (.int .i64 sr.2))
                    have hb8 : Below w.heap.size w ((w7.setCell ⟨ga, k * 2, none⟩ (.int .i64 sr.1)).setCell ⟨ga, k * 2 + 1, none⟩ (.int .i64 sr.2)) := (hb07.setCell (p := ⟨ga, k * 2, none⟩) hwa _).setCell (p := ⟨ga, k * 2 + 1, none⟩) hwa _
                    clear r6 s0' s1' HGA6 HOP6 HK6 hb06 hb7
                    go_upto_region 24 with (fail)
                    generalize (w7.setCell ⟨ga, k * 2, none⟩ (.int .i64 sr.1)).setCell ⟨ga, k * 2 + 1, none⟩ (.int .i64 sr.2) = w8 at R6 K6 hb8 ⊢
                    obtain ⟨v0, v1⟩ := R6.out.spanAt_ (i := k) (by rw [padS_len (by rw [List.length_append, HAL.out]; exact hlt)]; exact hlt)
                    rw [padS_get (by rw [List.length_append, HAL.out]; exact Nat.lt_succ_self _), ← HAL.out, span_last, HAL.out] at v0 v1
                    clear t0 t1 fa0 fa1 HGA7 HK7
                    cases hy1 : beyondL sr.1
                    · cases hy2 : beyondL sr.2
                      · have HGN := hide (HST.out sr (by rw [HST2.out, hy1, hy2]; rfl))
                        have HY1 := hide hy1
                        have HY2 := hide hy2
                        clear hy1 hy2
                        go_wp2_with fail
                        refine (beyond_is _ _ _ HY1.out).mono ?_
                        rintro en w9 ⟨rfl, rfl⟩
                        go_wp2_with fail
                        refine (beyond_is _ _ _ HY2.out).mono ?_
                        rintro en w9 ⟨rfl, rfl⟩
                        go_wp2
                        go_roundw
                        case rel => exact ⟨k + 1, all ++ [sr], by omega, by go_num, HGN.out, R6.out, K6.out⟩
                        case measure => simp [intOf]; omega
                      · have HRS := hide (HBE.out 9 (HER.out 9 (by rw [HST2.out, hy1, hy2]; rfl)))
                        have HY1 := hide hy1
                        have HY2 := hide hy2
                        clear hy1 hy2
                        go_wp2_with fail
                        refine (beyond_is _ _ _ HY1.out).mono ?_
                        rintro en w9 ⟨rfl, rfl⟩
                        go_wp2_with fail
                        refine (beyond_is _ _ _ HY2.out).mono ?_
                        rintro en w9 ⟨rfl, rfl⟩
                        go_wp2
                        go_ret3
                        rw [← HRS.out]
                        exact ⟨rfl, hb8⟩
                    · have HRS := hide (HBE.out 9 (HER.out 9 (by rw [HST2.out, hy1]; rfl)))
                      have HY1 := hide hy1
                      clear hy1
                      go_wp2_with fail
                      refine (beyond_is _ _ _ HY1.out).mono ?_
                      rintro en w9 ⟨rfl, rfl⟩
                      go_wp2
                      go_ret3
                      rw [← HRS.out]
                      exact ⟨rfl, hb8⟩
                  · have hc0 : Hid (wr.cell? ⟨go, 8, none⟩ = some (.func (.func 49) #[] #[])) := HOP6.out.cell 8
                    obtain ⟨ka, kb, hkids⟩ := kids2 (by rw [hops, hop]; rfl : (x.kids.length : Int) = 2)
                    have hk0 : kidAt x 0 = ka := by unfold kidAt; rw [hkids]; rfl
                    have hk1 : kidAt x 1 = kb := by unfold kidAt; rw [hkids]; rfl
                    rw [hop, hk0, hk1] at HST2
                    have HKL : Hid (x.kids.length = 2) := by show _ = _; rw [hkids]; rfl
                    have hrs2 : RSp wr wr.heap.size A3 x.kids.length [spanAt all ka, spanAt all kb] := by
                      have hh := hrs
                      rw [show x.kids.map (spanAt all) = [spanAt all ka, spanAt all kb] from by rw [hkids]; rfl] at hh
                      exact hh
                    have HC : Hid (Calls Tryz.prog 49 #[.slice A3 x.kids.length c3v] wr fun e w' => e = .returned (spanV (nodeB 8 (spanAt all ka) (spanAt all kb) (spanAt all (kidAt x 2)))) ∧ Below wr.heap.size wr w') := hide (max_any A3 _ c3v (spanAt all ka) (spanAt all kb) wr hrs2 (span_in HIN.out ka) (span_in HIN.out kb))
                    rw [hop] at d0
                    generalize nodeB 8 (spanAt all ka) (spanAt all kb) (spanAt all (kidAt x 2)) = sr at HST2 HC
                    clear hrs hrs2 hkids hk0 hk1
                    have hc0' := hc0.out
                    clear HIN
                    go_wp2_with fail
                    refine HC.out.mono ?_
                    rintro en w7 ⟨rfl, hb7⟩
                    clear HC hc0 hc0' d0
                    have HGA7 := hide (HGA6.out.below hb7 hz6)
                    have HK7 := hide (HK6.out.trans (KeptBut.of_below hb7))
                    have hb07 := hb06.trans (hb7.mono hb06.size)
                    have t0 : w7.cell? ⟨ga, k * 2, none⟩ = some (.int .i64 sp0) := (hb7.cell (p := ⟨ga, k * 2, none⟩) hz6).trans s0'
                    have t1 : w7.cell? ⟨ga, k * 2 + 1, none⟩ = some (.int .i64 sp1) := (hb7.cell (p := ⟨ga, k * 2 + 1, none⟩) hz6).trans s1'
                    have fa0 := HGA7.out.frozen (k * 2)
                    have fa1 := HGA7.out.frozen (k * 2 + 1)
                    have r6 := HGA7.out.setSpan k sr
                    rw [← HAL.out, padS_set (by rw [HAL.out]; exact hlt), HAL.out] at r6
                    have R6 := hide r6
                    have K6 := hide (HK7.out.span (k * 2) (k * 2 + 1) (.int .i64 sr.1) (.int .i64 sr.2))
                    have hb8 : Below w.heap.size w ((w7.setCell ⟨ga, k * 2, none⟩ (.int .i64 sr.1)).setCell ⟨ga, k * 2 + 1, none⟩ (.int .i64 sr.2)) := (hb07.setCell (p := ⟨ga, k * 2, none⟩) hwa _).setCell (p := ⟨ga, k * 2 + 1, none⟩) hwa _
                    clear r6 s0' s1' HGA6 HOP6 HK6 hb06 hb7
                    go_upto_region 24 with (fail)
                    generalize (w7.setCell ⟨ga, k * 2, none⟩ (.int .i64 sr.1)).setCell ⟨ga, k * 2 + 1, none⟩ (.int .i64 sr.2) = w8 at R6 K6 hb8 ⊢
                    obtain ⟨v0, v1⟩ := R6.out.spanAt_ (i := k) (by rw [padS_len (by rw [List.length_append, HAL.out]; exact hlt)]; exact hlt)
                    rw [padS_get (by rw [List.length_append, HAL.out]; exact Nat.lt_succ_self _), ← HAL.out, span_last, HAL.out] at v0 v1
                    clear t0 t1 fa0 fa1 HGA7 HK7
                    cases hy1 : beyondL sr.1
                    · cases hy2 : beyondL sr.2
                      · have HGN := hide (HST.out sr (by rw [HST2.out, hy1, hy2]; rfl))
                        have HY1 := hide hy1
                        have HY2 := hide hy2
                        clear hy1 hy2
                        go_wp2_with fail
                        refine (beyond_is _ _ _ HY1.out).mono ?_
                        rintro en w9 ⟨rfl, rfl⟩
                        go_wp2_with fail
                        refine (beyond_is _ _ _ HY2.out).mono ?_
                        rintro en w9 ⟨rfl, rfl⟩
                        go_wp2
                        go_roundw
                        case rel => exact ⟨k + 1, all ++ [sr], by omega, by go_num, HGN.out, R6.out, K6.out⟩
                        case measure => simp [intOf]; omega
                      · have HRS := hide (HBE.out 9 (HER.out 9 (by rw [HST2.out, hy1, hy2]; rfl)))
                        have HY1 := hide hy1
                        have HY2 := hide hy2
                        clear hy1 hy2
                        go_wp2_with fail
                        refine (beyond_is _ _ _ HY1.out).mono ?_
                        rintro en w9 ⟨rfl, rfl⟩
                        go_wp2_with fail
                        refine (beyond_is _ _ _ HY2.out).mono ?_
                        rintro en w9 ⟨rfl, rfl⟩
                        go_wp2
                        go_ret3
                        rw [← HRS.out]
                        exact ⟨rfl, hb8⟩
                    · have HRS := hide (HBE.out 9 (HER.out 9 (by rw [HST2.out, hy1]; rfl)))
                      have HY1 := hide hy1
                      clear hy1
                      go_wp2_with fail
                      refine (beyond_is _ _ _ HY1.out).mono ?_
                      rintro en w9 ⟨rfl, rfl⟩
                      go_wp2
                      go_ret3
                      rw [← HRS.out]
                      exact ⟨rfl, hb8⟩
                  · have hc0 : Hid (wr.cell? ⟨go, 9, none⟩ = some (.func (.func 50) #[] #[])) := HOP6.out.cell 9
                    obtain ⟨ka, kb, kc0, hkids⟩ := kids3 (by rw [hops, hop]; rfl : (x.kids.length : Int) = 3)
                    have hk0 : kidAt x 0 = ka := by unfold kidAt; rw [hkids]; rfl
                    have hk1 : kidAt x 1 = kb := by unfold kidAt; rw [hkids]; rfl
                    have hk2 : kidAt x 2 = kc0 := by unfold kidAt; rw [hkids]; rfl
                    rw [hop, hk0, hk1, hk2] at HST2
                    have HKL : Hid (x.kids.length = 3) := by show _ = _; rw [hkids]; rfl
                    have hrs2 : RSp wr wr.heap.size A3 x.kids.length [spanAt all ka, spanAt all kb, spanAt all kc0] := by
                      have hh := hrs
                      rw [show x.kids.map (spanAt all) = [spanAt all ka, spanAt all kb, spanAt all kc0] from by rw [hkids]; rfl] at hh
                      exact hh
                    have HC : Hid (Calls Tryz.prog 50 #[.slice A3 x.kids.length c3v] wr fun e w' => e = .returned (spanV (nodeB 9 (spanAt all ka) (spanAt all kb) (spanAt all kc0))) ∧ Below wr.heap.size wr w') := hide (choose_any A3 _ c3v (spanAt all ka) (spanAt all kb) (spanAt all kc0) wr hrs2)
                    rw [hop] at d0
                    generalize nodeB 9 (spanAt all ka) (spanAt all kb) (spanAt all kc0) = sr at HST2 HC
                    clear hrs hrs2 hkids hk0 hk1 hk2
                    have hc0' := hc0.out
                    clear HIN
                    go_wp2_with fail
                    refine HC.out.mono ?_
                    rintro en w7 ⟨rfl, hb7⟩
                    clear HC hc0 hc0' d0
                    have HGA7 := hide (HGA6.out.below hb7 hz6)
                    have HK7 := hide (HK6.out.trans (KeptBut.of_below hb7))
                    have hb07 := hb06.trans (hb7.mono hb06.size)
                    have t0 : w7.cell? ⟨ga, k * 2, none⟩ = some (.int .i64 sp0) := (hb7.cell (p := ⟨ga, k * 2, none⟩) hz6).trans s0'
                    have t1 : w7.cell? ⟨ga, k * 2 + 1, none⟩ = some (.int .i64 sp1) := (hb7.cell (p := ⟨ga, k * 2 + 1, none⟩) hz6).trans s1'
                    have fa0 := HGA7.out.frozen (k * 2)
                    have fa1 := HGA7.out.frozen (k * 2 + 1)
                    have r6 := HGA7.out.setSpan k sr
                    rw [← HAL.out, padS_set (by rw [HAL.out]; exact hlt), HAL.out] at r6
                    have R6 := hide r6
                    have K6 := hide (HK7.out.span (k * 2) (k * 2 + 1) (.int .i64 sr.1) (.int .i64 sr.2))
                    have hb8 : Below w.heap.size w ((w7.setCell ⟨ga, k * 2, none⟩ (.int .i64 sr.1)).setCell ⟨ga, k * 2 + 1, none⟩ (.int .i64 sr.2)) := (hb07.setCell (p := ⟨ga, k * 2, none⟩) hwa _).setCell (p := ⟨ga, k * 2 + 1, none⟩) hwa _
                    clear r6 s0' s1' HGA6 HOP6 HK6 hb06 hb7
                    go_upto_region 24 with (fail)
                    generalize (w7.setCell ⟨ga, k * 2, none⟩ (.int .i64 sr.1)).setCell ⟨ga, k * 2 + 1, none⟩ (.int .i64 sr.2) = w8 at R6 K6 hb8 ⊢
                    obtain ⟨v0, v1⟩ := R6.out.spanAt_ (i := k) (by rw [padS_len (by rw [List.length_append, HAL.out]; exact hlt)]; exact hlt)
                    rw [padS_get (by rw [List.length_append, HAL.out]; exact Nat.lt_succ_self _), ← HAL.out, span_last, HAL.out] at v0 v1
                    clear t0 t1 fa0 fa1 HGA7 HK7
                    cases hy1 : beyondL sr.1
                    · cases hy2 : beyondL sr.2
                      · have HGN := hide (HST.out sr (by rw [HST2.out, hy1, hy2]; rfl))
                        have HY1 := hide hy1
                        have HY2 := hide hy2
                        clear hy1 hy2
                        go_wp2_with fail
                        refine (beyond_is _ _ _ HY1.out).mono ?_
                        rintro en w9 ⟨rfl, rfl⟩
                        go_wp2_with fail
                        refine (beyond_is _ _ _ HY2.out).mono ?_
                        rintro en w9 ⟨rfl, rfl⟩
                        go_wp2
                        go_roundw
                        case rel => exact ⟨k + 1, all ++ [sr], by omega, by go_num, HGN.out, R6.out, K6.out⟩
                        case measure => simp [intOf]; omega
                      · have HRS := hide (HBE.out 9 (HER.out 9 (by rw [HST2.out, hy1, hy2]; rfl)))
                        have HY1 := hide hy1
                        have HY2 := hide hy2
                        clear hy1 hy2
                        go_wp2_with fail
                        refine (beyond_is _ _ _ HY1.out).mono ?_
                        rintro en w9 ⟨rfl, rfl⟩
                        go_wp2_with fail
                        refine (beyond_is _ _ _ HY2.out).mono ?_
                        rintro en w9 ⟨rfl, rfl⟩
                        go_wp2
                        go_ret3
                        rw [← HRS.out]
                        exact ⟨rfl, hb8⟩
                    · have HRS := hide (HBE.out 9 (HER.out 9 (by rw [HST2.out, hy1]; rfl)))
                      have HY1 := hide hy1
                      clear hy1
                      go_wp2_with fail
                      refine (beyond_is _ _ _ HY1.out).mono ?_
                      rintro en w9 ⟨rfl, rfl⟩
                      go_wp2
                      go_ret3
                      rw [← HRS.out]
                      exact ⟨rfl, hb8⟩
                  · have hc0 : Hid (wr.cell? ⟨go, 10, none⟩ = some (.func (.func 51) #[] #[])) := HOP6.out.cell 10
                    obtain ⟨ka, kb, hkids⟩ := kids2 (by rw [hops, hop]; rfl : (x.kids.length : Int) = 2)
                    have hk0 : kidAt x 0 = ka := by unfold kidAt; rw [hkids]; rfl
                    have hk1 : kidAt x 1 = kb := by unfold kidAt; rw [hkids]; rfl
                    rw [hop, hk0, hk1] at HST2
                    have HKL : Hid (x.kids.length = 2) := by show _ = _; rw [hkids]; rfl
                    have hrs2 : RSp wr wr.heap.size A3 x.kids.length [spanAt all ka, spanAt all kb] := by
                      have hh := hrs
                      rw [show x.kids.map (spanAt all) = [spanAt all ka, spanAt all kb] from by rw [hkids]; rfl] at hh
                      exact hh
                    have HC : Hid (Calls Tryz.prog 51 #[.slice A3 x.kids.length c3v] wr fun e w' => e = .returned (spanV (nodeB 10 (spanAt all ka) (spanAt all kb) (spanAt all (kidAt x 2)))) ∧ Below wr.heap.size wr w') := hide (less_any A3 _ c3v (spanAt all ka) (spanAt all kb) wr hrs2 (span_in HIN.out ka) (span_in HIN.out kb))
                    rw [hop] at d0
                    generalize nodeB 10 (spanAt all ka) (spanAt all kb) (spanAt all (kidAt x 2)) = sr at HST2 HC
                    clear hrs hrs2 hkids hk0 hk1
                    have hc0' := hc0.out
                    clear HIN
                    go_wp2_with fail
                    refine HC.out.mono ?_
                    rintro en w7 ⟨rfl, hb7⟩
                    clear HC hc0 hc0' d0
                    have HGA7 := hide (HGA6.out.below hb7 hz6)
                    have HK7 := hide (HK6.out.trans (KeptBut.of_below hb7))
                    have hb07 := hb06.trans (hb7.mono hb06.size)
                    have t0 : w7.cell? ⟨ga, k * 2, none⟩ = some (.int .i64 sp0) := (hb7.cell (p := ⟨ga, k * 2, none⟩) hz6).trans s0'
                    have t1 : w7.cell? ⟨ga, k * 2 + 1, none⟩ = some (.int .i64 sp1) := (hb7.cell (p := ⟨ga, k * 2 + 1, none⟩) hz6).trans s1'
                    have fa0 := HGA7.out.frozen (k * 2)
                    have fa1 := HGA7.out.frozen (k * 2 + 1)
                    have r6 := HGA7.out.setSpan k sr
                    rw [← HAL.out, padS_set (by rw [HAL.out]; exact hlt), HAL.out] at r6
                    have R6 := hide r6
                    have K6 := hide (HK7.out.span (k * 2) (k * 2 + 1) (.int .i64 sr.1) (.int .i64 sr.2))
                    have hb8 : Below w.heap.size w ((w7.setCell ⟨ga, k * 2, none⟩ (.int .i64 sr.1)).setCell ⟨ga, k * 2 + 1, none⟩ (.int .i64 sr.2)) := (hb07.setCell (p := ⟨ga, k * 2, none⟩) hwa _).setCell (p := ⟨ga, k * 2 + 1, none⟩) hwa _
                    clear r6 s0' s1' HGA6 HOP6 HK6 hb06 hb7
                    go_upto_region 24 with (fail)
                    generalize (w7.setCell ⟨ga, k * 2, none⟩ (.int .i64 sr.1)).setCell ⟨ga, k * 2 + 1, none⟩ (.int .i64 sr.2) = w8 at R6 K6 hb8 ⊢
                    obtain ⟨v0, v1⟩ := R6.out.spanAt_ (i := k) (by rw [padS_len (by rw [List.length_append, HAL.out]; exact hlt)]; exact hlt)
                    rw [padS_get (by rw [List.length_append, HAL.out]; exact Nat.lt_succ_self _), ← HAL.out, span_last, HAL.out] at v0 v1
                    clear t0 t1 fa0 fa1 HGA7 HK7
                    cases hy1 : beyondL sr.1
                    · cases hy2 : beyondL sr.2
                      · have HGN := hide (HST.out sr (by rw [HST2.out, hy1, hy2]; rfl))
                        have HY1 := hide hy1
                        have HY2 := hide hy2
                        clear hy1 hy2
                        go_wp2_with fail
                        refine (beyond_is _ _ _ HY1.out).mono ?_
                        rintro en w9 ⟨rfl, rfl⟩
                        go_wp2_with fail
                        refine (beyond_is _ _ _ HY2.out).mono ?_
                        rintro en w9 ⟨rfl, rfl⟩
                        go_wp2
                        go_roundw
                        case rel => exact ⟨k + 1, all ++ [sr], by omega, by go_num, HGN.out, R6.out, K6.out⟩
                        case measure => simp [intOf]; omega
                      · have HRS := hide (HBE.out 9 (HER.out 9 (by rw [HST2.out, hy1, hy2]; rfl)))
                        have HY1 := hide hy1
                        have HY2 := hide hy2
                        clear hy1 hy2
                        go_wp2_with fail
                        refine (beyond_is _ _ _ HY1.out).mono ?_
                        rintro en w9 ⟨rfl, rfl⟩
                        go_wp2_with fail
                        refine (beyond_is _ _ _ HY2.out).mono ?_
                        rintro en w9 ⟨rfl, rfl⟩
                        go_wp2
                        go_ret3
                        rw [← HRS.out]
                        exact ⟨rfl, hb8⟩
                    · have HRS := hide (HBE.out 9 (HER.out 9 (by rw [HST2.out, hy1]; rfl)))
                      have HY1 := hide hy1
                      clear hy1
                      go_wp2_with fail
                      refine (beyond_is _ _ _ HY1.out).mono ?_
                      rintro en w9 ⟨rfl, rfl⟩
                      go_wp2
                      go_ret3
                      rw [← HRS.out]
                      exact ⟨rfl, hb8⟩
                  · have hc0 : Hid (wr.cell? ⟨go, 11, none⟩ = some (.func (.func 52) #[] #[])) := HOP6.out.cell 11
                    obtain ⟨ka, kb, hkids⟩ := kids2 (by rw [hops, hop]; rfl : (x.kids.length : Int) = 2)
                    have hk0 : kidAt x 0 = ka := by unfold kidAt; rw [hkids]; rfl
                    have hk1 : kidAt x 1 = kb := by unfold kidAt; rw [hkids]; rfl
                    rw [hop, hk0, hk1] at HST2
                    have HKL : Hid (x.kids.length = 2) := by show _ = _; rw [hkids]; rfl
                    have hrs2 : RSp wr wr.heap.size A3 x.kids.length [spanAt all ka, spanAt all kb] := by
                      have hh := hrs
                      rw [show x.kids.map (spanAt all) = [spanAt all ka, spanAt all kb] from by rw [hkids]; rfl] at hh
                      exact hh
                    have HC : Hid (Calls Tryz.prog 52 #[.slice A3 x.kids.length c3v] wr fun e w' => e = .returned (spanV (nodeB 11 (spanAt all ka) (spanAt all kb) (spanAt all (kidAt x 2)))) ∧ Below wr.heap.size wr w') := hide (equal_any A3 _ c3v (spanAt all ka) (spanAt all kb) wr hrs2 (span_in HIN.out ka) (span_in HIN.out kb))
                    rw [hop] at d0
                    generalize nodeB 11 (spanAt all ka) (spanAt all kb) (spanAt all (kidAt x 2)) = sr at HST2 HC
                    clear hrs hrs2 hkids hk0 hk1
                    have hc0' := hc0.out
                    clear HIN
                    go_wp2_with fail
                    refine HC.out.mono ?_
                    rintro en w7 ⟨rfl, hb7⟩
                    clear HC hc0 hc0' d0
                    have HGA7 := hide (HGA6.out.below hb7 hz6)
                    have HK7 := hide (HK6.out.trans (KeptBut.of_below hb7))
                    have hb07 := hb06.trans (hb7.mono hb06.size)
                    have t0 : w7.cell? ⟨ga, k * 2, none⟩ = some (.int .i64 sp0) := (hb7.cell (p := ⟨ga, k * 2, none⟩) hz6).trans s0'
                    have t1 : w7.cell? ⟨ga, k * 2 + 1, none⟩ = some (.int .i64 sp1) := (hb7.cell (p := ⟨ga, k * 2 + 1, none⟩) hz6).trans s1'
                    have fa0 := HGA7.out.frozen (k * 2)
                    have fa1 := HGA7.out.frozen (k * 2 + 1)
                    have r6 := HGA7.out.setSpan k sr
                    rw [← HAL.out, padS_set (by rw [HAL.out]; exact hlt), HAL.out] at r6
                    have R6 := hide r6
                    have K6 := hide (HK7.out.span (k * 2) (k * 2 + 1) (.int .i64 sr.1) (.int .i64 sr.2))
                    have hb8 : Below w.heap.size w ((w7.setCell ⟨ga, k * 2, none⟩ (.int .i64 sr.1)).setCell ⟨ga, k * 2 + 1, none⟩ (.int .i64 sr.2)) := (hb07.setCell (p := ⟨ga, k * 2, none⟩) hwa _).setCell (p := ⟨ga, k * 2 + 1, none⟩) hwa _
                    clear r6 s0' s1' HGA6 HOP6 HK6 hb06 hb7
                    go_upto_region 24 with (fail)
                    generalize (w7.setCell ⟨ga, k * 2, none⟩ (.int .i64 sr.1)).setCell ⟨ga, k * 2 + 1, none⟩ (.int .i64 sr.2) = w8 at R6 K6 hb8 ⊢
                    obtain ⟨v0, v1⟩ := R6.out.spanAt_ (i := k) (by rw [padS_len (by rw [List.length_append, HAL.out]; exact hlt)]; exact hlt)
                    rw [padS_get (by rw [List.length_append, HAL.out]; exact Nat.lt_succ_self _), ← HAL.out, span_last, HAL.out] at v0 v1
                    clear t0 t1 fa0 fa1 HGA7 HK7
                    cases hy1 : beyondL sr.1
                    · cases hy2 : beyondL sr.2
                      · have HGN := hide (HST.out sr (by rw [HST2.out, hy1, hy2]; rfl))
                        have HY1 := hide hy1
                        have HY2 := hide hy2
                        clear hy1 hy2
                        go_wp2_with fail
                        refine (beyond_is _ _ _ HY1.out).mono ?_
                        rintro en w9 ⟨rfl, rfl⟩
                        go_wp2_with fail
                        refine (beyond_is _ _ _ HY2.out).mono ?_
                        rintro en w9 ⟨rfl, rfl⟩
                        go_wp2
                        go_roundw
                        case rel => exact ⟨k + 1, all ++ [sr], by omega, by go_num, HGN.out, R6.out, K6.out⟩
                        case measure => simp [intOf]; omega
                      · have HRS := hide (HBE.out 9 (HER.out 9 (by rw [HST2.out, hy1, hy2]; rfl)))
                        have HY1 := hide hy1
                        have HY2 := hide hy2
                        clear hy1 hy2
                        go_wp2_with fail
                        refine (beyond_is _ _ _ HY1.out).mono ?_
                        rintro en w9 ⟨rfl, rfl⟩
                        go_wp2_with fail
                        refine (beyond_is _ _ _ HY2.out).mono ?_
                        rintro en w9 ⟨rfl, rfl⟩
                        go_wp2
                        go_ret3
                        rw [← HRS.out]
                        exact ⟨rfl, hb8⟩
                    · have HRS := hide (HBE.out 9 (HER.out 9 (by rw [HST2.out, hy1]; rfl)))
                      have HY1 := hide hy1
                      clear hy1
                      go_wp2_with fail
                      refine (beyond_is _ _ _ HY1.out).mono ?_
                      rintro en w9 ⟨rfl, rfl⟩
                      go_wp2
                      go_ret3
                      rw [← HRS.out]
                      exact ⟨rfl, hb8⟩
                  · have hc0 : Hid (wr.cell? ⟨go, 12, none⟩ = some (.func (.func 53) #[] #[])) := HOP6.out.cell 12
                    obtain ⟨ka, hkids⟩ := kids1 (by rw [hops, hop]; rfl : (x.kids.length : Int) = 1)
                    have hk0 : kidAt x 0 = ka := by unfold kidAt; rw [hkids]; rfl
                    rw [hop, hk0] at HST2
                    have HKL : Hid (x.kids.length = 1) := by show _ = _; rw [hkids]; rfl
                    have hrs2 : RSp wr wr.heap.size A3 x.kids.length [spanAt all ka] := by
                      have hh := hrs
                      rw [show x.kids.map (spanAt all) = [spanAt all ka] from by rw [hkids]; rfl] at hh
                      exact hh
                    have HC : Hid (Calls Tryz.prog 53 #[.slice A3 x.kids.length c3v] wr fun e w' => e = .returned (spanV (nodeB 12 (spanAt all ka) (spanAt all (kidAt x 1)) (spanAt all (kidAt x 2)))) ∧ Below wr.heap.size wr w') := hide (neg_any A3 _ c3v (spanAt all ka) wr hrs2 (span_in HIN.out ka))
                    rw [hop] at d0
                    generalize nodeB 12 (spanAt all ka) (spanAt all (kidAt x 1)) (spanAt all (kidAt x 2)) = sr at HST2 HC
                    clear hrs hrs2 hkids hk0
                    have hc0' := hc0.out
                    clear HIN
                    go_wp2_with fail
                    refine HC.out.mono ?_
                    rintro en w7 ⟨rfl, hb7⟩
                    clear HC hc0 hc0' d0
                    have HGA7 := hide (HGA6.out.below hb7 hz6)
                    have HK7 := hide (HK6.out.trans (KeptBut.of_below hb7))
                    have hb07 := hb06.trans (hb7.mono hb06.size)
                    have t0 : w7.cell? ⟨ga, k * 2, none⟩ = some (.int .i64 sp0) := (hb7.cell (p := ⟨ga, k * 2, none⟩) hz6).trans s0'
                    have t1 : w7.cell? ⟨ga, k * 2 + 1, none⟩ = some (.int .i64 sp1) := (hb7.cell (p := ⟨ga, k * 2 + 1, none⟩) hz6).trans s1'
                    have fa0 := HGA7.out.frozen (k * 2)
                    have fa1 := HGA7.out.frozen (k * 2 + 1)
                    have r6 := HGA7.out.setSpan k sr
                    rw [← HAL.out, padS_set (by rw [HAL.out]; exact hlt), HAL.out] at r6
                    have R6 := hide r6
                    have K6 := hide (HK7.out.span (k * 2) (k * 2 + 1) (.int .i64 sr.1) (.int .i64 sr.2))
                    have hb8 : Below w.heap.size w ((w7.setCell ⟨ga, k * 2, none⟩ (.int .i64 sr.1)).setCell ⟨ga, k * 2 + 1, none⟩ (.int .i64 sr.2)) := (hb07.setCell (p := ⟨ga, k * 2, none⟩) hwa _).setCell (p := ⟨ga, k * 2 + 1, none⟩) hwa _
                    clear r6 s0' s1' HGA6 HOP6 HK6 hb06 hb7
                    go_upto_region 24 with (fail)
                    generalize (w7.setCell ⟨ga, k * 2, none⟩ (.int .i64 sr.1)).setCell ⟨ga, k * 2 + 1, none⟩ (.int .i64 sr.2) = w8 at R6 K6 hb8 ⊢
                    obtain ⟨v0, v1⟩ := R6.out.spanAt_ (i := k) (by rw [padS_len (by rw [List.length_append, HAL.out]; exact hlt)]; exact hlt)
                    rw [padS_get (by rw [List.length_append, HAL.out]; exact Nat.lt_succ_self _), ← HAL.out, span_last, HAL.out] at v0 v1
                    clear t0 t1 fa0 fa1 HGA7 HK7
                    cases hy1 : beyondL sr.1
                    · cases hy2 : beyondL sr.2
                      · have HGN := hide (HST.out sr (by rw [HST2.out, hy1, hy2]; rfl))
                        have HY1 := hide hy1
                        have HY2 := hide hy2
                        clear hy1 hy2
                        go_wp2_with fail
                        refine (beyond_is _ _ _ HY1.out).mono ?_
                        rintro en w9 ⟨rfl, rfl⟩
                        go_wp2_with fail
                        refine (beyond_is _ _ _ HY2.out).mono ?_
                        rintro en w9 ⟨rfl, rfl⟩
                        go_wp2
                        go_roundw
                        case rel => exact ⟨k + 1, all ++ [sr], by omega, by go_num, HGN.out, R6.out, K6.out⟩
                        case measure => simp [intOf]; omega
                      · have HRS := hide (HBE.out 9 (HER.out 9 (by rw [HST2.out, hy1, hy2]; rfl)))
                        have HY1 := hide hy1
                        have HY2 := hide hy2
                        clear hy1 hy2
                        go_wp2_with fail
                        refine (beyond_is _ _ _ HY1.out).mono ?_
                        rintro en w9 ⟨rfl, rfl⟩
                        go_wp2_with fail
                        refine (beyond_is _ _ _ HY2.out).mono ?_
                        rintro en w9 ⟨rfl, rfl⟩
                        go_wp2
                        go_ret3
                        rw [← HRS.out]
                        exact ⟨rfl, hb8⟩
                    · have HRS := hide (HBE.out 9 (HER.out 9 (by rw [HST2.out, hy1]; rfl)))
                      have HY1 := hide hy1
                      clear hy1
                      go_wp2_with fail
                      refine (beyond_is _ _ _ HY1.out).mono ?_
                      rintro en w9 ⟨rfl, rfl⟩
                      go_wp2
                      go_ret3
                      rw [← HRS.out]
                      exact ⟨rfl, hb8⟩
        · obtain rfl : k = e.length := by omega
          have hps : padS e.length all = all := by
            unfold padS
            rw [HAL.out, Nat.sub_self]
            simp
          have hlast := HGA.out.spanAt_ (i := e.length - 1) (by rw [hps, HAL.out]; omega)
          rw [hps] at hlast
          obtain ⟨s0, s1⟩ := hlast
          have HRS : Hid ((((all.getD (e.length - 1) (0, 0)).1, (all.getD (e.length - 1) (0, 0)).2, (0 : Int)) : Int × Int × Int) = res) := by
            show _ = _
            rw [← HRES.out]
            unfold boundsL
            have hgo2 := HGO.out
            rw [List.take_length] at hgo2
            rw [if_neg (by rw [HV.out, HV2.out]; simp), hgo2]
            have hn : ((e.length : Int) - 1).toNat = e.length - 1 := by omega
            show _ = ((spanAt all ((e.length : Int) - 1)).1, (spanAt all ((e.length : Int) - 1)).2, (0 : Int))
            unfold spanAt
            rw [hn]
          have hcast : (e.length : Int) - 1 = ((e.length - 1 : Nat) : Int) := by omega
          have hll : (e.length - 1 : Nat) < e.length := by omega
          have h0l : (0 : Int) ≤ ((e.length - 1 : Nat) : Int) := by omega
          generalize all.getD (e.length - 1) (0, 0) = sp at s0 s1 HRS
          obtain ⟨p1, p2⟩ := sp
          dsimp only at s0 s1 HRS
          go_wp2
          go_quiet (fail)
          go_wp2
          go_ret3
          rw [← HRS.out]
          exact ⟨rfl, below_drewN (hbr.alloc hbr.size _) _⟩
end Go.Proofs.YtmelebfpkjnfdaaGreatDoor
