/-
  MeritOperators: the walk.
-/
import Derived.Test.YtmelebfpkjnfdaaDoorChoM
import Derived.Test.YtmelebfpkjnfdaaDoorOneM
set_option linter.unusedVariables false
set_option linter.unusedSimpArgs false
namespace Go.Proofs.YtmelebfpkjnfdaaDoor
open Go.RowKit Go.Deep Go.Maps

def opsW : List Int := [3, 4, 5, 6, 7, 8, 10, 11]
def wantW (x y : Int) : List Int := opsW.map fun op => opV op x y 0
theorem opsW_ok : ∀ i, i < 8 → 3 ≤ nth opsW i ∧ nth opsW i ≤ 11 ∧ nth opsW i ≠ 9 := by
  intro i hi
  have : i = 0 ∨ i = 1 ∨ i = 2 ∨ i = 3 ∨ i = 4 ∨ i = 5 ∨ i = 6 ∨ i = 7 := by omega
  rcases this with rfl | rfl | rfl | rfl | rfl | rfl | rfl | rfl <;> decide
theorem wantW_at (x y : Int) (i : Nat) (h : i < 8) : nth (wantW x y) i = opV (nth opsW i) x y 0 := by
  have : i = 0 ∨ i = 1 ∨ i = 2 ∨ i = 3 ∨ i = 4 ∨ i = 5 ∨ i = 6 ∨ i = 7 := by omega
  rcases this with rfl | rfl | rfl | rfl | rfl | rfl | rfl | rfl <;> rfl
theorem mul_bd9 {x y : Int} (hx : -1000000000 ≤ x ∧ x ≤ 1000000000) (hy : -1000000000 ≤ y ∧ y ≤ 1000000000) : -1000000000000000000 ≤ x * y ∧ x * y ≤ 1000000000000000000 := by
  have h1 : x.natAbs ≤ 1000000000 := by omega
  have h2 : y.natAbs ≤ 1000000000 := by omega
  have h3 : x.natAbs * y.natAbs ≤ 1000000000 * 1000000000 := Nat.mul_le_mul h1 h2
  have h4 : (x * y).natAbs = x.natAbs * y.natAbs := Int.natAbs_mul x y
  omega

set_option maxHeartbeats 8000000 in
set_option maxRecDepth 20000 in
theorem operators_any (A : Option Addr) (ca : Nat) (a : List Nod) (B : Option Addr) (cb : Nat) (b : List Nod) (L : Option Addr) (n cl : Nat) (l : List Vr) (w : World)
    (ha : ExprAt w w.heap.size A a) (hb : ExprAt w w.heap.size B b) (hl : RVr w w.heap.size L n l) (hln : n ≤ maxLen) (hrn : ∀ r ∈ l, r.name.size ≤ maxLen)
    (ma : a.length ≤ maxLen) (mb : b.length ≤ maxLen) (na : ∀ x ∈ a, x.name.size ≤ maxLen) (nb : ∀ x ∈ b, x.name.size ≤ maxLen)
    (ka : ∀ x ∈ a, x.kids.length ≤ maxLen) (kb : ∀ x ∈ b, x.kids.length ≤ maxLen) :
    Calls Tryd.prog 3 #[.slice A a.length ca, .slice B b.length cb, .slice L n cl] w fun e w' => e = .returned (.bool true) ∧ Below w.heap.size w w' := by
  have HEA := hide ha
  have HEB := hide hb
  have HL := hide hl
  have HA := hide (And.intro ma (And.intro na ka))
  have HB := hide (And.intro mb (And.intro nb kb))
  have HLN := hide hln
  have HRN := hide hrn
  unfold maxLen at ma mb hln
  clear ha hb hl hrn na nb ka kb
  go_enter Tryd.func3, Tryd.ntmps3
  go_wp2_with fail
  refine (head_any w).mono ?_
  rintro en w1 ⟨rfl, hb1⟩
  have HE1 := hide (HEA.out.next hb1)
  have HE2 := hide (HEB.out.next hb1)
  have HL1 := hide (HL.out.next hb1)
  have HB1 := hide hb1
  clear hb1 HEA HEB HL
  go_wp2_with fail
  refine (few_any A ca a L n cl l w1 HE1.out HA.out.1 HL1.out HLN.out HA.out.2.1 HRN.out HA.out.2.2).mono ?_
  rintro en w' ⟨rfl, rfl⟩
  cases hf1 : few23 a l
  · clear hf1
    go_wp2
    go_ret
    exact ⟨rfl, HB1.out⟩
  · have HF1 := hide hf1
    clear hf1
    go_wp2_with fail
    refine (few_any B cb b none 0 0 [] w1 HE2.out HB.out.1 Reads.none_ (by decide) HB.out.2.1 (by simp) HB.out.2.2).mono ?_
    rintro en w' ⟨rfl, rfl⟩
    cases hf2 : few23 b []
    · clear hf2
      go_wp2
      go_ret
      exact ⟨rfl, HB1.out⟩
    · have HF2 := hide hf2
      clear hf2
      have la := (few23_out HF1.out).2.1
      have lb := (few23_out HF2.out).2.1
      by_cases h60 : 60 < a.length + b.length
      · have d1 : decide ((60 : Int) < (a.length : Int) + (b.length : Int)) = true := decide_eq_true (by omega)
        go_wp2
        go_ret
        exact ⟨rfl, HB1.out⟩
      · have d1 : decide ((60 : Int) < (a.length : Int) + (b.length : Int)) = false := decide_eq_false (by omega)
        have H60 := hide h60
        clear h60
        go_wp2_with fail
        refine (meritEval_any A ca a L n cl l w1 HE1.out HA.out.2.1 HA.out.1 HL1.out HLN.out HRN.out).mono ?_
        rintro en w2 ⟨rfl, hb2⟩
        have HG1 := hide (HE1.out.next hb2)
        have HG2 := hide (HE2.out.next hb2)
        have HL2 := hide (HL1.out.next hb2)
        have HB2 := hide (HB1.out.trans (hb2.mono HB1.out.size))
        clear hb2 HE1 HE2 HL1 HB1
        obtain ⟨ra, hra⟩ : ∃ r, r = evalM a l := ⟨_, rfl⟩
        rw [← hra]
        have HRA := hide hra.symm
        obtain ⟨x, ea⟩ := ra
        dsimp only
        clear hra
        go_wp2_with fail
        refine (meritEval_any B cb b L n cl l w2 HG2.out HB.out.2.1 HB.out.1 HL2.out HLN.out HRN.out).mono ?_
        rintro en w3 ⟨rfl, hb3⟩
        have HE1 := hide (HG1.out.next hb3)
        have HE2 := hide (HG2.out.next hb3)
        have HL3 := hide (HL2.out.next hb3)
        have HB3 := hide (HB2.out.trans (hb3.mono HB2.out.size))
        clear hb3 HG1 HG2 HL2 HB2
        obtain ⟨rb, hrb⟩ : ∃ r, r = evalM b l := ⟨_, rfl⟩
        rw [← hrb]
        have HRB := hide hrb.symm
        obtain ⟨y, eb⟩ := rb
        dsimp only
        clear hrb
        by_cases ha0 : ea = 0
        · subst ha0
          by_cases hb0 : eb = 0
          · subst hb0
            by_cases hx1 : x < -1000000000
            · have d2 : decide (x < -1000000000) = true := decide_eq_true hx1
              go_wp2
              go_ret
              exact ⟨rfl, HB3.out⟩
            · have d2 : decide (x < -1000000000) = false := decide_eq_false hx1
              by_cases hx2 : 1000000000 < x
              · have d3 : decide (1000000000 < x) = true := decide_eq_true hx2
                go_wp2
                go_ret
                exact ⟨rfl, HB3.out⟩
              · have d3 : decide (1000000000 < x) = false := decide_eq_false hx2
                by_cases hy1 : y < -1000000000
                · have d4 : decide (y < -1000000000) = true := decide_eq_true hy1
                  go_wp2
                  go_ret
                  exact ⟨rfl, HB3.out⟩
                · have d4 : decide (y < -1000000000) = false := decide_eq_false hy1
                  by_cases hy2 : 1000000000 < y
                  · have d5 : decide (1000000000 < y) = true := decide_eq_true hy2
                    go_wp2
                    go_ret
                    exact ⟨rfl, HB3.out⟩
                  · have d5 : decide (1000000000 < y) = false := decide_eq_false hy2
                    obtain ⟨hm1, hm2⟩ := mul_bd9 (x := x) (y := y) ⟨by omega, by omega⟩ ⟨by omega, by omega⟩
                    have hx1' : -1000000000 ≤ x := by omega
                    have hx2' : x ≤ 1000000000 := by omega
                    have hy1' : -1000000000 ≤ y := by omega
                    have hy2' : y ≤ 1000000000 := by omega
                    have HPL : Hid (∀ op, 3 ≤ op ∧ op ≤ 11 ∧ op ≠ 9 → validL (aboveL op [a, b]) = true → evalM (aboveL op [a, b]) l = if beyondL (opV op x y 0) = true then (0, 9) else (opV op x y 0, 0)) := hide (fun op hop hv => by
                      have va := (evalM_ok HRA.out).2.1
                      have vb := (evalM_ok HRB.out).2.1
                      have h60 := H60.out
                      rw [above2_eq op (smallK_of va) (smallK_of vb) (by omega)] at hv ⊢
                      exact above2_plain HRA.out HRB.out hop hv)
                    clear hx1 hx2 hy1 hy2
                    have hb4 : Below w3.heap.size w3 (w3.alloc (Obj.cells (ints opsW).toArray 3)) := (Below.refl _ _).alloc (Nat.le_refl _) _
                    have hk4 : Blk (w3.alloc (Obj.cells (ints opsW).toArray 3)) w3.heap.size 3 (ints opsW).toArray := Blk.new _ _ _
                    have HK4 : Hid (Below w3.heap.size w3 (w3.alloc (Obj.cells #[.int .i64 3, .int .i64 4, .int .i64 5, .int .i64 6, .int .i64 7, .int .i64 8, .int .i64 10, .int .i64 11] 3)) ∧ Blk (w3.alloc (Obj.cells #[.int .i64 3, .int .i64 4, .int .i64 5, .int .i64 6, .int .i64 7, .int .i64 8, .int .i64 10, .int .i64 11] 3)) w3.heap.size 3 (ints opsW).toArray) := ⟨hb4, hk4⟩
                    clear hb4 hk4
                    go_upto_region 9 with (fail)
                    generalize w3.alloc (Obj.cells #[.int .i64 3, .int .i64 4, .int .i64 5, .int .i64 6, .int .i64 7, .int .i64 8, .int .i64 10, .int .i64 11] 3) = w4 at HK4 ⊢
                    go_wp2_with fail
                    refine (lawFloor_any x y w4 ⟨by omega, by omega⟩).mono ?_
                    rintro en w' ⟨rfl, rfl⟩
                    go_wp2_with fail
                    obtain ⟨q1, hq1⟩ : ∃ q, q = if decide (x < y) = true then (1 : Int) else 0 := ⟨_, rfl⟩
                    obtain ⟨q2, hq2⟩ : ∃ q, q = if (x == y) = true then (1 : Int) else 0 := ⟨_, rfl⟩
                    have HW5 : Hid (Below w4.heap.size w4 (w4.alloc (Obj.cells #[.int .i64 (x + y), .int .i64 (x - y), .int .i64 (x * y), .int .i64 (quot x y), .int .i64 (min x y), .int .i64 (max x y), .int .i64 q1, .int .i64 q2] 3)) ∧ Blk (w4.alloc (Obj.cells #[.int .i64 (x + y), .int .i64 (x - y), .int .i64 (x * y), .int .i64 (quot x y), .int .i64 (min x y), .int .i64 (max x y), .int .i64 q1, .int .i64 q2] 3)) w4.heap.size 3 (ints (wantW x y)).toArray) := by
                      refine ⟨(Below.refl _ _).alloc (Nat.le_refl _) _, ?_⟩
                      have he : (ints (wantW x y)).toArray = #[.int .i64 (x + y), .int .i64 (x - y), .int .i64 (x * y), .int .i64 (quot x y), .int .i64 (min x y), .int .i64 (max x y), .int .i64 q1, .int .i64 q2] := by
                        have e1 : (if decide (x < y) = true then (1 : Int) else 0) = if x < y then 1 else 0 := by simp only [decide_eq_true_eq]
                        have e2 : (if (x == y) = true then (1 : Int) else 0) = if x = y then 1 else 0 := by simp only [beq_iff_eq]
                        rw [hq1, hq2, e1, e2]
                        rfl
                      rw [he]
                      exact Blk.new _ _ _
                    refine (lawOne_any (decide (x < y)) w4).mono ?_
                    rintro en w' ⟨rfl, rfl⟩
                    rw [← hq1]
                    clear hq1
                    go_wp2_with fail
                    refine (lawOne_any (x == y) w4).mono ?_
                    rintro en w' ⟨rfl, rfl⟩
                    rw [← hq2]
                    clear hq2
                    have HWN : Hid (∀ i, i < 8 → nth (wantW x y) i = opV (nth opsW i) x y 0) := wantW_at x y
                    have HWL : Hid ((wantW x y).length = 8) := rfl
                    go_upto_region 10 with (fail)
                    generalize w4.alloc (Obj.cells #[.int .i64 (x + y), .int .i64 (x - y), .int .i64 (x * y), .int .i64 (quot x y), .int .i64 (min x y), .int .i64 (max x y), .int .i64 q1, .int .i64 q2] 3) = w5 at HW5 ⊢
                    have hb35 : Below w3.heap.size w3 w5 := HK4.out.1.trans (HW5.out.1.mono HK4.out.1.size)
                    have HB5 := hide (HB3.out.trans (hb35.mono HB3.out.size))
                    have HG1 := hide (HE1.out.next hb35)
                    have HG2 := hide (HE2.out.next hb35)
                    have HL5 := hide (HL3.out.next hb35)
                    have HKO := hide (HK4.out.2.below HW5.out.1 HK4.out.2.lt)
                    have HKW := hide HW5.out.2
                    clear hb35 HE1 HE2 HL3 HB3 HK4 HW5
                    generalize w3.heap.size = go at HKO ⊢
                    generalize w4.heap.size = gw at HKW ⊢
                    go_wp2
                    go_loopw [14] (fun t14 wr => ∃ i : Nat, i ≤ 8 ∧ t14 = .int .i64 i ∧ Below w5.heap.size w5 wr) (fun t14 _ => 8 - (intOf t14).toNat)
                    case atStart => exact ⟨0, by omega, rfl, Below.refl _ _⟩
                    case round =>
                      obtain ⟨i, hi, rfl, hbr⟩ := hrel
                      have HBR := hide hbr
                      have HBW := hide (HB5.out.trans (hbr.mono HB5.out.size))
                      by_cases hlt : i < 8
                      · have hop := opsW_ok i hlt
                        have o1 : wr.cell? ⟨go, i, none⟩ = some (.int .i64 (nth opsW i)) := (HKO.out.below hbr HKO.out.lt).int (k := i) (by show i < 8; omega)
                        have HWV := hide (HWN.out i hlt)
                        have HG3 := hide (HG1.out.next hbr)
                        have HG4 := hide (HG2.out.next hbr)
                        have HL6 := hide (HL5.out.next hbr)
                        clear hbr
                        have HP := hide (HPL.out (nth opsW i) hop)
                        generalize nth opsW i = op at o1 HWV HP hop
                        have HPN := hide (parts_new wr [(A, ca, a), (B, cb, b)] 2 rfl #[.slice A a.length ca, .slice B b.length cb] rfl)
                        have hb7 : Below wr.heap.size wr (wr.alloc (Obj.cells #[.slice A a.length ca, .slice B b.length cb] 23)) := (Below.refl _ _).alloc (Nat.le_refl _) _
                        have HG5 := hide (HG3.out.next hb7)
                        have HG6 := hide (HG4.out.next hb7)
                        have HL7 := hide (HL6.out.next hb7)
                        have HBR7 := hide (HBR.out.trans (hb7.mono HBR.out.size))
                        clear hb7 HG3 HG4 HL6
                        have hii : decide ((i : Int) < 8) = true := decide_eq_true (by omega)
                        go_wp2_with fail
                        generalize wr.alloc (Obj.cells #[.slice A a.length ca, .slice B b.length cb] 23) = w7 at HPN HG5 HG6 HL7 HBR7 ⊢
                        refine (above_any op _ 2 2 [(A, ca, a), (B, cb, b)] w7 HPN.out (by
                            intro p hp
                            simp only [List.mem_cons, List.not_mem_nil, or_false] at hp
                            rcases hp with rfl | rfl
                            · exact HG5.out
                            · exact HG6.out) (by
                            show (catL [a, b]).length ≤ 10000
                            rw [catL_two]
                            have := H60.out
                            omega) (by
                            intro p hp x hx
                            simp only [List.mem_cons, List.not_mem_nil, or_false] at hp
                            rcases hp with rfl | rfl
                            · have := ((few23_out HF1.out).2.2.1 x hx).1; omega
                            · have := ((few23_out HF2.out).2.2.1 x hx).1; omega) (by omega)).mono ?_
                        rintro en w8 ⟨A6, c6, rfl, hex, hb8⟩
                        have hnm : ∀ x ∈ aboveL op [a, b], x.name.size ≤ maxLen := aboveL_names (by
                          intro p hp x hx
                          simp only [List.mem_cons, List.not_mem_nil, or_false] at hp
                          rcases hp with rfl | rfl
                          · exact HA.out.2.1 x hx
                          · exact HB.out.2.1 x hx)
                        have hwl : (aboveL op [a, b]).length ≤ maxLen := by
                          rw [aboveL_len, catL_two]
                          have := H60.out
                          unfold maxLen
                          omega
                        have HWE : Hid (ExprAt w8 w8.heap.size A6 (aboveL op [a, b])) := hide hex
                        have HL8 := hide (HL7.out.next hb8)
                        have HBR8 := hide (HBR7.out.trans (hb8.mono HBR7.out.size))
                        have HNM := hide hnm
                        have HWL2 := hide hwl
                        show _
                        simp only [List.map_cons, List.map_nil]
                        clear hex hb8 hnm hwl HPN HG5 HG6 HL7 HBR7
                        generalize aboveL op [a, b] = ws at HWE HNM HWL2 HP ⊢
                        have hwl : ws.length ≤ 9223372036854775807 := by have := HWL2.out; unfold maxLen at this; omega
                        go_wp2_with fail
                        refine (valid_any A6 c6 ws w8 HWE.out HNM.out HWL2.out).mono ?_
                        rintro en w9 ⟨rfl, hb9⟩
                        have HWE9 := hide (HWE.out.next hb9)
                        have HL9 := hide (HL8.out.next hb9)
                        have HBR9 := hide (HBR8.out.trans (hb9.mono HBR8.out.size))
                        clear hb9 HWE HL8 HBR8
                        cases hv : validL ws
                        · clear hv
                          go_wp2
                          go_roundw
                          case rel => exact ⟨i + 1, by omega, by go_num, HBR9.out⟩
                          case measure => simp [intOf]; omega
                        · have HEV := hide (HP.out hv)
                          clear hv
                          go_wp2_with fail
                          refine (meritEval_any A6 c6 ws L n cl l w9 HWE9.out HNM.out HWL2.out HL9.out HLN.out HRN.out).mono ?_
                          rintro en w10 ⟨rfl, hb10⟩
                          rw [HEV.out]
                          have hbr10 := HBR9.out.trans (hb10.mono HBR9.out.size)
                          have HBR10 := hide hbr10
                          have o2 : w10.cell? ⟨gw, i, none⟩ = some (.int .i64 (opV op x y 0)) := by
                            rw [← HWV.out]
                            exact (HKW.out.below hbr10 HKW.out.lt).int (k := i) (by rw [HWL.out]; exact hlt)
                          clear hb10 hbr10 HWE9 HL9 HBR9 HEV HP HWV o1
                          generalize opV op x y 0 = v at o2 ⊢
                          cases hbd : beyondL v
                          · rw [if_neg (by decide)]
                            have h1 := inB_beyond.1 hbd
                            unfold inB at h1
                            have e1 : decide (v < -1000000000000) = false := decide_eq_false (by omega)
                            have e2 : decide (1000000000000 < v) = false := decide_eq_false (by omega)
                            dsimp only
                            go_wp2
                            go_roundw
                            case rel => exact ⟨i + 1, by omega, by go_num, HBR10.out⟩
                            case measure => simp [intOf]; omega
                          · rw [if_pos rfl]
                            dsimp only
                            by_cases h1 : v < -1000000000000
                            · have e1 : decide (v < -1000000000000) = true := decide_eq_true h1
                              go_wp2
                              go_roundw
                              case rel => exact ⟨i + 1, by omega, by go_num, HBR10.out⟩
                              case measure => simp [intOf]; omega
                            · have e1 : decide (v < -1000000000000) = false := decide_eq_false h1
                              have e2 : decide (1000000000000 < v) = true := by
                                cases hd : decide (1000000000000 < v)
                                · have h3 := of_decide_eq_false hd
                                  have : beyondL v = false := inB_beyond.2 (by unfold inB; omega)
                                  rw [this] at hbd
                                  cases hbd
                                · rfl
                              go_wp2
                              go_roundw
                              case rel => exact ⟨i + 1, by omega, by go_num, HBR10.out⟩
                              case measure => simp [intOf]; omega
                      · obtain rfl : i = 8 := by omega
                        go_wp2
                        go_ret
                        exact ⟨rfl, HBW.out⟩
          · have hb' : (eb != 0) = true := bne_iff_ne.2 hb0
            go_wp2
            go_ret
            exact ⟨rfl, HB3.out⟩
        · have ha' : (ea != 0) = true := bne_iff_ne.2 ha0
          go_wp2
          go_ret
          exact ⟨rfl, HB3.out⟩
theorem operators_walk (A : Option Addr) (ca : Nat) (a : List Nod) (B : Option Addr) (cb : Nat) (b : List Nod) (L : Option Addr) (n cl : Nat) (l : List Vr) (w : World)
    (w0 : ExprAt w w.heap.size A a) (m0 : a.length ≤ maxLen) (b0 : ∀ x ∈ a, x.name.size ≤ maxLen ∧ x.kids.length ≤ maxLen ∧ (Lit.int .i64 x.op).wf = true ∧ (Lit.int .i64 x.n).wf = true ∧ ∀ k ∈ x.kids, (Lit.int .i64 k).wf = true)
    (w1 : ExprAt w w.heap.size B b) (m1 : b.length ≤ maxLen) (b1 : ∀ x ∈ b, x.name.size ≤ maxLen ∧ x.kids.length ≤ maxLen ∧ (Lit.int .i64 x.op).wf = true ∧ (Lit.int .i64 x.n).wf = true ∧ ∀ k ∈ x.kids, (Lit.int .i64 k).wf = true)
    (w3 : RVr w w.heap.size L n l) (m3 : n ≤ maxLen) (b3 : ∀ r ∈ l, r.name.size ≤ maxLen ∧ (Lit.int .i64 r.val).wf = true) :
    Calls Tryd.prog 3 #[.slice A a.length ca, .slice B b.length cb, .slice L n cl] w fun e w' => e = .returned (.bool true) ∧ Below w.heap.size w w' :=
  operators_any A ca a B cb b L n cl l w w0 w1 w3 m3 (fun r hr => (b3 r hr).1) m0 m1 (fun x hx => (b0 x hx).1) (fun x hx => (b1 x hx).1) (fun x hx => (b0 x hx).2.1) (fun x hx => (b1 x hx).2.1)
end Go.Proofs.YtmelebfpkjnfdaaDoor
