/-
  Chapter 22, BoundExact: the walk.
-/
import Derived.Test.YtnlcfbaaomdjdaaDoorExaP
import Derived.Test.YtnlcfbaaomdjdaaDoorNar
import Derived.Test.YtnlcfbaaomdjdaaDoorEv
set_option linter.unusedVariables false
set_option linter.unusedSimpArgs false
namespace Go.Proofs.YtnlcfbaaomdjdaaDoor
open Go.RowKit Go.Deep Go.Maps

/-- Neither OpDiv nor OpEqual, and no name twice, among the first k nodes. -/
def FineN (e : List Nod) (k : Nat) : Prop := ∀ j, j < k → (nodAt e j).op ≠ 6 ∧ (nodAt e j).op ≠ 11 ∧ ∀ i, i < j → ¬ ((nodAt e j).op = 2 ∧ (nodAt e i).op = 2 ∧ (nodAt e j).name = (nodAt e i).name)
theorem FineN.zero (e : List Nod) : FineN e 0 := fun j h => absurd h (by omega)
theorem FineN.next {e : List Nod} {k : Nat} (h : FineN e k) (h6 : (nodAt e k).op ≠ 6) (h11 : (nodAt e k).op ≠ 11) (hn : ∀ i, i < k → ¬ ((nodAt e k).op = 2 ∧ (nodAt e i).op = 2 ∧ (nodAt e k).name = (nodAt e i).name)) : FineN e (k + 1) := by
  intro j hj
  by_cases hk : j < k
  · exact h j hk
  · obtain rfl : j = k := by omega
    exact ⟨h6, h11, hn⟩
theorem FineN.no {e : List Nod} (h : FineN e e.length) : ∀ x ∈ e, x.op ≠ 6 ∧ x.op ≠ 11 := by
  intro x hx
  obtain ⟨i, hi, rfl⟩ := List.getElem_of_mem hx
  rw [nodAt_get' hi]
  exact ⟨(h i hi).1, (h i hi).2.1⟩
theorem FineN.once {e : List Nod} (h : FineN e e.length) : OnceN e := fun i j hij hj h2 h2' hn => (h j hj).2.2 i hij ⟨h2', h2, hn.symm⟩
theorem bit_form {k j : Nat} (hk : k < 64) : (bits .and .i64 ((k : Int) / 2 ^ j) 1 == 1) = bitB k j := by
  have h1 : ((k : Int) / 2 ^ j) = ((k / 2 ^ j : Nat) : Int) := by rw [Int.natCast_ediv, Int.natCast_pow]; rfl
  have h2 : k / 2 ^ j < 64 := Nat.lt_of_le_of_lt (Nat.div_le_self _ _) hk
  rw [h1]
  unfold bitB
  generalize k / 2 ^ j = v at h2
  exact (show ∀ v : Nat, v < 64 → (bits .and .i64 (v : Int) 1 == 1) = decide (v % 2 = 1) by decide +kernel) v h2

set_option maxHeartbeats 16000000 in
set_option maxRecDepth 20000 in
theorem exact_walk_any (A : Option Addr) (c : Nat) (e : List Nod) (A2 : Option Addr) (n2 c2 : Nat) (l : List Rng) (w : World)
    (he : ExprAt w w.heap.size A e) (hem : e.length ≤ maxLen) (hl : RRg w w.heap.size A2 n2 l) (hln : n2 ≤ maxLen)
    (hen : ∀ x ∈ e, x.name.size ≤ maxLen) (hrn : ∀ r ∈ l, r.name.size ≤ maxLen) (hkn : ∀ x ∈ e, x.kids.length ≤ maxLen) :
    Calls Tryd.prog 4 #[.slice A e.length c, .slice A2 n2 c2] w fun en w' => en = .returned (.bool true) ∧ Below w.heap.size w w' := by
  have HE := hide he
  have HL := hide hl
  have HEN := hide hen
  have HRN := hide hrn
  have HKN := hide hkn
  have HLN := hide hl.len
  have HEM := hide hem
  have HLM := hide hln
  unfold maxLen at hem hln
  clear he hl hen hrn hkn
  go_enter Tryd.func4, Tryd.ntmps4
  go_wp2_with fail
  refine (head_any w).mono ?_
  rintro en w1 ⟨rfl, hb1⟩
  have HE1 := hide (HE.out.next hb1)
  have HL1 := hide (HL.out.next hb1)
  go_wp2_with fail
  refine (few_any A c e A2 n2 c2 l w1 HE1.out HEM.out HL1.out HLM.out HEN.out HRN.out HKN.out).mono ?_
  rintro en w2 ⟨rfl, rfl⟩
  cases hfew : fewL e l
  · have HB1 := hide hb1
    clear hb1
    go_wp2
    go_ret
    exact ⟨rfl, HB1.out⟩
  · have HFW := hide hfew
    have HB1 := hide hb1
    clear hfew hb1
    by_cases h6 : 6 < n2
    · have h6' : decide (6 < (n2 : Int)) = true := decide_eq_true (by omega)
      go_wp2
      go_ret
      exact ⟨rfl, HB1.out⟩
    · have h6' : decide (6 < (n2 : Int)) = false := decide_eq_false (by omega)
      go_wp2_with fail
      refine (bounds_any A c e A2 n2 c2 l w1 HE1.out HEN.out HEM.out HL1.out HLM.out HRN.out).mono ?_
      rintro en w2 ⟨rfl, hb2⟩
      have HE2 := hide (HE1.out.next hb2)
      have HL2 := hide (HL1.out.next hb2)
      have HB2 := hide (HB1.out.trans (hb2.mono HB1.out.size))
      obtain ⟨res, hres⟩ : ∃ res, res = boundsL e l := ⟨_, rfl⟩
      rw [← hres]
      have HRES := hide hres.symm
      clear HB1 hb2 HE1 HL1 HE HL hres h6'
      obtain ⟨lo, hi, err⟩ := res
      dsimp only
      by_cases herr : err = 0
      · subst herr
        go_wp2
        go_loopw [9] (fun i wr => ∃ k : Nat, k ≤ e.length ∧ i = .int .i64 k ∧ FineN e k ∧ ∃ m, wr = w2.drewN m) (fun i _ => e.length - (intOf i).toNat)
        case atStart => exact ⟨0, Nat.zero_le _, rfl, FineN.zero e, 0, rfl⟩
        case round =>
          obtain ⟨k, hk, rfl, hfin, m, hwm⟩ := hrel
          have HW := hide hwm
          have HFN := hide hfin
          have HE3 := hide (show ExprAt wr wr.heap.size A e by rw [hwm]; exact HE2.out)
          have HB3 := hide (show Below w.heap.size w wr by rw [hwm]; exact below_drewN HB2.out m)
          clear hwm hfin
          obtain ⟨wo, hwo⟩ : ∃ wo : World, wo = wr := ⟨_, rfl⟩
          subst hwo
          by_cases hlt : k < e.length
          · obtain ⟨b, off, K, kc, rfl, hb, x0, x1, x2, x3, hK⟩ := HE3.out.at_ hlt
            have HNX := hide (fun h6 h11 hn => FineN.next (k := k) HFN.out h6 h11 hn)
            generalize nodAt e k = x at x0 x1 x2 x3 hK HNX
            clear hK x1 x3
            by_cases o6 : x.op = 6
            · have o6' : (x.op == 6) = true := beq_iff_eq.2 o6
              go_wp2
              go_ret
              exact ⟨rfl, HB3.out⟩
            · have o6' : (x.op == 6) = false := beq_eq_false_iff_ne.2 o6
              by_cases o11 : x.op = 11
              · have o11' : (x.op == 11) = true := beq_iff_eq.2 o11
                go_wp2
                go_ret
                exact ⟨rfl, HB3.out⟩
              · have o11' : (x.op == 11) = false := beq_eq_false_iff_ne.2 o11
                go_upto_region 13 with (fail)
                go_loopw [10] (fun j wr => ∃ q : Nat, q ≤ k ∧ j = .int .i64 q ∧ (∀ i, i < q → ¬ (x.op = 2 ∧ (nodAt e i).op = 2 ∧ x.name = (nodAt e i).name)) ∧ ∃ m, wr = wo.drewN m) (fun j _ => k - (intOf j).toNat)
                case atStart => exact ⟨0, Nat.zero_le _, rfl, fun i h => absurd h (by omega), 0, rfl⟩
                case round =>
                  obtain ⟨q, hq, rfl, hno, m2, hwm2⟩ := hrel
                  have HW2 := hide hwm2
                  have HNO := hide hno
                  have y0 : wr.cell? ⟨b, off + k * 4, none⟩ = some (.int .i64 x.op) := by rw [hwm2]; exact x0
                  have y2 : wr.cell? ⟨b, off + k * 4 + 2, none⟩ = some (.string x.name) := by rw [hwm2]; exact x2
                  have HE4 := hide (show ExprAt wr wr.heap.size (some ⟨b, off, none⟩) e by rw [hwm2]; exact HE3.out)
                  have HB4 := hide (show Below w.heap.size w wr by rw [hwm2]; exact below_drewN HB3.out m2)
                  clear hwm2 x0 x2 hno
                  by_cases hq2 : q < k
                  · obtain ⟨b', off', K', kc', hA', hb', z0, -, z2, -, -⟩ := HE4.out.at_ (i := q) (by omega)
                    obtain ⟨rfl, rfl⟩ : b' = b ∧ off' = off := by
                      injection hA' with h
                      injection h with h1 h2
                      exact ⟨h1.symm, h2.symm⟩
                    clear hA'
                    have HNN := hide (fun (h : ¬ (x.op = 2 ∧ (nodAt e q).op = 2 ∧ x.name = (nodAt e q).name)) i (hi : i < q + 1) => by
                      by_cases hi2 : i < q
                      · exact HNO.out i hi2
                      · obtain rfl : i = q := by omega
                        exact h)
                    have HNN2 : Hid ((¬ (x.op = 2 ∧ (nodAt e q).op = 2 ∧ x.name = (nodAt e q).name)) → ∀ i, i < q + 1 → ¬ (x.op = 2 ∧ (nodAt e i).op = 2 ∧ x.name = (nodAt e i).name)) := HNN
                    clear HNN
                    generalize nodAt e q = y at z0 z2 HNN2
                    by_cases p2 : x.op = 2
                    · have p2' : (x.op == 2) = true := beq_iff_eq.2 p2
                      by_cases r2 : y.op = 2
                      · have r2' : (y.op == 2) = true := beq_iff_eq.2 r2
                        by_cases hn : x.name = y.name
                        · rw [← hn] at z2
                          go_upto_region 15 with (fail)
                          go_quiet (fail)
                          go_wp2
                          go_ret
                          exact ⟨rfl, below_drewN HB4.out nq⟩
                        · have hn' := bytes_ne hn
                          go_upto_region 15 with (fail)
                          go_quiet (fail)
                          go_wp2
                          go_roundw
                          case rel => exact ⟨q + 1, by omega, by go_num, HNN2.out (fun h => hn h.2.2), m2 + nq, by rw [HW2.out, World.drewN_drewN]⟩
                          case measure => simp [intOf]; omega
                      · have r2' : (y.op == 2) = false := beq_eq_false_iff_ne.2 r2
                        go_upto_region 15 with (fail)
                        go_quiet (fail)
                        go_wp2
                        go_roundw
                        case rel => exact ⟨q + 1, by omega, by go_num, HNN2.out (fun h => r2 h.2.1), m2 + nq, by rw [HW2.out, World.drewN_drewN]⟩
                        case measure => simp [intOf]; omega
                    · have p2' : (x.op == 2) = false := beq_eq_false_iff_ne.2 p2
                      go_upto_region 15 with (fail)
                      go_quiet (fail)
                      go_wp2
                      go_roundw
                      case rel => exact ⟨q + 1, by omega, by go_num, HNN2.out (fun h => p2 h.1), m2 + nq, by rw [HW2.out, World.drewN_drewN]⟩
                      case measure => simp [intOf]; omega
                  · obtain rfl : q = k := by omega
                    go_wp2
                    go_roundw
                    case rel => exact ⟨q + 1, by omega, by go_num, HNX.out o6 o11 HNO.out, m + m2, by rw [HW2.out, HW.out, World.drewN_drewN]⟩
                    case measure => simp [intOf]; omega
          · obtain rfl : k = e.length := by omega
            have HEX := hide (exact_any HRES.out HFN.out.no HFN.out.once)
            rw [HLN.out] at HEX
            have HND := hide (valid_nodes (bounds_ok HRES.out).2.1)
            have HL3 := hide (show RRg wo wo.heap.size A2 n2 l by rw [HW.out]; exact HL2.out)
            clear HFN HRES HE2 HL2 HB2 HW
            go_upto_region 19 with (fail)
            have hpow : (2 : Nat) ^ n2 ≤ 64 := by
              have : (2 : Nat) ^ n2 ≤ 2 ^ 6 := Nat.pow_le_pow_right (by omega) (by omega)
              omega
            have HPW := hide hpow
            go_loopw [11, 12, 13] (fun a b i wr => ∃ k : Nat, k ≤ 2 ^ n2 ∧ i = .int .i64 k ∧ a = .bool (anyN (hitL e l lo) k) ∧ b = .bool (anyN (hitL e l hi) k) ∧ Below wo.heap.size wo wr) (fun _ _ i _ => 2 ^ n2 - (intOf i).toNat)
            case atStart => exact ⟨0, Nat.zero_le _, rfl, rfl, rfl, Below.refl _ _⟩
            case round =>
              obtain ⟨k, hk, rfl, rfl, rfl, hbr⟩ := hrel
              have HBR := hide hbr
              clear hbr hpow
              have hW : wrap64 ((2 : Int) ^ n2) = ((2 ^ n2 : Nat) : Int) := by
                rw [Int.natCast_pow]
                refine W_in ?_
                have h1 := HPW.out
                have h2 : ((2 ^ n2 : Nat) : Int) = (2 : Int) ^ n2 := Int.natCast_pow 2 n2
                omega
              by_cases hlt2 : k < 2 ^ n2
              · have hd : decide ((k : Int) < wrap64 ((2 : Int) ^ n2)) = true := decide_eq_true (by rw [hW]; omega)
                clear hW
                have hk64 : k < 64 := by have := HPW.out; omega
                go_upto_region 23 with (fail)
                go_loopw [14, 15] (fun v i wq => ∃ (j : Nat) (A4 : Option Addr) (c4 : Nat), j ≤ n2 ∧ i = .int .i64 j ∧ v = .slice A4 j c4 ∧ Own wq wo.heap.size 3 1 A4 j c4 (ints (endsB l (bitB k) j)) ∧ Below wo.heap.size wo wq) (fun _ i _ => n2 - (intOf i).toNat)
                case atStart => exact ⟨0, none, 0, Nat.zero_le _, rfl, rfl, Own.nil _ _ _ _, HBR.out⟩
                case round =>
                  obtain ⟨j, A4, c4, hj, rfl, rfl, hown, hbq⟩ := hrel
                  have HOW := hide hown
                  have HBQ := hide hbq
                  clear hown hbq
                  by_cases hjn : j < n2
                  · obtain ⟨b, off, rfl, hb, g0, g1, g2⟩ := (HL3.out.below HBQ.out).at_ hjn
                    have HEN2 := hide (endsB_next l (bitB k) j)
                    generalize rngAt l j = r at g0 g1 g2 HEN2
                    have hbf := bit_form (j := j) hk64
                    cases hbt : bitB k j
                    · rw [hbt] at hbf
                      have HBT := hide hbt
                      clear hbt
                      go_upto_region 24 with ((
                        at_builtin
                        refine wpList_app rfl (.tmp 119) (.tmp 125) _ rfl wo.heap.size 3 (.int .i64 0) 1 8 Tryd.underlying31 int_info rfl (by omega) A4 j c4 _ rfl (HOW.out.alloc _) (wr.heap.size + 1) (some ⟨wr.heap.size, 0, none⟩) 1 1 (ints [r.low]) rfl (reads_new wr #[.int .i64 r.low] 3 1 1 rfl) (ints_oneCell _) (by unfold maxLen; omega) (by omega) (by have := HBQ.out.size; rw [World.size_alloc]; omega) ?_
                        intro A7 c7 w7 hown7 hbw7 _
                        rw [← ints_append] at hown7
                        have HO7 := hide hown7
                        have HB7 := hide ((HBQ.out.alloc HBQ.out.size _).trans hbw7)
                        clear hown7 hbw7))
                      go_wp2
                      go_roundw
                      case rel => exact ⟨j + 1, A7, c7, by omega, by go_num, rfl, by rw [HEN2.out, HBT.out]; exact HO7.out, HB7.out⟩
                      case measure => simp [intOf]; omega
                    · rw [hbt] at hbf
                      have HBT := hide hbt
                      clear hbt
                      go_upto_region 24 with ((
                        at_builtin
                        refine wpList_app rfl (.tmp 111) (.tmp 117) _ rfl wo.heap.size 3 (.int .i64 0) 1 8 Tryd.underlying31 int_info rfl (by omega) A4 j c4 _ rfl (HOW.out.alloc _) (wr.heap.size + 1) (some ⟨wr.heap.size, 0, none⟩) 1 1 (ints [r.high]) rfl (reads_new wr #[.int .i64 r.high] 3 1 1 rfl) (ints_oneCell _) (by unfold maxLen; omega) (by omega) (by have := HBQ.out.size; rw [World.size_alloc]; omega) ?_
                        intro A7 c7 w7 hown7 hbw7 _
                        rw [← ints_append] at hown7
                        have HO7 := hide hown7
                        have HB7 := hide ((HBQ.out.alloc HBQ.out.size _).trans hbw7)
                        clear hown7 hbw7))
                      go_wp2
                      go_roundw
                      case rel => exact ⟨j + 1, A7, c7, by omega, by go_num, rfl, by rw [HEN2.out, HBT.out]; exact HO7.out, HB7.out⟩
                      case measure => simp [intOf]; omega
                  · obtain rfl : j = n2 := by omega
                    have HEB := hide ((HE3.out.below HBQ.out).more HBQ.out.size)
                    have HLB := hide ((HL3.out.below HBQ.out).more HBQ.out.size)
                    have HRI := hide (Own.ri HOW.out)
                    have H1 : Hid (hitL e l lo k = ((evalR (sigL l (endsB l (bitB k) j)) e).2 && ((evalR (sigL l (endsB l (bitB k) j)) e).1 == lo))) := by
                      show _ = _
                      unfold hitL
                      rw [HLN.out]
                    have H2 : Hid (hitL e l hi k = ((evalR (sigL l (endsB l (bitB k) j)) e).2 && ((evalR (sigL l (endsB l (bitB k) j)) e).1 == hi))) := by
                      show _ = _
                      unfold hitL
                      rw [HLN.out]
                    have HS1 : Hid (anyN (hitL e l lo) (k + 1) = (anyN (hitL e l lo) k || hitL e l lo k)) := rfl
                    have HS2 : Hid (anyN (hitL e l hi) (k + 1) = (anyN (hitL e l hi) k || hitL e l hi k)) := rfl
                    go_wp2_with fail
                    refine (eval_any A c e A2 j c2 l A4 j c4 (endsB l (bitB k) j) wr HEB.out HEN.out HND.out.2.1 HLB.out HLM.out HRN.out HRI.out HLM.out HND.out.2.2).mono ?_
                    rintro en w5 ⟨rfl, hb5⟩
                    have HB5 := hide (HBQ.out.trans (hb5.mono HBQ.out.size))
                    clear hb5 HEB HLB HRI HOW
                    generalize evalR (sigL l (endsB l (bitB k) j)) e = res at H1 H2 ⊢
                    obtain ⟨v, ok⟩ := res
                    dsimp only at H1 H2 ⊢
                    rw [H1.out] at HS1
                    rw [H2.out] at HS2
                    clear H1 H2
                    generalize anyN (hitL e l lo) k = a at HS1 ⊢
                    generalize anyN (hitL e l hi) k = b at HS2 ⊢
                    cases ok
                    · cases a
                      all_goals
                        cases b
                        all_goals
                          go_wp2
                          go_roundw
                          case rel => exact ⟨k + 1, by omega, by go_num, by rw [HS1.out]; rfl, by rw [HS2.out]; rfl, HB5.out⟩
                          case measure => simp [intOf]; omega
                    · cases d1 : (v == lo)
                      all_goals
                        cases d2 : (v == hi)
                        all_goals
                          rw [d1] at HS1
                          rw [d2] at HS2
                          cases a
                          all_goals
                            cases b
                            all_goals
                              go_wp2
                              go_roundw
                              case rel => exact ⟨k + 1, by omega, by go_num, by rw [HS1.out]; rfl, by rw [HS2.out]; rfl, HB5.out⟩
                              case measure => simp [intOf]; omega
              · have hd : decide ((k : Int) < wrap64 ((2 : Int) ^ n2)) = false := decide_eq_false (by rw [hW]; omega)
                have hke : k = 2 ^ n2 := by omega
                have HE1 := HEX.out
                rw [← hke] at HE1
                clear hW hke
                rw [HE1.1, HE1.2]
                clear HE1
                have HBE := hide (HB3.out.trans (HBR.out.mono HB3.out.size))
                go_wp2
                go_ret
                exact ⟨rfl, HBE.out⟩
      · have herr' : (err != 0) = true := bne_iff_ne.2 herr
        go_wp2
        go_ret
        exact ⟨rfl, HB2.out⟩
theorem exact_walk (A : Option Addr) (c : Nat) (e : List Nod) (A2 : Option Addr) (n2 c2 : Nat) (l : List Rng) (w : World) (w0 : ExprAt w w.heap.size A e) (m0 : e.length ≤ maxLen)
    (b0 : ∀ x ∈ e, x.name.size ≤ maxLen ∧ x.kids.length ≤ maxLen ∧ (Lit.int .i64 x.op).wf = true ∧ (Lit.int .i64 x.n).wf = true ∧ ∀ k ∈ x.kids, (Lit.int .i64 k).wf = true) (w1 : RRg w w.heap.size A2 n2 l) (m1 : n2 ≤ maxLen)
    (b1 : ∀ r ∈ l, r.name.size ≤ maxLen ∧ (Lit.int .i64 r.low).wf = true ∧ (Lit.int .i64 r.high).wf = true) :
    Calls Tryd.prog 4 #[.slice A e.length c, .slice A2 n2 c2] w fun en w' => en = .returned (.bool true) ∧ Below w.heap.size w w' :=
  exact_walk_any A c e A2 n2 c2 l w w0 m0 w1 m1 (fun x hx => (b0 x hx).1) (fun r hr => (b1 r hr).1) (fun x hx => (b0 x hx).2.1)
end Go.Proofs.YtnlcfbaaomdjdaaDoor
