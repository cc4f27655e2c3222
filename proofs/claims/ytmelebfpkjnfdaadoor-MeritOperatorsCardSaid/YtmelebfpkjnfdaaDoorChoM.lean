/-
  MeritChoices: the walk.
-/
import Derived.Test.YtmelebfpkjnfdaaDoorHeadM
import Derived.Test.YtmelebfpkjnfdaaDoorAbv
set_option linter.unusedVariables false
set_option linter.unusedSimpArgs false
namespace Go.Proofs.YtmelebfpkjnfdaaDoor
open Go.RowKit Go.Deep Go.Maps

theorem few23_nil {e : List Nod} (h : few23 e [] = true) : few21 e = true := (few23_out h).1
theorem catL_two (a b : List Nod) : (catL [a, b]).length = a.length + b.length := by simp [catL]
theorem catL_three (a b c : List Nod) : (catL [a, b, c]).length = a.length + b.length + c.length := by simp [catL]; omega
theorem aboveL_len (op : Int) (ps : List (List Nod)) : (aboveL op ps).length = (catL ps).length + 1 := by unfold aboveL; simp
theorem aboveL_names {op : Int} {ps : List (List Nod)} (h : ∀ p ∈ ps, ∀ x ∈ p, x.name.size ≤ maxLen) : ∀ x ∈ aboveL op ps, x.name.size ≤ maxLen := by
  have key : ∀ (l : List (List Nod)) (o : List Nod), (∀ x ∈ o, x.name.size ≤ maxLen) → (∀ p ∈ l, ∀ x ∈ p, x.name.size ≤ maxLen) → ∀ x ∈ l.foldl (fun o p => o ++ p.map (shiftB o.length)) o, x.name.size ≤ maxLen := by
    intro l
    induction l with
    | nil => intro o h _; exact h
    | cons p l ih =>
      intro o h1 h2
      refine ih _ (fun x hx => ?_) (fun q hq => h2 q (List.mem_cons_of_mem _ hq))
      rcases List.mem_append.1 hx with hx | hx
      · exact h1 x hx
      · obtain ⟨y, hy, rfl⟩ := List.mem_map.1 hx
        exact h2 p List.mem_cons_self y hy
  intro x hx
  unfold aboveL at hx
  rcases List.mem_append.1 hx with hx | hx
  · exact key ps [] (fun x hx => absurd hx List.not_mem_nil) h x hx
  · rw [List.mem_singleton.1 hx]
    exact Nat.zero_le _
/-- The parts of an above, in a new block. -/
theorem parts_new (w : World) (ps : List PartT) (n : Nat) (hn : ps.length = n) (cs : Array Value) (hc : cs.toList = ps.map partV) : Reads (w.alloc (Obj.cells cs 23)) (w.alloc (Obj.cells cs 23)).heap.size 1 (some ⟨w.heap.size, 0, none⟩) n (ps.map partV) := by
  have h := reads_new w cs 23 1 n (by rw [← Array.length_toList, hc, List.length_map, hn, Nat.mul_one])
  rw [hc] at h
  exact Reads.more h (by simp)

set_option maxHeartbeats 8000000 in
set_option maxRecDepth 20000 in
theorem choices_any (A : Option Addr) (ca : Nat) (a : List Nod) (B : Option Addr) (cb : Nat) (b : List Nod) (C : Option Addr) (cc : Nat) (c : List Nod) (L : Option Addr) (n cl : Nat) (l : List Vr) (w : World)
    (ha : ExprAt w w.heap.size A a) (hb : ExprAt w w.heap.size B b) (hc : ExprAt w w.heap.size C c) (hl : RVr w w.heap.size L n l) (hln : n ≤ maxLen) (hrn : ∀ r ∈ l, r.name.size ≤ maxLen)
    (ma : a.length ≤ maxLen) (mb : b.length ≤ maxLen) (mc : c.length ≤ maxLen)
    (na : ∀ x ∈ a, x.name.size ≤ maxLen) (nb : ∀ x ∈ b, x.name.size ≤ maxLen) (nc : ∀ x ∈ c, x.name.size ≤ maxLen)
    (ka : ∀ x ∈ a, x.kids.length ≤ maxLen) (kb : ∀ x ∈ b, x.kids.length ≤ maxLen) (kc : ∀ x ∈ c, x.kids.length ≤ maxLen) :
    Calls Tryd.prog 4 #[.slice A a.length ca, .slice B b.length cb, .slice C c.length cc, .slice L n cl] w fun e w' => e = .returned (.bool true) ∧ Below w.heap.size w w' := by
  have HEA := hide ha
  have HEB := hide hb
  have HEC := hide hc
  have HL := hide hl
  have HA := hide (And.intro ma (And.intro na ka))
  have HB := hide (And.intro mb (And.intro nb kb))
  have HC := hide (And.intro mc (And.intro nc kc))
  have HLN := hide hln
  have HRN := hide hrn
  unfold maxLen at ma mb mc hln
  clear ha hb hc hl hrn na nb nc ka kb kc
  go_enter Tryd.func4, Tryd.ntmps4
  go_wp2_with fail
  refine (head_any w).mono ?_
  rintro en w1 ⟨rfl, hb1⟩
  have HE1 := hide (HEA.out.next hb1)
  have HE2 := hide (HEB.out.next hb1)
  have HE3 := hide (HEC.out.next hb1)
  have HL1 := hide (HL.out.next hb1)
  have HB1 := hide hb1
  clear hb1 HEA HEB HEC HL
  go_wp2_with fail
  refine (few_any A ca a L n cl l w1 HE1.out HA.out.1 HL1.out HLN.out HA.out.2.1 HRN.out HA.out.2.2).mono ?_
  rintro en w' ⟨rfl, rfl⟩
  cases hf1 : few23 a l
  · clear hf1
    go_wp2
    go_ret
    exact ⟨rfl, HB1.out⟩
  · have HF1 := hide hf1
    clear hf1
    go_wp2_with fail
    refine (few_any B cb b none 0 0 [] w1 HE2.out HB.out.1 Reads.none_ (by decide) HB.out.2.1 (by simp) HB.out.2.2).mono ?_
    rintro en w' ⟨rfl, rfl⟩
    cases hf2 : few23 b []
    · clear hf2
      go_wp2
      go_ret
      exact ⟨rfl, HB1.out⟩
    · have HF2 := hide hf2
      clear hf2
      go_wp2_with fail
      refine (few_any C cc c none 0 0 [] w1 HE3.out HC.out.1 Reads.none_ (by decide) HC.out.2.1 (by simp) HC.out.2.2).mono ?_
      rintro en w' ⟨rfl, rfl⟩
      cases hf3 : few23 c []
      · clear hf3
        go_wp2
        go_ret
        exact ⟨rfl, HB1.out⟩
      · have HF3 := hide hf3
        clear hf3
        have la := (few23_out HF1.out).2.1
        have lb := (few23_out HF2.out).2.1
        have lc := (few23_out HF3.out).2.1
        by_cases h60 : 60 < a.length + b.length + c.length
        · have d1 : decide ((60 : Int) < (a.length : Int) + (b.length : Int) + (c.length : Int)) = true := decide_eq_true (by omega)
          go_wp2
          go_ret
          exact ⟨rfl, HB1.out⟩
        · have d1 : decide ((60 : Int) < (a.length : Int) + (b.length : Int) + (c.length : Int)) = false := decide_eq_false (by omega)
          have H60 := hide h60
          clear h60
          go_wp2_with fail
          refine (meritEval_any A ca a L n cl l w1 HE1.out HA.out.2.1 HA.out.1 HL1.out HLN.out HRN.out).mono ?_
          rintro en w2 ⟨rfl, hb2⟩
          have HG1 := hide (HE1.out.next hb2)
          have HG2 := hide (HE2.out.next hb2)
          have HG3 := hide (HE3.out.next hb2)
          have HL2 := hide (HL1.out.next hb2)
          have HB2 := hide (HB1.out.trans (hb2.mono HB1.out.size))
          clear hb2 HE1 HE2 HE3 HL1 HB1
          obtain ⟨ra, hra⟩ : ∃ r, r = evalM a l := ⟨_, rfl⟩
          rw [← hra]
          have HRA := hide hra.symm
          obtain ⟨xa, ea⟩ := ra
          dsimp only
          clear hra
          go_wp2_with fail
          refine (meritEval_any B cb b L n cl l w2 HG2.out HB.out.2.1 HB.out.1 HL2.out HLN.out HRN.out).mono ?_
          rintro en w3 ⟨rfl, hb3⟩
          have HE1 := hide (HG1.out.next hb3)
          have HE2 := hide (HG2.out.next hb3)
          have HE3 := hide (HG3.out.next hb3)
          have HL3 := hide (HL2.out.next hb3)
          have HB3 := hide (HB2.out.trans (hb3.mono HB2.out.size))
          clear hb3 HG1 HG2 HG3 HL2 HB2
          obtain ⟨rb, hrb⟩ : ∃ r, r = evalM b l := ⟨_, rfl⟩
          rw [← hrb]
          have HRB := hide hrb.symm
          obtain ⟨xb, eb⟩ := rb
          dsimp only
          clear hrb
          go_wp2_with fail
          refine (meritEval_any C cc c L n cl l w3 HE3.out HC.out.2.1 HC.out.1 HL3.out HLN.out HRN.out).mono ?_
          rintro en w4 ⟨rfl, hb4⟩
          have HG1 := hide (HE1.out.next hb4)
          have HG2 := hide (HE2.out.next hb4)
          have HG3 := hide (HE3.out.next hb4)
          have HL4 := hide (HL3.out.next hb4)
          have HB4 := hide (HB3.out.trans (hb4.mono HB3.out.size))
          clear hb4 HE1 HE2 HE3 HL3 HB3
          obtain ⟨rc, hrc⟩ : ∃ r, r = evalM c l := ⟨_, rfl⟩
          rw [← hrc]
          have HRC := hide hrc.symm
          obtain ⟨xc, ec⟩ := rc
          dsimp only
          clear hrc
          have HPN := hide (parts_new w4 [(A, ca, a), (B, cb, b), (C, cc, c)] 3 rfl #[.slice A a.length ca, .slice B b.length cb, .slice C c.length cc] rfl)
          have hb5 : Below w4.heap.size w4 (w4.alloc (Obj.cells #[.slice A a.length ca, .slice B b.length cb, .slice C c.length cc] 23)) := (Below.refl _ _).alloc (Nat.le_refl _) _
          have HE1 := hide (HG1.out.next hb5)
          have HE2 := hide (HG2.out.next hb5)
          have HE3 := hide (HG3.out.next hb5)
          have HL5 := hide (HL4.out.next hb5)
          have HB5 := hide (HB4.out.trans (hb5.mono HB4.out.size))
          clear hb5 HG1 HG2 HG3 HL4 HB4
          go_wp2_with fail
          generalize w4.alloc (Obj.cells #[.slice A a.length ca, .slice B b.length cb, .slice C c.length cc] 23) = w5 at HPN HE1 HE2 HE3 HL5 HB5 ⊢
          refine (above_any 9 _ 3 3 [(A, ca, a), (B, cb, b), (C, cc, c)] w5 HPN.out (by
              intro p hp
              simp only [List.mem_cons, List.not_mem_nil, or_false] at hp
              rcases hp with rfl | rfl | rfl
              · exact HE1.out
              · exact HE2.out
              · exact HE3.out) (by
              show (catL [a, b, c]).length ≤ 10000
              rw [catL_three]
              have := H60.out
              omega) (by
              intro p hp x hx
              simp only [List.mem_cons, List.not_mem_nil, or_false] at hp
              rcases hp with rfl | rfl | rfl
              · have := ((few23_out HF1.out).2.2.1 x hx).1; omega
              · have := ((few23_out HF2.out).2.2.1 x hx).1; omega
              · have := ((few23_out HF3.out).2.2.1 x hx).1; omega) (by omega)).mono ?_
          rintro en w6 ⟨A6, c6, rfl, hex, hb6⟩
          have hnm : ∀ x ∈ aboveL 9 [a, b, c], x.name.size ≤ maxLen := aboveL_names (by
            intro p hp x hx
            simp only [List.mem_cons, List.not_mem_nil, or_false] at hp
            rcases hp with rfl | rfl | rfl
            · exact HA.out.2.1 x hx
            · exact HB.out.2.1 x hx
            · exact HC.out.2.1 x hx)
          have hwl : (aboveL 9 [a, b, c]).length ≤ maxLen := by
            rw [aboveL_len, catL_three]
            have := H60.out
            unfold maxLen
            omega
          have HWE : Hid (ExprAt w6 w6.heap.size A6 (aboveL 9 [a, b, c])) := hide hex
          have HL6 := hide (HL5.out.next hb6)
          have HB6 := hide (HB5.out.trans (hb6.mono HB5.out.size))
          have HNM := hide hnm
          have HWL := hide hwl
          have HPL : Hid (ea = 0 → eb = 0 → ec = 0 → validL (aboveL 9 [a, b, c]) = true → evalM (aboveL 9 [a, b, c]) l = (if 0 < xa then xb else xc, 0)) := hide (fun h1 h2 h3 hv => by
            subst h1 h2 h3
            have va := (evalM_ok HRA.out).2.1
            have vb := (evalM_ok HRB.out).2.1
            have vc := (evalM_ok HRC.out).2.1
            have h60 := H60.out
            rw [above3_eq 9 (smallK_of va) (smallK_of vb) (smallK_of vc) (by omega)] at hv ⊢
            exact above3_plain HRA.out HRB.out HRC.out hv)
          show _
          simp only [List.map_cons, List.map_nil]
          clear hex hb6 hnm hwl HPN HE1 HE2 HE3 HL5 HB5
          generalize aboveL 9 [a, b, c] = ws at HWE HNM HWL HPL ⊢
          have hwl : ws.length ≤ 9223372036854775807 := by have := HWL.out; unfold maxLen at this; omega
          by_cases ha0 : ea = 0
          · by_cases hb0 : eb = 0
            · by_cases hc0 : ec = 0
              · subst ha0 hb0 hc0
                go_wp2_with fail
                refine (valid_any A6 c6 ws w6 HWE.out HNM.out HWL.out).mono ?_
                rintro en w7 ⟨rfl, hb7⟩
                have HW7 := hide (HWE.out.next hb7)
                have HL7 := hide (HL6.out.next hb7)
                have HB7 := hide (HB6.out.trans (hb7.mono HB6.out.size))
                clear hb7 HWE HL6 HB6
                cases hv : validL ws
                · clear hv
                  go_wp2
                  go_ret
                  exact ⟨rfl, HB7.out⟩
                · have hev := HPL.out (by trivial) (by trivial) (by trivial) hv
                  have HEV := hide hev
                  clear hv hev
                  go_wp2_with fail
                  refine (meritEval_any A6 c6 ws L n cl l w7 HW7.out HNM.out HWL.out HL7.out HLN.out HRN.out).mono ?_
                  rintro en w8 ⟨rfl, hb8⟩
                  rw [HEV.out]
                  dsimp only
                  have HB8 := hide (HB7.out.trans (hb8.mono HB7.out.size))
                  clear hb8 HW7 HL7 HB7 HEV HPL
                  by_cases hx : 0 < xa
                  · rw [if_pos hx]
                    have d2 : decide (0 < xa) = true := decide_eq_true hx
                    go_wp2
                    go_ret
                    exact ⟨rfl, HB8.out⟩
                  · rw [if_neg hx]
                    have d2 : decide (0 < xa) = false := decide_eq_false hx
                    have d3 : decide (xa ≤ 0) = true := decide_eq_true (by omega)
                    go_wp2
                    go_ret
                    exact ⟨rfl, HB8.out⟩
              · subst ha0 hb0
                have hc' : (ec != 0) = true := bne_iff_ne.2 hc0
                go_wp2
                go_ret
                exact ⟨rfl, HB6.out⟩
            · subst ha0
              have hb' : (eb != 0) = true := bne_iff_ne.2 hb0
              go_wp2
              go_ret
              exact ⟨rfl, HB6.out⟩
          · have ha' : (ea != 0) = true := bne_iff_ne.2 ha0
            go_wp2
            go_ret
            exact ⟨rfl, HB6.out⟩
theorem choices_walk (A : Option Addr) (ca : Nat) (a : List Nod) (B : Option Addr) (cb : Nat) (b : List Nod) (C : Option Addr) (cc : Nat) (c : List Nod) (L : Option Addr) (n cl : Nat) (l : List Vr) (w : World)
    (w0 : ExprAt w w.heap.size A a) (m0 : a.length ≤ maxLen) (b0 : ∀ x ∈ a, x.name.size ≤ maxLen ∧ x.kids.length ≤ maxLen ∧ (Lit.int .i64 x.op).wf = true ∧ (Lit.int .i64 x.n).wf = true ∧ ∀ k ∈ x.kids, (Lit.int .i64 k).wf = true)
    (w1 : ExprAt w w.heap.size B b) (m1 : b.length ≤ maxLen) (b1 : ∀ x ∈ b, x.name.size ≤ maxLen ∧ x.kids.length ≤ maxLen ∧ (Lit.int .i64 x.op).wf = true ∧ (Lit.int .i64 x.n).wf = true ∧ ∀ k ∈ x.kids, (Lit.int .i64 k).wf = true)
    (w2 : ExprAt w w.heap.size C c) (m2 : c.length ≤ maxLen) (b2 : ∀ x ∈ c, x.name.size ≤ maxLen ∧ x.kids.length ≤ maxLen ∧ (Lit.int .i64 x.op).wf = true ∧ (Lit.int .i64 x.n).wf = true ∧ ∀ k ∈ x.kids, (Lit.int .i64 k).wf = true)
    (w3 : RVr w w.heap.size L n l) (m3 : n ≤ maxLen) (b3 : ∀ r ∈ l, r.name.size ≤ maxLen ∧ (Lit.int .i64 r.val).wf = true) :
    Calls Tryd.prog 4 #[.slice A a.length ca, .slice B b.length cb, .slice C c.length cc, .slice L n cl] w fun e w' => e = .returned (.bool true) ∧ Below w.heap.size w w' :=
  choices_any A ca a B cb b C cc c L n cl l w w0 w1 w2 w3 m3 (fun r hr => (b3 r hr).1) m0 m1 m2 (fun x hx => (b0 x hx).1) (fun x hx => (b1 x hx).1) (fun x hx => (b2 x hx).1) (fun x hx => (b0 x hx).2.1) (fun x hx => (b1 x hx).2.1) (fun x hx => (b2 x hx).2.1)
end Go.Proofs.YtmelebfpkjnfdaaDoor
