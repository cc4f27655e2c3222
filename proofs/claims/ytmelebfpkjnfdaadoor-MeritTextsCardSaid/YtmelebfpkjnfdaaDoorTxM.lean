/-
  MeritTexts: the walk.
-/
import Derived.Test.YtmelebfpkjnfdaaDoorHeadM
import Derived.Test.YtmelebfpkjnfdaaDoorMeE
import Derived.Test.YtmelebfpkjnfdaaDoorFewB
import Derived.Test.YtmelebfpkjnfdaaDoorExpP
import Derived.Test.YtmelebfpkjnfdaaDoorTxz
set_option linter.unusedVariables false
set_option linter.unusedSimpArgs false
namespace Go.Proofs.YtmelebfpkjnfdaaDoor
open Go.RowKit Go.Deep Go.Maps

set_option maxHeartbeats 8000000 in
set_option maxRecDepth 20000 in
theorem texts_any (A : Option Addr) (ca : Nat) (a : List Nod) (L : Option Addr) (n cl : Nat) (l : List Vr) (w : World)
    (ha : ExprAt w w.heap.size A a) (hl : RVr w w.heap.size L n l) (hln : n ≤ maxLen) (hrn : ∀ r ∈ l, r.name.size ≤ maxLen)
    (ma : a.length ≤ maxLen) (na : ∀ x ∈ a, x.name.size ≤ maxLen) (ka : ∀ x ∈ a, x.kids.length ≤ maxLen) (ht : Pow w) :
    Calls Tryd.prog 6 #[.slice A a.length ca, .slice L n cl] w fun e w' => e = .returned (.bool true) ∧ Below w.heap.size w w' := by
  have HEA := hide ha
  have HL := hide hl
  have HA := hide (And.intro ma (And.intro na ka))
  have HLN := hide hln
  have HRN := hide hrn
  have HP := hide ht
  unfold maxLen at ma hln
  clear ha hl hrn na ka ht
  go_enter Tryd.func6, Tryd.ntmps6
  go_wp2_with fail
  refine (head_any w).mono ?_
  rintro en w1 ⟨rfl, hb1⟩
  have HE1 := hide (HEA.out.next hb1)
  have HL1 := hide (HL.out.next hb1)
  have HB1 := hide hb1
  have HP1 := hide (HP.out.below hb1 HP.out.pos)
  clear hb1 HEA HL
  go_wp2_with fail
  refine (few_any A ca a L n cl l w1 HE1.out HA.out.1 HL1.out HLN.out HA.out.2.1 HRN.out HA.out.2.2).mono ?_
  rintro en w' ⟨rfl, rfl⟩
  cases hf1 : few23 a l
  · clear hf1
    go_wp2
    go_ret
    exact ⟨rfl, HB1.out⟩
  · have HF1 := hide hf1
    clear hf1
    go_wp2_with fail
    refine (valid_any A ca a w1 HE1.out HA.out.2.1 HA.out.1).mono ?_
    rintro en w2 ⟨rfl, hb2⟩
    have HE2 := hide (HE1.out.next hb2)
    have HL2 := hide (HL1.out.next hb2)
    have HB2 := hide (HB1.out.trans (hb2.mono HB1.out.size))
    have HP2 := hide (HP1.out.below hb2 HP1.out.pos)
    clear hb2 HE1 HL1 HB1 HP1
    cases hv : validL a
    · clear hv
      go_wp2
      go_ret
      exact ⟨rfl, HB2.out⟩
    · have HV := hide hv
      obtain ⟨t, hg, hat, hts, _⟩ := valid_tree hv
      have HT := hide hat
      have HG := hide hg
      have hsl := str_len t hg 1
      clear hv hat hg
      go_wp2_with fail
      refine (text_valid A ca a w2 HE2.out HA.out.2.1 HP2.out HG.out HT.out HV.out).mono ?_
      rintro en w3 ⟨rfl, hb3⟩
      have HE3 := hide (HE2.out.next hb3)
      have HL3 := hide (HL2.out.next hb3)
      have HB3 := hide (HB2.out.trans (hb3.mono HB2.out.size))
      clear hb3 HE2 HL2 HB2 HP2
      have HPI := hide (parse_text HG.out (by rw [← HT.out]; exact HV.out))
      have hps : (⟨(t.str 1).toArray⟩ : ByteArray).size ≤ maxLen := by
        show (t.str 1).toArray.size ≤ _
        rw [List.size_toArray]
        unfold maxLen
        omega
      have HPS := hide hps
      clear hps
      go_wp2_with fail
      refine (parse_any _ w3 HPS.out HPI.out).mono ?_
      rintro en w4 ⟨A4, c4, rfl, he4, hn4, hl4, hb4⟩
      have HE4 := hide he4
      have HN4 := hide hn4
      have HF4 := hide (HE3.out.next hb4)
      have HL4 := hide (HL3.out.next hb4)
      have HB4 := hide (HB3.out.trans (hb4.mono HB3.out.size))
      clear hb4 HE3 HL3 HB3 he4 hn4
      dsimp only
      go_wp2_with fail
      refine (meritEval_any A ca a L n cl l w4 HF4.out HA.out.2.1 HA.out.1 HL4.out HLN.out HRN.out).mono ?_
      rintro en w5 ⟨rfl, hb5⟩
      have HE5 := hide (HE4.out.next hb5)
      have HL5 := hide (HL4.out.next hb5)
      have HB5 := hide (HB4.out.trans (hb5.mono HB4.out.size))
      clear hb5 HE4 HL4 HB4 HF4
      obtain ⟨ra, hra⟩ : ∃ r, r = evalM a l := ⟨_, rfl⟩
      rw [← hra]
      have HRA : Hid (evalM (t.flat 0) l = ra) := hide (by rw [← HT.out]; exact hra.symm)
      obtain ⟨xa, ea⟩ := ra
      dsimp only
      clear hra
      have HL4 : Hid ((t.flat 0).length ≤ maxLen) := hide (by unfold maxLen; omega)
      go_wp2_with fail
      refine (meritEval_any A4 c4 (t.flat 0) L n cl l w5 HE5.out HN4.out HL4.out HL5.out HLN.out HRN.out).mono ?_
      rintro en w6 ⟨rfl, hb6⟩
      have HB6 := hide (HB5.out.trans (hb6.mono HB5.out.size))
      clear hb6
      rw [HRA.out]
      dsimp only
      go_wp2
      go_ret
      exact ⟨rfl, HB6.out⟩
theorem texts_walk (A : Option Addr) (ca : Nat) (a : List Nod) (L : Option Addr) (n cl : Nat) (l : List Vr) (w : World) (ht : Pow w)
    (w0 : ExprAt w w.heap.size A a) (m0 : a.length ≤ maxLen) (b0 : ∀ x ∈ a, x.name.size ≤ maxLen ∧ x.kids.length ≤ maxLen ∧ (Lit.int .i64 x.op).wf = true ∧ (Lit.int .i64 x.n).wf = true ∧ ∀ k ∈ x.kids, (Lit.int .i64 k).wf = true)
    (w3 : RVr w w.heap.size L n l) (m3 : n ≤ maxLen) (b3 : ∀ r ∈ l, r.name.size ≤ maxLen ∧ (Lit.int .i64 r.val).wf = true) :
    Calls Tryd.prog 6 #[.slice A a.length ca, .slice L n cl] w fun e w' => e = .returned (.bool true) ∧ Below w.heap.size w w' :=
  texts_any A ca a L n cl l w w0 w3 m3 (fun r hr => (b3 r hr).1) m0 (fun x hx => (b0 x hx).1) (fun x hx => (b0 x hx).2.1) ht
end Go.Proofs.YtmelebfpkjnfdaaDoor
