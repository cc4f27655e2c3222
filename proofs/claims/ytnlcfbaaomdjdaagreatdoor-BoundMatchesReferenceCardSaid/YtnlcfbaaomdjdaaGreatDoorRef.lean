/-
  Chapter 22, BoundMatchesReference: the walk.
-/
import Derived.Test.YtnlcfbaaomdjdaaGreatDoorRvB
import Derived.Test.YtnlcfbaaomdjdaaGreatDoorFewA
set_option linter.unusedVariables false
set_option linter.unusedSimpArgs false
namespace Go.Proofs.YtnlcfbaaomdjdaaGreatDoor
open Go.RowKit Go.Deep Go.Maps

set_option maxHeartbeats 8000000 in
set_option maxRecDepth 20000 in
theorem matches_any (A : Option Addr) (c : Nat) (e : List Nod) (A2 : Option Addr) (n2 c2 : Nat) (l : List Rng) (w : World) (he : ExprAt w w.heap.size A e) (hem : e.length ≤ maxLen) (hl : RRg w w.heap.size A2 n2 l) (hln : n2 ≤ maxLen)
    (hen : ∀ x ∈ e, x.name.size ≤ maxLen) (hrn : ∀ r ∈ l, r.name.size ≤ maxLen) (hkn : ∀ x ∈ e, x.kids.length ≤ maxLen) :
    Calls Tryz.prog 3 #[.slice A e.length c, .slice A2 n2 c2] w fun en w' => en = .returned (.bool true) ∧ Below w.heap.size w w' := by
  have HE := hide he
  have HL := hide hl
  have HEN := hide hen
  have HRN := hide hrn
  have HKN := hide hkn
  have HEM := hide hem
  have HLM := hide hln
  unfold maxLen at hem hln
  clear he hl hen hrn hkn
  go_enter Tryz.func3, Tryz.ntmps3
  go_wp2_with fail
  refine (head_any w).mono ?_
  rintro en w1 ⟨rfl, hb1⟩
  have HE1 := hide (HE.out.next hb1)
  have HL1 := hide (HL.out.next hb1)
  go_wp2_with fail
  refine (few_any A c e A2 n2 c2 l w1 HE1.out HEM.out HL1.out HLM.out HEN.out HRN.out HKN.out).mono ?_
  rintro en w2 ⟨rfl, rfl⟩
  cases hfew : fewL e l
  · have HB1 := hide hb1
    clear hb1
    go_wp2
    go_ret
    exact ⟨rfl, HB1.out⟩
  · have HB1 := hide hb1
    clear hfew hb1
    go_wp2_with fail
    refine (bounds_any A c e A2 n2 c2 l w1 HE1.out HEN.out HEM.out HL1.out HLM.out HRN.out).mono ?_
    rintro en w2 ⟨rfl, hb2⟩
    have HE2 := hide (HE1.out.next hb2)
    have HL2 := hide (HL1.out.next hb2)
    have HB2 := hide (HB1.out.trans (hb2.mono HB1.out.size))
    have HCR := hide (refBounds_any A c e A2 n2 c2 l w2 HE2.out HEN.out HEM.out HL2.out HLM.out HRN.out)
    clear hb2 HE1 HL1 HE HL HB1
    obtain ⟨res, hres⟩ : ∃ res, res = boundsL e l := ⟨_, rfl⟩
    rw [← hres] at HCR ⊢
    clear hres
    obtain ⟨lo, hi, err⟩ := res
    dsimp only
    go_wp2_with fail
    refine HCR.out.mono ?_
    rintro en w3 ⟨rfl, hb3⟩
    have HB3 := hide (HB2.out.trans (hb3.mono HB2.out.size))
    clear hb3 HCR
    dsimp only
    go_wp2
    go_ret
    exact ⟨rfl, HB3.out⟩
theorem matches_walk (A : Option Addr) (c : Nat) (e : List Nod) (A2 : Option Addr) (n2 c2 : Nat) (l : List Rng) (w : World) (w0 : ExprAt w w.heap.size A e) (m0 : e.length ≤ maxLen)
    (b0 : ∀ x ∈ e, x.name.size ≤ maxLen ∧ x.kids.length ≤ maxLen ∧ (Lit.int .i64 x.op).wf = true ∧ (Lit.int .i64 x.n).wf = true ∧ ∀ k ∈ x.kids, (Lit.int .i64 k).wf = true) (w1 : RRg w w.heap.size A2 n2 l) (m1 : n2 ≤ maxLen)
    (b1 : ∀ r ∈ l, r.name.size ≤ maxLen ∧ (Lit.int .i64 r.low).wf = true ∧ (Lit.int .i64 r.high).wf = true) :
    Calls Tryz.prog 3 #[.slice A e.length c, .slice A2 n2 c2] w fun en w' => en = .returned (.bool true) ∧ Below w.heap.size w w' :=
  matches_any A c e A2 n2 c2 l w w0 m0 w1 m1 (fun x hx => (b0 x hx).1) (fun r hr => (b1 r hr).1) (fun x hx => (b0 x hx).2.1)
end Go.Proofs.YtnlcfbaaomdjdaaGreatDoor
