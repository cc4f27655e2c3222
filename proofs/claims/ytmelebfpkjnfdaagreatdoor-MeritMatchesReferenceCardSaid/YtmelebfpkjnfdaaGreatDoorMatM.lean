/-
  MeritMatchesReference: the walk.
-/
import Derived.Test.YtmelebfpkjnfdaaGreatDoorHeadM
import Derived.Test.YtmelebfpkjnfdaaGreatDoorFewB
import Derived.Test.YtmelebfpkjnfdaaGreatDoorRmE
set_option linter.unusedVariables false
set_option linter.unusedSimpArgs false
namespace Go.Proofs.YtmelebfpkjnfdaaGreatDoor
open Go.RowKit Go.Deep Go.Maps

set_option maxHeartbeats 4000000 in
set_option maxRecDepth 20000 in
theorem matches_any (A : Option Addr) (c : Nat) (e : List Nod) (L : Option Addr) (n cl : Nat) (l : List Vr) (k : Int) (w : World)
    (he : ExprAt w w.heap.size A e) (hem : e.length ≤ maxLen) (hen : ∀ x ∈ e, x.name.size ≤ maxLen) (hkn : ∀ x ∈ e, x.kids.length ≤ maxLen)
    (hl : RVr w w.heap.size L n l) (hln : n ≤ maxLen) (hrn : ∀ r ∈ l, r.name.size ≤ maxLen) :
    Calls Tryz.prog 3 #[.slice A e.length c, .slice L n cl, .int .i64 k] w fun en w' => en = .returned (.bool true) ∧ Below w.heap.size w w' := by
  have HE := hide he
  have HL := hide hl
  have HEM := hide hem
  have HEN := hide hen
  have HKN := hide hkn
  have HLM := hide hln
  have HRN := hide hrn
  unfold maxLen at hem hln
  clear he hl hen hrn hkn
  go_enter Tryz.func3, Tryz.ntmps3
  go_wp2_with fail
  refine (head_any w).mono ?_
  rintro en w1 ⟨rfl, hb1⟩
  have HE1 := hide (HE.out.next hb1)
  have HL1 := hide (HL.out.next hb1)
  have HB1 := hide hb1
  clear hb1 HE HL
  go_wp2_with fail
  refine (few_any A c e L n cl l w1 HE1.out HEM.out HL1.out HLM.out HEN.out HRN.out HKN.out).mono ?_
  rintro en w' ⟨rfl, rfl⟩
  cases hfew : few23 e l
  · clear hfew
    go_wp2
    go_ret
    exact ⟨rfl, HB1.out⟩
  · clear hfew
    go_wp2_with fail
    refine (meritEval_any A c e L n cl l w1 HE1.out HEN.out HEM.out HL1.out HLM.out HRN.out).mono ?_
    rintro en w2 ⟨rfl, hb2⟩
    have HE2 := hide (HE1.out.next hb2)
    have HL2 := hide (HL1.out.next hb2)
    have HB2 := hide (HB1.out.trans (hb2.mono HB1.out.size))
    clear hb2 HE1 HL1 HB1
    go_wp2_with fail
    refine (refEval_any A c e L n cl l w2 HE2.out HEN.out HEM.out HL2.out HLM.out HRN.out).mono ?_
    rintro en w3 ⟨rfl, hb3⟩
    have HB3 := hide (HB2.out.trans (hb3.mono HB2.out.size))
    clear hb3 HE2 HL2 HB2
    generalize evalM e l = r
    obtain ⟨r1, r2⟩ := r
    dsimp only
    go_wp2_with fail
    refine (meritClamp_any k w3).mono ?_
    rintro en w' ⟨rfl, rfl⟩
    go_wp2_with fail
    refine (refClamp_any k w3).mono ?_
    rintro en w' ⟨rfl, rfl⟩
    generalize clampL k = x
    go_wp2
    go_ret
    exact ⟨rfl, HB3.out⟩
theorem matches_walk (A : Option Addr) (c : Nat) (e : List Nod) (L : Option Addr) (n cl : Nat) (l : List Vr) (k : Int) (w : World)
    (w0 : ExprAt w w.heap.size A e) (m0 : e.length ≤ maxLen) (b0 : ∀ x ∈ e, x.name.size ≤ maxLen ∧ x.kids.length ≤ maxLen ∧ (Lit.int .i64 x.op).wf = true ∧ (Lit.int .i64 x.n).wf = true ∧ ∀ k ∈ x.kids, (Lit.int .i64 k).wf = true)
    (w1 : RVr w w.heap.size L n l) (m1 : n ≤ maxLen) (b1 : ∀ r ∈ l, r.name.size ≤ maxLen ∧ (Lit.int .i64 r.val).wf = true) (w2 : (Lit.int .i64 k).wf = true) :
    Calls Tryz.prog 3 #[.slice A e.length c, .slice L n cl, .int .i64 k] w fun en w' => en = .returned (.bool true) ∧ Below w.heap.size w w' :=
  matches_any A c e L n cl l k w w0 m0 (fun x hx => (b0 x hx).1) (fun x hx => (b0 x hx).2.1) w1 m1 (fun r hr => (b1 r hr).1)
end Go.Proofs.YtmelebfpkjnfdaaGreatDoor
