/-
  Chapter 3, natural: Add, Int.
-/
import Derived.Test.YtlkgoljpjeieiaaGreatDoorNatF
set_option linter.unusedVariables false
set_option linter.unusedSimpArgs false
namespace Go.Proofs.YtlkgoljpjeieiaaGreatDoor
open Go.RowKit Go.Deep Go.Maps

/-- What an operation on two numbers leaves. -/
def StrPost (V : Nat) (w : World) (en : Ending) (w' : World) : Prop := en = .returned (.tuple #[.string (NS V), .int .i64 0]) ∧ Below w.heap.size w w'
/-- A number as limbs, wherever they lie. -/
def LimAny (V : Nat) (w : World) (en : Ending) (w' : World) : Prop :=
  ∃ A c, en = .returned (.slice A (nlim V) c) ∧ RI w' w'.heap.size A (nlim V) (lim V) ∧ Below w.heap.size w w'
theorem LimPost.any {V : Nat} {w : World} {en : Ending} {w' : World} (h : LimPost V w en w') : LimAny V w en w' := by
  obtain ⟨b, c, e, h1, _, _, h4, _⟩ := h
  exact ⟨_, c, e, h1, h4⟩
set_option maxHeartbeats 1000000 in
set_option maxRecDepth 100000 in
theorem both_any (F a b V : Nat) (w : World) (hen : ∀ args w, (callFunc F args).run Tryz.prog w = .ok (.enter F args) w) (ha : a < 1000000000) (hb : b < 1000000000) (hV : V < 1000000000) (hp : Pow w) (hw : 2 < w.heap.size)
    (hop : ∀ (W : World) (A1 A2 : Option Addr) (c1 c2 : Nat), RI W W.heap.size A1 (nlim a) (lim a) → RI W W.heap.size A2 (nlim b) (lim b) → nlim a ≤ c1 → nlim b ≤ c2 → c1 ≤ maxLen → c2 ≤ maxLen → Calls Tryz.prog F #[.slice A1 (nlim a) c1, .slice A2 (nlim b) c2] W (LimAny V W)) :
    Calls Tryz.prog 39 #[.string (NS a), .string (NS b), .func (.func F) #[] #[]] w (StrPost V w) := by
  have HP := hide hp
  have HOP := hide hop
  clear hp hop
  go_enter Tryz.func39, Tryz.ntmps39
  go_wp2_with fail
  refine (nvalid_any a ha w).mono ?_
  rintro en w1 ⟨rfl, hb1⟩
  have HB1 := hide hb1
  clear hb1
  go_wp2_with fail
  refine (nvalid_any b hb w1).mono ?_
  rintro en w2 ⟨rfl, hb2⟩
  have HB2 := hide (HB1.out.trans (hb2.mono HB1.out.size))
  clear hb2 HB1
  go_wp2_with fail
  refine (read_any a ha w2).mono ?_
  rintro en w3 ⟨b3, c3, rfl, r3, q3, m3, hb3, _⟩
  have HB3 := hide (HB2.out.trans (hb3.mono HB2.out.size))
  have HR3 := hide r3
  clear hb3 r3 HB2
  go_wp2_with fail
  refine (read_any b hb w3).mono ?_
  rintro en w4 ⟨b4, c4, rfl, r4, q4, m4, hb4, _⟩
  have HB4 := hide (HB3.out.trans (hb4.mono HB3.out.size))
  have HR3' := hide (HR3.out.next hb4)
  have HR4 := hide r4
  clear hb4 r4 HB3 HR3
  go_wp2_with fail
  refine (HOP.out w4 _ _ c3 c4 HR3'.out HR4.out q3 q4 m3 m4).mono ?_
  rintro en w5 ⟨A5, c5, rfl, r5, hb5⟩
  have HB5 := hide (HB4.out.trans (hb5.mono HB4.out.size))
  have HR5 := hide r5
  clear hb5 r5 HB4 HR3' HR4 HOP
  go_wp2_with fail
  refine (ltext_any _ c5 V _ w5 HR5.out hV (HP.out.below HB5.out hw) (by have := HB5.out.size; omega)).mono ?_
  rintro en w6 ⟨rfl, hb6⟩
  have HB6 := hide (HB5.out.trans (hb6.mono HB5.out.size))
  clear hb6
  go_wp2
  go_ret2
  exact ⟨rfl, HB6.out⟩
theorem enter_ladd : ∀ args w, (callFunc 40 args).run Tryz.prog w = .ok (.enter 40 args) w := enters_of Tryz.func40 (by kernel_rfl) rfl
theorem nlim_one {N : Nat} (h : N < 1000000000) : nlim N ≤ 1 := nlim_bd (by rw [Nat.pow_one]; exact h)
set_option maxHeartbeats 1000000 in
set_option maxRecDepth 100000 in
theorem nadd_any (a b : Nat) (w : World) (ha : a < 1000000000) (hb : b < 1000000000) (hV : a + b < 1000000000) (hp : Pow w) (hw : 2 < w.heap.size) :
    Calls Tryz.prog 23 #[.string (NS a), .string (NS b)] w (StrPost (a + b) w) := by
  have HC := hide (both_any 40 a b (a + b) w enter_ladd ha hb hV hp hw (fun W A1 A2 c1 c2 h1 h2 _ _ _ _ => (ladd_any A1 A2 c1 c2 a b _ _ W h1 h2 (by have := nlim_one ha; omega) (by have := nlim_one hb; omega)).mono fun _ _ h => h.any))
  clear hp
  go_enter Tryz.func23, Tryz.ntmps23
  go_wp2_with fail
  refine HC.out.mono ?_
  rintro en w1 ⟨rfl, hb1⟩
  go_wp2
  go_ret2
  exact ⟨rfl, hb1⟩
set_option maxHeartbeats 1000000 in
set_option maxRecDepth 100000 in
theorem nint_any (a : Nat) (w : World) (ha : a < 1000000000) :
    Calls Tryz.prog 18 #[.string (NS a)] w fun en w' => en = .returned (.tuple #[.int .i64 a, .int .i64 0]) ∧ Below w.heap.size w w' := by
  go_enter Tryz.func18, Tryz.ntmps18
  go_wp2_with fail
  refine (nvalid_any a ha w).mono ?_
  rintro en w1 ⟨rfl, hb1⟩
  have HB1 := hide hb1
  clear hb1
  go_wp2_with fail
  refine (atoi_any a ha w1).mono ?_
  rintro en w2 ⟨rfl, hb2⟩
  have HB2 := hide (HB1.out.trans (hb2.mono HB1.out.size))
  clear hb2
  go_wp2
  go_ret2
  exact ⟨rfl, HB2.out⟩
end Go.Proofs.YtlkgoljpjeieiaaGreatDoor
