/-
  Chapter 3, natural: Gcd, Div.
-/
import Derived.Test.YtlkgoljpjeieiaaGreatDoorNatH
set_option linter.unusedVariables false
set_option linter.unusedSimpArgs false
namespace Go.Proofs.YtlkgoljpjeieiaaGreatDoor
open Go.RowKit Go.Deep Go.Maps

theorem ldiv_any (A1 A2 : Option Addr) (c1 c2 a b : Nat) (w : World) (h1 : RI w w.heap.size A1 (nlim a) (lim a)) (h2 : RI w w.heap.size A2 (nlim b) (lim b)) (ha : a < 1000000000) (hb : b < 1000000000) (hb0 : b ≠ 0) :
    Calls Tryz.prog 56 #[.slice A1 (nlim a) c1, .slice A2 (nlim b) c2] w (DivPost (a / b) (a % b) w) := by
  by_cases ha0 : a = 0
  · subst ha0
    rw [nlim_zero, Nat.zero_div, Nat.zero_mod]
    exact ldiv_zero A1 A2 c1 c2 _ w
  · have e := nlim_small (n := a) ha ha0
    rw [e] at h1 ⊢
    exact ldiv_pos A1 A2 c1 c2 a b _ w h1 h2 ha ha0 hb hb0
/-- The number that a slice of at most one limb holds. -/
def lnum (w : World) (v : Value) : Nat := match v with
  | .slice (some ad) n _ => if n = 0 then 0 else match w.cell? ad with
    | some (.int _ z) => z.toNat
    | _ => 0
  | _ => 0
theorem lnum_is {w : World} {A : Option Addr} {c Y : Nat} (h : RI w w.heap.size A (nlim Y) (lim Y)) (hY : Y < 1000000000) : lnum w (.slice A (nlim Y) c) = Y := by
  by_cases h0 : Y = 0
  · subst h0
    rw [nlim_zero]
    unfold lnum
    cases A <;> simp
  · have e := nlim_small (n := Y) hY h0
    rw [e, lim_small hY h0] at h
    obtain ⟨b, off, rfl, _, g⟩ := h.at_ (k := 0) (by omega)
    have g : w.cell? ⟨b, off, none⟩ = some (.int .i64 Y) := g
    rw [e]
    simp [lnum, g]
set_option maxHeartbeats 1000000 in
set_option maxRecDepth 100000 in
theorem gcdf_any (A1 A2 : Option Addr) (c1 c2 a b : Nat) (w : World) (h1 : RI w w.heap.size A1 (nlim a) (lim a)) (h2 : RI w w.heap.size A2 (nlim b) (lim b)) (ha : a < 1000000000) (hb : b < 1000000000) :
    Calls Tryz.prog 83 #[.slice A1 (nlim a) c1, .slice A2 (nlim b) c2] w (LimAny (Nat.gcd a b) w) := by
  have H1 := hide h1
  have H2 := hide h2
  clear h1 h2
  go_enter Tryz.func83, Tryz.ntmps83
  go_wp2
  go_loopw [0, 1] (fun t0 t1 wr => ∃ (X Y : Nat) (A c A' c' : _), t0 = .slice A (nlim X) c ∧ t1 = .slice A' (nlim Y) c' ∧ RI wr wr.heap.size A (nlim X) (lim X) ∧ RI wr wr.heap.size A' (nlim Y) (lim Y) ∧ X < 1000000000 ∧ Y < 1000000000 ∧ Nat.gcd X Y = Nat.gcd a b ∧ Below w.heap.size w wr) (fun _ t1 wr => lnum wr t1)
  case atStart => exact ⟨a, b, A1, c1, A2, c2, rfl, rfl, H1.out, H2.out, ha, hb, rfl, Below.refl _ _⟩
  case round =>
    clear H1 H2
    obtain ⟨X, Y, A, c, A', c', rfl, rfl, hx, hy, hX, hY, hg, hbr⟩ := hrel
    have HX := hide hx
    have HY := hide hy
    have HG := hide hg
    have HB := hide hbr
    have HLN := hide (lnum_is (c := c') hy hY)
    clear hx hy hg hbr
    by_cases h0 : Y = 0
    · subst h0
      have hr : Nat.gcd a b = X := by rw [← HG.out, Nat.gcd_zero_right]
      have HR := hide hr
      rw [nlim_zero]
      clear hr HLN
      go_wp2
      go_ret
      exact ⟨A, c, by rw [HR.out]; rfl, by rw [HR.out]; exact HX.out, HB.out⟩
    · have e := nlim_small (n := Y) hY h0
      have HE := hide e
      have HD := hide (ldiv_any A A' c c' X Y wr HX.out HY.out hX hY h0)
      have hlt : X % Y < Y := Nat.mod_lt _ (by omega)
      have HGN : Hid (Nat.gcd Y (X % Y) = Nat.gcd a b) := hide (by rw [← HG.out, Nat.gcd_comm Y, ← Nat.gcd_rec, Nat.gcd_comm])
      rw [e] at HD HY HLN ⊢
      clear e
      go_wp2_with fail
      refine HD.out.mono ?_
      rintro en w2 ⟨Aq, cq, Ar, cr, rfl, rq, rr, _, _, _, _, hb2⟩
      have HR := hide rr
      have HB2 := hide (HB.out.trans (hb2.mono HB.out.size))
      have HY2 := hide (HY.out.next hb2)
      have HLR := hide (lnum_is (c := cr) rr (by omega))
      clear rq rr hb2 HD
      go_wp2
      go_roundw
      case rel => exact ⟨Y, X % Y, A', c', Ar, cr, by rw [HE.out], rfl, by rw [HE.out]; exact HY2.out, HR.out, hY, by omega, HGN.out, HB2.out⟩
      case measure => rw [HLR.out, HLN.out]; exact hlt
theorem enter_gcd : ∀ args w, (callFunc 83 args).run Tryz.prog w = .ok (.enter 83 args) w := enters_of Tryz.func83 (by kernel_rfl) rfl
set_option maxHeartbeats 1000000 in
set_option maxRecDepth 100000 in
theorem ngcd_any (a b : Nat) (w : World) (ha : a < 1000000000) (hb : b < 1000000000) (hV : Nat.gcd a b < 1000000000) (hp : Pow w) :
    Calls Tryz.prog 54 #[.string (NS a), .string (NS b)] w (StrPost (Nat.gcd a b) w) := by
  have HC := hide (both_any 83 a b (Nat.gcd a b) w enter_gcd ha hb hV hp hp.lt (fun W A1 A2 c1 c2 h1 h2 _ _ _ _ => gcdf_any A1 A2 c1 c2 a b W h1 h2 ha hb))
  clear hp
  go_enter Tryz.func54, Tryz.ntmps54
  go_wp2_with fail
  refine HC.out.mono ?_
  rintro en w1 ⟨rfl, hb1⟩
  go_wp2
  go_ret2
  exact ⟨rfl, hb1⟩
theorem ns_eq (n k : Nat) : ((NS n).toList == (NS k).toList) = decide (n = k) := by
  rw [ns_bytes, ns_bytes]
  by_cases h : n = k
  · rw [h, decide_eq_true rfl]
    exact beq_self_eq_true _
  · rw [decide_eq_false h]
    exact beq_eq_false_iff_ne.2 (fun e => h (dec_inj e))
theorem ns_is0 (n : Nat) : ((NS n).toList == [48]) = decide (n = 0) := by
  have := ns_eq n 0
  rw [show (NS 0).toList = [48] from by rw [ns_zero, Go.Lib.toList_data]] at this
  exact this
set_option maxHeartbeats 1000000 in
set_option maxRecDepth 100000 in
theorem ndiv_any (a b : Nat) (w : World) (ha : a < 1000000000) (hb : b < 1000000000) (hb0 : b ≠ 0) (hp : Pow w) :
    Calls Tryz.prog 37 #[.string (NS a), .string (NS b)] w fun en w' => en = .returned (.tuple #[.string (NS (a / b)), .string (NS (a % b)), .int .i64 0]) ∧ Below w.heap.size w w' := by
  have HP := hide hp
  have e0 : ((NS b).toList == [48]) = false := by rw [ns_is0]; exact decide_eq_false hb0
  have HLT := hide (And.intro (Nat.lt_of_le_of_lt (Nat.div_le_self a b) ha) (Nat.lt_of_le_of_lt (Nat.mod_le a b) ha))
  clear hp
  go_enter Tryz.func37, Tryz.ntmps37
  go_wp2_with fail
  refine (nvalid_any a ha w).mono ?_
  rintro en w1 ⟨rfl, hb1⟩
  have HB1 := hide hb1
  clear hb1
  go_wp2_with fail
  refine (nvalid_any b hb w1).mono ?_
  rintro en w2 ⟨rfl, hb2⟩
  have HB2 := hide (HB1.out.trans (hb2.mono HB1.out.size))
  clear hb2 HB1
  go_wp2_with fail
  refine (read_any a ha w2).mono ?_
  rintro en w3 ⟨b3, c3, rfl, r3, q3, m3, hb3, _⟩
  have HB3 := hide (HB2.out.trans (hb3.mono HB2.out.size))
  have HR3 := hide r3
  clear hb3 r3 HB2
  go_wp2_with fail
  refine (read_any b hb w3).mono ?_
  rintro en w4 ⟨b4, c4, rfl, r4, q4, m4, hb4, _⟩
  have HB4 := hide (HB3.out.trans (hb4.mono HB3.out.size))
  have HD := hide (ldiv_any (some ⟨b3, 0, none⟩) (some ⟨b4, 0, none⟩) c3 c4 a b w4 (HR3.out.next hb4) r4 ha hb hb0)
  clear hb4 r4 HB3 HR3
  go_wp2_with fail
  refine HD.out.mono ?_
  rintro en w5 ⟨Aq, cq, Ar, cr, rfl, rq, rr, _, _, _, _, hb5⟩
  have HB5 := hide (HB4.out.trans (hb5.mono HB4.out.size))
  have HQ := hide rq
  have HR := hide rr
  clear hb5 rq rr HB4 HD
  have HT1 := hide (ltext_any Aq cq (a / b) _ w5 HQ.out HLT.out.1 (HP.out.below HB5.out HP.out.lt) (by have := HB5.out.size; have := HP.out.lt; omega))
  go_wp2_with fail
  refine HT1.out.mono ?_
  rintro en w6 ⟨rfl, hb6⟩
  have HB6 := hide (HB5.out.trans (hb6.mono HB5.out.size))
  have HR6 := hide (HR.out.next hb6)
  have HT2 := hide (ltext_any Ar cr (a % b) _ w6 HR6.out HLT.out.2 (HP.out.below HB6.out HP.out.lt) (by have := HB6.out.size; have := HP.out.lt; omega))
  clear hb6 HT1 HQ HR HB5
  go_wp2_with fail
  refine HT2.out.mono ?_
  rintro en w7 ⟨rfl, hb7⟩
  have HB7 := hide (HB6.out.trans (hb7.mono HB6.out.size))
  clear hb7
  go_wp2
  refine bodyPost_ret (v := .tuple #[.string (NS (a / b)), .string (NS (a % b)), .int .i64 0]) (by simp [results, Tryz.results37, go_sem]) rfl ?_
  exact ⟨rfl, HB7.out⟩
end Go.Proofs.YtlkgoljpjeieiaaGreatDoor
