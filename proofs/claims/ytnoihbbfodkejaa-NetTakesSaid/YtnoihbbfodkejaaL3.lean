/-
  Chapter 54: the walk of NetFull.
-/
import Derived.Test.YtnoihbbfodkejaaHead2
import Derived.Test.YtnoihbbfodkejaaPlain
namespace Go.Proofs.Ytnoihbbfodkejaa
open Go.RowKit Go.Maps

theorem wf_u8 {x : Int} (h : (Lit.int .u8 x).wf = true) : 0 ≤ x ∧ x ≤ 255 := by
  simp only [Lit.wf, Bool.and_eq_true, IntKind.min, IntKind.max] at h
  simpa [IntKind.signed, IntKind.bits] using h

set_option maxHeartbeats 4000000 in
theorem law3_walk (raw : Int) (t : ByteArray) (w : World) (hr : (Lit.int .u8 raw).wf = true) (ht : t.size ≤ maxLen) :
    Calls Try.prog 5 #[.int .u8 raw, .string t] w fun e w' => e = .returned (.bool true) ∧ Below w.heap.size w w' := by
  obtain ⟨r0, r1⟩ := wf_u8 hr
  clear ht hr
  go_enter Try.func5, Try.ntmps5
  go_wp2_with fail
  refine (head_any w).mono ?_
  rintro e w0 ⟨rfl, b0⟩
  have B0 := hide b0
  clear b0
  go_wp2_with fail
  refine (new_ok 2 w0 (by omega)).mono ?_
  rintro e w1 ⟨p, F1, rfl, n1, l1, b1⟩
  have N1 : Hid (NetAt w1 p 0 (qs 2 (1, 0) (fullL t 0)) F1) := by rw [qs_new 2 (1, 0)] at n1; exact n1
  have L1 : Hid (∀ k, F1 k → w.heap.size ≤ k) := fun k hk => Nat.le_trans B0.out.size (l1 k hk)
  have B1 : Hid (Below w.heap.size w w1) := B0.out.trans (b1.mono B0.out.size)
  clear n1 l1 b1 B0
  by_cases h100 : (100 : Int) < (t.size : Int)
  · go_wp2
    go_ret
    exact ⟨rfl, B1.out⟩
  · have hsz : t.size ≤ 20000 := by omega
    have HT := hide hsz
    clear hsz
    go_wp2
    obtain ⟨K, hK, hK1⟩ : ∃ K : Nat, raw % 130 = (K : Int) ∧ K < 130 := ⟨(raw % 130).toNat, by omega, by omega⟩
    rw [hK]
    clear hK
    go_loopw [9] (fun i wr => ∃ (k : Nat) (F : Nat → Prop), k ≤ K ∧ i = .int .i64 k ∧ NetAt wr p k (qs 2 (1, 0) (fullL t k)) F ∧ (∀ j, F j → w.heap.size ≤ j) ∧ Below w.heap.size w wr) (fun i _ => K - (intOf i).toNat)
    case atStart => exact ⟨0, F1, Nat.zero_le _, rfl, N1.out, L1.out, B1.out⟩
    case round =>
      obtain ⟨k, F, hk, rfl, hn, hl, hb⟩ := hrel
      have HN := hide hn
      have HL := hide hl
      have HB := hide hb
      clear hn hl hb
      by_cases hlt : k < K
      · have NX : Hid (∀ w2, ∀ F', NetAt w2 p (k + 1) ((qs 2 (1, 0) (fullL t k)).send 1 0 t) F' → NetGo F F' wr w2 → NetAt w2 p (k + 1) (qs 2 (1, 0) (fullL t (k + 1))) F' ∧ (∀ j, F' j → w.heap.size ≤ j) ∧ Below w.heap.size w w2) := by
          intro w2 F' h1 h2
          obtain ⟨b1, l1⟩ := h2.below HB.out.size HL.out
          rw [fullL_next t HT.out k] at h1
          exact ⟨h1, l1, HB.out.trans b1⟩
        by_cases h1 : 100 ≤ k
        · have he : (qs 2 (1, 0) (fullL t k)).sendErr 1 0 t = 29 := by rw [fullL_err t HT.out, if_pos h1]
          have h1' : ¬ (k : Int) < 100 := by omega
          have HE := hide he
          clear he
          go_wp2_with fail
          refine (send_any p k _ F 1 0 t wr HN.out (by decide) (by decide) (by unfold maxLen; omega)).mono ?_
          rintro e w2 ⟨rfl, F', h2, h3⟩
          rw [HE.out]
          have HX := hide (NX.out w2 F' h2 h3)
          clear h2 h3 NX
          go_wp2
          go_roundw
          case rel => exact ⟨k + 1, F', by omega, by go_num, HX.out⟩
          case measure => simp [intOf]; omega
        · have he : (qs 2 (1, 0) (fullL t k)).sendErr 1 0 t = 0 := by rw [fullL_err t HT.out, if_neg h1]
          have h1' : (k : Int) < 100 := by omega
          have HE := hide he
          clear he
          go_wp2_with fail
          refine (send_any p k _ F 1 0 t wr HN.out (by decide) (by decide) (by unfold maxLen; omega)).mono ?_
          rintro e w2 ⟨rfl, F', h2, h3⟩
          rw [HE.out]
          have HX := hide (NX.out w2 F' h2 h3)
          clear h2 h3 NX
          go_wp2
          go_roundw
          case rel => exact ⟨k + 1, F', by omega, by go_num, HX.out⟩
          case measure => simp [intOf]; omega
      · have hkK : k = K := by omega
        subst hkK
        have hw : (qs 2 (1, 0) (fullL t k)).waiting 1 0 = fullL t k := qs_waiting 2 1 0 _ (by decide)
        have HW := hide hw
        have he : (qs 2 (1, 0) (fullL t k)).sendErr 0 1 t = 0 := qs_err' 2 1 0 0 1 _ t (by decide) HT.out (by decide)
        have HE := hide he
        have hlen : Hid ((fullL t k).length = min k 100) := by show (fullL t k).length = _; simp [fullL]
        clear hw he
        go_wp2_with fail
        refine (waiting_any p k _ F 1 0 wr HN.out (by decide) (by decide) (fullL_small t k)).mono ?_
        rw [HW.out]
        rintro e w2 ⟨A, c, rfl, _, hb2⟩
        rw [hlen.out]
        have N2 := hide (HN.out.below hb2)
        have B2 := hide (HB.out.trans (hb2.mono HB.out.size))
        clear hb2 HN HB
        have hmin : ((min k 100 : Nat) : Int) = min (k : Int) 100 := by omega
        have hmb : (((min k 100 : Nat) : Int) == min (k : Int) 100) = true := by simp [hmin]
        go_wp2_with fail
        all_goals (refine (send_any p k _ F 0 1 t w2 N2.out (by decide) (by decide) (by unfold maxLen; omega)).mono ?_; rintro e w3 ⟨rfl, F', h2, h3⟩; rw [HE.out]; have BX := hide (B2.out.trans (h3.below B2.out.size HL.out).1); clear h2 h3; go_wp2; go_ret; exact ⟨rfl, BX.out⟩)
end Go.Proofs.Ytnoihbbfodkejaa
