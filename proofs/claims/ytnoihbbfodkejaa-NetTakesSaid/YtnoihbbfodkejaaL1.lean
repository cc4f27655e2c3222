/-
  Chapter 54: the walk of NetOrder.
-/
import Derived.Test.YtnoihbbfodkejaaPair
import Derived.Test.YtnoihbbfodkejaaL3
namespace Go.Proofs.Ytnoihbbfodkejaa
open Go.RowKit Go.Maps

/-- What waits behind j of the first k texts. -/
def lag (l : List ByteArray) (k j : Nat) : List ByteArray := (l.take k).drop j
theorem lag_len (l : List ByteArray) (k j : Nat) (hk : k ≤ l.length) : (lag l k j).length = k - j := by simp [lag]; omega
theorem lag_next (l : List ByteArray) (k j : Nat) (hk : k < l.length) (hj : j ≤ k) : lag l k j ++ [txt l k] = lag l (k + 1) j := by
  unfold lag
  rw [List.take_succ_eq_append_getElem hk, List.drop_append_of_le_length (by simp; omega)]
  congr 1
  simp [txt, List.getElem?_eq_getElem hk]
theorem lag_head (l : List ByteArray) (k j : Nat) (hk : k ≤ l.length) (hj : j < k) : (lag l k j).getD 0 ByteArray.empty = txt l j := by
  simp [lag, txt, List.getElem?_take, hj]
theorem lag_tail (l : List ByteArray) (k j : Nat) : (lag l k j).eraseIdx 0 = lag l k (j + 1) := by
  unfold lag
  rw [List.eraseIdx_zero, List.tail_drop]
theorem take_txt (l : List ByteArray) (j : Nat) (h : j < l.length) : l.take j ++ [txt l j] = l.take (j + 1) := by
  rw [List.take_succ_eq_append_getElem h]
  simp [txt, List.getElem?_eq_getElem h]

theorem wf_small (x : Int) (h : -1000000 ≤ x ∧ x ≤ 1000000) : (Lit.int .i64 x).wf = true := by
  simp [Lit.wf, IntKind.min, IntKind.max, IntKind.signed, IntKind.bits]
  omega
def L1S (W : World) (p : Nat) (a b : Int) (l : List ByteArray) (k j : Nat) (A : Option Addr) (c : Nat) (F : Nat → Prop) (w : World) : Prop :=
  Pair W p (2 * k) (qs 4 (a, b) (lag l k j)) F 9 1 A j c (strs (l.take j)) w

set_option maxHeartbeats 4000000 in
theorem law1_walk (A0 : Option Addr) (n c0 : Nat) (l : List ByteArray) (ra rb : Int) (A1 : Option Addr) (n1 c1 : Nat) (wh : List Bool) (w : World)
    (h0 : RS w w.heap.size A0 n l) (hn : n ≤ maxLen) (hsz : ∀ s ∈ l, s.size ≤ maxLen) (hra : (Lit.int .u8 ra).wf = true) (hrb : (Lit.int .u8 rb).wf = true)
    (h1 : RB w w.heap.size A1 n1 wh) (hn1 : n1 ≤ maxLen) :
    Calls Try.prog 3 #[.slice A0 n c0, .int .u8 ra, .int .u8 rb, .slice A1 n1 c1] w fun e w' => e = .returned (.bool true) ∧ Below w.heap.size w w' := by
  obtain ⟨a0, a1⟩ := wf_u8 hra
  obtain ⟨b0, b1⟩ := wf_u8 hrb
  clear hra hrb hsz
  unfold maxLen at hn hn1
  have HL : Hid (l.length = n) := h0.len
  have HL1 : Hid (wh.length = n1) := h1.len
  have H0 := hide h0
  have H1 := hide h1
  clear h0 h1
  go_enter Try.func3, Try.ntmps3
  go_wp2_with fail
  refine (head_any w).mono ?_
  rintro e w0 ⟨rfl, bel0⟩
  have B0 := hide bel0
  clear bel0
  have N0 : Hid (RS w0 w0.heap.size A0 n l) := H0.out.next B0.out
  have M0 : Hid (RB w0 w0.heap.size A1 n1 wh) := H1.out.next B0.out
  by_cases h90 : (90 : Int) < (n : Int)
  · go_wp2
    go_ret
    exact ⟨rfl, B0.out⟩
  by_cases hab : ra % 4 = rb % 4
  · have hab' : (ra % 4 == rb % 4) = true := by simp [hab]
    have HAB := hide hab
    clear hab
    go_wp2
    go_ret
    exact ⟨rfl, B0.out⟩
  have hab' : (ra % 4 == rb % 4) = false := by simp [hab]
  have HAB : Hid (knows 4 (ra % 4) (rb % 4) = true) := by show _ = true; simp [knows]; omega
  have HA : Hid ((Lit.int .i64 (ra % 4)).wf = true) := wf_small _ (by omega)
  have HB : Hid ((Lit.int .i64 (rb % 4)).wf = true) := wf_small _ (by omega)
  clear hab
  go_wp2_with fail
  refine (new_ok 4 w0 (by omega)).mono ?_
  rintro e w1 ⟨p, F1, rfl, n1, l1, b1⟩
  have P1 : Hid (∃ F, L1S w p (ra % 4) (rb % 4) l 0 0 none 0 F w1) := by
    rw [qs_new 4 (ra % 4, rb % 4)] at n1
    have : lag l 0 0 = [] := by simp [lag]
    exact ⟨F1, by unfold L1S; rw [this]; exact Pair.start n1 (fun k hk => Nat.le_trans B0.out.size (l1 k hk)) (B0.out.trans (b1.mono B0.out.size)) _ _⟩
  have N1 : Hid (RS w1 w1.heap.size A0 n l) := N0.out.next b1
  clear n1 l1 b1
  go_wp2
  go_loopw [14, 15] (fun v i wr => ∃ (k j : Nat) (A : Option Addr) (c : Nat) (F : Nat → Prop), k ≤ n ∧ j ≤ k ∧ i = .int .i64 k ∧ v = .slice A j c ∧ L1S w p (ra % 4) (rb % 4) l k j A c F wr) (fun _ i _ => n - (intOf i).toNat)
  case atStart => obtain ⟨F, h⟩ := P1.out; exact ⟨0, 0, none, 0, F, Nat.zero_le _, Nat.zero_le _, rfl, rfl, h⟩
  case round =>
    obtain ⟨k, j, A, c, F, hk, hj, rfl, rfl, hp⟩ := hrel
    have HP := hide hp
    clear hp
    have HR : Hid (RS wr wr.heap.size A0 n l) := (H0.out.below HP.out.bel).more HP.out.bel.size
    have HR1 : Hid (RB wr wr.heap.size A1 n1 wh) := (Reads.below H1.out HP.out.bel).more HP.out.bel.size
    by_cases hlt : k < n
    · obtain ⟨b, off, rfl, hb, hc⟩ := HR.out.at_ hlt
      by_cases ht : (100 : Int) < ((txt l k).size : Int)
      · go_wp2
        go_ret
        exact ⟨rfl, HP.out.bel⟩
      · have hts : (txt l k).size ≤ 20000 := by omega
        have hs := qs_send 4 (ra % 4) (rb % 4) (lag l k j) (txt l k) HAB.out hts (by rw [lag_len l k j (by rw [HL.out]; omega)]; omega)
        have he := qs_err 4 (ra % 4) (rb % 4) (lag l k j) (txt l k) HAB.out hts
        rw [if_neg (by rw [lag_len l k j (by rw [HL.out]; omega)]; omega)] at he
        rw [lag_next l k j (by rw [HL.out]; exact hlt) hj] at hs
        have HS := hide hs
        have HE := hide he
        clear hs he hts
        have NL : Hid ((txt l j).size + 1 > 0) := Nat.succ_pos _
        go_wp2_with fail
        refine (send_any p (2 * k) _ F (ra % 4) (rb % 4) (txt l k) wr HP.out.net HA.out HB.out (by unfold maxLen; omega)).mono ?_
        rintro e w2 ⟨rfl, F2, hn2, hg2⟩
        rw [HE.out]
        rw [HS.out] at hn2
        have HP2 : Hid (Pair w p (2 * k + 1) (qs 4 (ra % 4, rb % 4) (lag l (k + 1) j)) F2 9 1 A j c (strs (l.take j)) w2) := HP.out.step hn2 hg2
        have HR2 : Hid (RB w2 w2.heap.size A1 n1 wh) := (Reads.below H1.out HP2.out.bel).more HP2.out.bel.size
        clear hn2 hg2 HS HE HP HR1
        have STAY : Hid (L1S w p (ra % 4) (rb % 4) l (k + 1) j A c F2 w2) := HP2.out.mono (by omega)
        by_cases hk1 : k < n1
        · obtain ⟨b', off', rfl, hb', hc'⟩ := HR2.out.at_ hk1
          cases hw : wh.getD k false
          · rw [hw] at hc'
            have HW := hide hw
            clear hw
            go_wp2_with fail
            go_roundw
            case rel => exact ⟨k + 1, j, A, c, F2, by omega, by omega, by go_num, rfl, STAY.out⟩
            case measure => simp [intOf]; omega
          · rw [hw] at hc'
            have HW := hide hw
            clear hw STAY
            have hd := qs_deliver 4 (ra % 4) (rb % 4) 0 (lag l (k + 1) j) HAB.out false false
            have ho := qs_ok 4 (ra % 4) (rb % 4) 0 (lag l (k + 1) j) HAB.out false
            have hx := qs_text 4 (ra % 4) (rb % 4) 0 (lag l (k + 1) j) HAB.out false
            have hln := lag_len l (k + 1) j (by rw [HL.out]; omega)
            have hin : 0 ≤ (0 : Int) ∧ (0 : Int) < ((lag l (k + 1) j).length : Int) := by omega
            rw [if_pos ⟨hin, .inr rfl⟩] at hd
            have ho2 : (decide (0 ≤ (0 : Int) ∧ (0 : Int) < ((lag l (k + 1) j).length : Int)) && !false) = true := by simp; omega
            rw [ho2] at ho
            rw [if_pos ho2] at hx
            simp only [Int.toNat_zero] at hd hx
            rw [lag_tail] at hd
            rw [lag_head l (k + 1) j (by rw [HL.out]; omega) (by omega)] at hx
            have HD := hide hd
            have HO := hide ho
            have HX := hide hx
            clear hd ho hx hln hin ho2
            go_wp2_with fail
            refine (deliver_any p (2 * k + 1) _ F2 (ra % 4) (rb % 4) 0 false false w2 HP2.out.net HA.out HB.out (by unfold maxLen; omega) (qs_small _ _ _ (by rw [lag_len l (k + 1) j (by rw [HL.out]; omega)]; omega))).mono ?_
            rintro e w3 ⟨rfl, F3, hn3, hg3⟩
            rw [HO.out, HX.out]
            rw [HD.out] at hn3
            have HP3 : Hid (Pair w p (2 * (k + 1)) (qs 4 (ra % 4, rb % 4) (lag l (k + 1) (j + 1))) F3 9 1 A j c (strs (l.take j)) w3) := HP2.out.step hn3 hg3
            clear hn3 hg3 HD HO HX HP2 HR2
            have HN : Hid (Pair w p (2 * (k + 1)) (qs 4 (ra % 4, rb % 4) (lag l (k + 1) (j + 1))) F3 9 1 A j c (strs (l.take j)) (w3.alloc (.cells #[.string (txt l j)] 9))) := HP3.out.below ((Below.refl _ _).alloc (Nat.le_refl _) _)
            have HQ : Hid (strs (l.take j) ++ strs [txt l j] = strs (l.take (j + 1))) := by show _ = _; rw [← strs_append, take_txt l j (by rw [HL.out]; omega)]
            go_wp2_with (at_builtin; refine wpList_app_pair rfl (.tmp 85) (.tmp 87) 22 rfl (.string ByteArray.empty) 16 Try.underlying22 str_info rfl (by omega) rfl HN.out (w3.heap.size + 1) _ 1 1 (strs [txt l j]) rfl (RS.one w3 _) (strs_one _) (by unfold maxLen; omega) (by omega) ?_; intro A2 c2 w4 hp4 _; rw [HQ.out] at hp4; have HP4 := hide hp4; clear hp4)
            go_roundw
            case rel => exact ⟨k + 1, j + 1, A2, c2, F3, by omega, by omega, by go_num, rfl, HP4.out⟩
            case measure => simp [intOf]; omega
        · go_wp2_with fail
          go_roundw
          case rel => exact ⟨k + 1, j, A, c, F2, by omega, by omega, by go_num, rfl, STAY.out⟩
          case measure => simp [intOf]; omega
    · have hkn : k = n := by omega
      subst hkn
      have hw : (qs 4 (ra % 4, rb % 4) (lag l k j)).waiting (ra % 4) (rb % 4) = lag l k j := qs_waiting 4 _ _ _ HAB.out
      have HW := hide hw
      clear hw
      go_wp2_with fail
      refine (waiting_any p (2 * k) _ F (ra % 4) (rb % 4) wr HP.out.net HA.out HB.out (qs_small _ _ _ (by rw [lag_len l k j (by rw [HL.out]; omega)]; omega))).mono ?_
      rw [HW.out]
      rintro e w2 ⟨A2, c2, rfl, hown, hb2⟩
      have HP2 := hide (HP.out.below hb2)
      have HO2 : Hid (RS w2 w2.heap.size A2 (lag l k j).length (lag l k j)) := Own.reads hown
      have HLN : Hid ((lag l k j).length = k - j) := lag_len l k j (by rw [HL.out]; omega)
      have hln : (lag l k j).length ≤ k - j := by rw [HLN.out]; omega
      have HQ : Hid (strs (l.take j) ++ strs (lag l k j) = strs l) := by
        show _ = _
        rw [← strs_append]
        have : lag l k j = l.drop j := by unfold lag; rw [List.take_of_length_le (by rw [HL.out]; omega)]
        rw [this, List.take_append_drop]
      clear hown hb2 HW
      go_wp2_with (at_builtin; refine wpList_app_pairG (by rfl) (.tmp 91) (.tmp 95) 22 rfl (.string ByteArray.empty) 16 Try.underlying22 str_info rfl (by omega) rfl HP2.out _ _ _ _ (strs (lag l k j)) rfl HO2.out (strs_one _) (by unfold maxLen; omega) (by omega) ?_; intro A3 c3 w4 hp4 _; rw [HQ.out] at hp4; have HP4 := hide hp4; clear hp4)
      have hll : decide (l = l) = true := by simp
      refine (texts_any A3 (j + (lag l k j).length) c3 A0 k c0 l l w4 (Own.reads HP4.out.own) ((H0.out.below HP4.out.bel).more HP4.out.bel.size) (by unfold maxLen; omega)).mono ?_
      rintro e w5 ⟨rfl, m, rfl⟩
      rw [hll]
      go_wp2
      go_ret
      exact ⟨rfl, below_drewN HP4.out.bel _⟩
end Go.Proofs.Ytnoihbbfodkejaa
