/-
  Chapter 54: the walk of NetTakes.
-/
import Derived.Test.YtnoihbbfodkejaaPair
import Derived.Test.YtnoihbbfodkejaaL1
import Derived.Deep.RegionLaw
import Derived.IntWalk
import Derived.Deep.RegionHeld3
namespace Go.Proofs.Ytnoihbbfodkejaa
open Go.RowKit Go.Maps

theorem qs_snoc (l : List ByteArray) (k : Nat) (hk : k < l.length) (h90 : l.length ≤ 90) (ht : (txt l k).size ≤ 100) :
    (qs 2 (1, 0) (l.take k)).send 1 0 (txt l k) = qs 2 (1, 0) (l.take (k + 1)) ∧ (qs 2 (1, 0) (l.take k)).sendErr 1 0 (txt l k) = 0 := by
  have hl : (l.take k).length = k := by simp; omega
  refine ⟨?_, ?_⟩
  · rw [qs_send 2 1 0 _ _ (by decide) (by omega) (by rw [hl]; omega), take_txt l k hk]
  · rw [qs_err 2 1 0 _ _ (by decide) (by omega), hl, if_neg (by omega)]

set_option maxHeartbeats 4000000 in
theorem law2_walk (A0 : Option Addr) (n c0 : Nat) (l : List ByteArray) (which : Int) (again : Bool) (w : World)
    (h0 : RS w w.heap.size A0 n l) (hn : n ≤ maxLen) (hsz : ∀ s ∈ l, s.size ≤ maxLen) (hcap : n ≤ c0) (hwi : (Lit.int .i64 which).wf = true) :
    Calls Try.prog 4 #[.slice A0 n c0, .int .i64 which, .bool again] w fun e w' => e = .returned (.bool true) ∧ Below w.heap.size w w' := by
  clear hsz
  unfold maxLen at hn
  have HL : Hid (l.length = n) := h0.len
  have H0 := hide h0
  have HWI := hide hwi
  clear h0 hwi
  go_enter Try.func4, Try.ntmps4
  go_wp2_with fail
  refine (head_any w).mono ?_
  rintro e w0 ⟨rfl, bel0⟩
  have B0 := hide bel0
  clear bel0
  go_wp2_with fail
  refine (new_ok 2 w0 (by omega)).mono ?_
  rintro e w1 ⟨p, F1, rfl, n1, l1, b1⟩
  have P1 : Hid (NetAt w1 p 0 (qs 2 (1, 0) (l.take 0)) F1 ∧ (∀ k, F1 k → w.heap.size ≤ k) ∧ Below w.heap.size w w1) := by
    rw [qs_new 2 (1, 0)] at n1
    rw [List.take_zero]
    exact ⟨n1, fun k hk => Nat.le_trans B0.out.size (l1 k hk), B0.out.trans (b1.mono B0.out.size)⟩
  clear n1 l1 b1
  by_cases h90 : (90 : Int) < (n : Int)
  · go_wp2
    go_ret
    exact ⟨rfl, P1.out.2.2⟩
  go_wp2
  go_loopw [10] (fun i wr => ∃ (k : Nat) (F : Nat → Prop), k ≤ n ∧ i = .int .i64 k ∧ NetAt wr p k (qs 2 (1, 0) (l.take k)) F ∧ (∀ k, F k → w.heap.size ≤ k) ∧ Below w.heap.size w wr) (fun i _ => n - (intOf i).toNat)
  case atStart => exact ⟨0, F1, Nat.zero_le _, rfl, P1.out⟩
  case round =>
    obtain ⟨k, F, hk, rfl, hp⟩ := hrel
    have HP := hide hp
    clear hp
    have HR : Hid (RS wr wr.heap.size A0 n l) := (H0.out.below HP.out.2.2).more HP.out.2.2.size
    by_cases hlt : k < n
    · obtain ⟨b, off, rfl, hb, hc⟩ := HR.out.at_ hlt
      by_cases ht : (100 : Int) < ((txt l k).size : Int)
      · go_wp2
        go_ret
        exact ⟨rfl, HP.out.2.2⟩
      · obtain ⟨hs, he⟩ := qs_snoc l k (by rw [HL.out]; exact hlt) (by rw [HL.out]; omega) (by omega)
        have HS := hide hs
        have HE := hide he
        clear hs he
        go_wp2_with fail
        refine (send_any p k _ F 1 0 (txt l k) wr HP.out.1 (by decide) (by decide) (by unfold maxLen; omega)).mono ?_
        rintro e w2 ⟨rfl, F2, hn2, hg2⟩
        rw [HE.out]
        rw [HS.out] at hn2
        have HX : Hid ((∀ k, F2 k → w.heap.size ≤ k) ∧ Below w.heap.size w w2) := ⟨(hg2.below HP.out.2.2.size HP.out.2.1).2, HP.out.2.2.trans (hg2.below HP.out.2.2.size HP.out.2.1).1⟩
        have HN2 := hide hn2
        clear hn2 hg2 HS HE HP
        go_wp2_with fail
        go_roundw
        case rel => exact ⟨k + 1, F2, by omega, by go_num, HN2.out, HX.out⟩
        case measure => simp [intOf]; omega
    · have hkn : k = n := by omega
      subst hkn
      have hlk : l.take k = l := List.take_of_length_le (by rw [HL.out]; omega)
      rw [hlk] at HP
      have hd := qs_deliver 2 1 0 which l (by decide) false again
      have ho := qs_ok 2 1 0 which l (by decide) false
      have hx := qs_text 2 1 0 which l (by decide) false
      rw [HL.out] at hd ho hx
      have hsm : (qs 2 (1, 0) l).Small := qs_small _ _ _ (by rw [HL.out]; omega)
      have HSM := hide hsm
      clear hsm hlk
      by_cases hin : 0 ≤ which ∧ which < (k : Int)
      · obtain ⟨j, rfl, hj⟩ : ∃ j : Nat, which = (j : Int) ∧ j < k := ⟨which.toNat, by omega, by omega⟩
        have hin' : (decide (0 ≤ (j : Int) ∧ (j : Int) < (k : Int)) && !false) = true := by simp; omega
        rw [hin'] at ho
        rw [if_pos hin'] at hx
        rw [Int.toNat_natCast] at hx hd
        have hxt : l.getD j ByteArray.empty = txt l j := rfl
        rw [hxt] at hx
        have htl := toList_eq (txt l j)
        clear hin' hxt
        cases again
        · rw [if_pos ⟨hin, .inr rfl⟩] at hd
          have HD := hide hd
          have HO := hide ho
          have HX := hide hx
          clear hd ho hx hin
          go_wp2_with fail
          refine (deliver_any p k _ F 1 0 (j : Int) false false wr HP.out.1 (by decide) (by decide) (by unfold maxLen; omega) HSM.out).mono ?_
          rintro e w2 ⟨rfl, F2, hn2, hg2⟩
          rw [HO.out, HX.out]
          rw [HD.out] at hn2
          have HB2 : Hid (Below w.heap.size w w2) := HP.out.2.2.trans (hg2.below HP.out.2.2.size HP.out.2.1).1
          have HN2 := hide hn2
          clear hn2 hg2
          have hle : (l.eraseIdx j).length = k - 1 := by rw [List.length_eraseIdx]; rw [HL.out]; simp [hj]
          have HLE := hide hle
          clear hle
          go_wp2_with fail
          refine (waiting_any p (k + 1) _ F2 1 0 w2 HN2.out (by decide) (by decide) (qs_small _ _ _ (by rw [HLE.out]; omega))).mono ?_
          rw [qs_waiting 2 1 0 _ (by decide)]
          rintro e w3 ⟨A2, c2, rfl, hown, hb3⟩
          rw [HLE.out] at hown ⊢
          have HO3 : Hid (RS w3 w3.heap.size A2 (k - 1) (l.eraseIdx j)) := Own.reads hown
          have HB3 : Hid (Below w.heap.size w w3) := HB2.out.trans (hb3.mono HB2.out.size)
          have HR3 : Hid (RS w3 w3.heap.size A0 k l) := (H0.out.below HB3.out).more HB3.out.size
          clear hown hb3 HN2 HB2 HP HR
          obtain ⟨b, off, rfl, hb, hc⟩ := HR3.out.at_ hj
          have hj0 : (j : Int) < (k : Int) := by omega
          have hj1 : (0 : Int) ≤ (j : Int) := by omega
          go_wp2_with fail
          have hc0 : j ≤ c0 := by omega
          have hc0' : (j : Int) ≤ (c0 : Int) := by omega
          have hkc : (k : Int) ≤ (c0 : Int) := by omega
          have k1 : IntKind.i64.wrap ((j : Int) + 1) = (j : Int) + 1 := IntWalk.i64_in _ (by omega)
          have k2 : (0 : Int) ≤ (j : Int) + 1 := by omega
          have k3 : (j : Int) + 1 ≤ (k : Int) := by omega
          have k4 : ((j : Int) + 1).toNat = j + 1 := by omega
          have q1 : Reads w3 w3.heap.size 1 (some ⟨b, off, none⟩) j (strs (l.take j)) := by
            refine ⟨by rw [strs_length, List.length_take]; rw [HL.out]; omega, fun hn => ?_⟩
            obtain ⟨ad, e, h1, h2⟩ := HR3.out.2 (by omega)
            refine ⟨ad, e, h1, fun i u hu => h2 i u ?_⟩
            unfold strs at hu ⊢
            rw [List.map_take, List.getElem?_take] at hu
            split at hu
            · exact hu
            · cases hu
          obtain ⟨AX, hAX, q2⟩ : ∃ AX, (if c0 = j + 1 then some (⟨b, off, none⟩ : Addr) else some ⟨b, off + (j + 1), none⟩) = AX ∧ Reads w3 w3.heap.size 1 AX (k - (j + 1)) (strs (l.drop (j + 1))) := by
            refine ⟨_, rfl, ?_⟩
            have q := Reads.cut HR3.out (k := j + 1) (cap := c0) (by omega) (by omega)
            simp only [Option.map_some, Nat.mul_one, add_lit] at q
            rw [show (strs l).drop (j + 1) = strs (l.drop (j + 1)) by simp [strs, List.map_drop]] at q
            exact q
          have Q1 := hide q1
          have Q2 := hide q2
          clear q1 q2
          have hX : Own (w3.alloc (.cells #[] 9)) w3.heap.size 9 1 (some ⟨w3.heap.size, 0, none⟩) 0 0 [] := Own.of_lit w3 #[] 0 (Nat.le_refl _) (Nat.zero_le _) rfl
          have HX0 := hide hX
          have HBX : Hid (Below w3.heap.size w3 (w3.alloc (.cells #[] 9)).drew) := below_drewN (((Below.refl w3.heap.size w3).alloc (Nat.le_refl _) (.cells #[] 9))) 1
          have HSZ : Hid (w3.heap.size ≤ (w3.alloc (.cells #[] 9)).drew.heap.size) := HBX.out.size
          have hE : l.take j ++ l.drop (j + 1) = l.eraseIdx j := (List.eraseIdx_eq_take_drop_succ l j).symm
          have HE := hide hE
          have HC := hide hc
          clear hX hE
          go_region_held3 (fun w' => w'.cell? ⟨b, off + j, none⟩ = some (.string (txt l j))) (first | go_keep | exact SK4.out | exact SK5.out | exact SK6.out)
            (first
              | (refine step_app (by rfl) (.tmp 118) (.tmp 121) 22 rfl w3.heap.size 9 (.string ByteArray.empty) 1 16 Try.underlying22 str_info rfl (by omega) _ 0 0 [] rfl HX0.out w3.heap.size _ j _ (strs (l.take j)) rfl (Q1.out.below HBX.out) (strs_one _) (by unfold maxLen; omega) (by omega) HSZ.out ?_; intro A4 c4 w4 hown4 hb4; have HB4 := hide (HBX.out.trans hb4); have HO4 := hide hown4; have SK4 := hide ((HB4.out.cell (p := ⟨b, off + j, none⟩) hb).trans HC.out); clear hown4 hb4)
              | (refine step_app (by rfl) (.tmp 122) (.tmp 126) 22 rfl w3.heap.size 9 (.string ByteArray.empty) 1 16 Try.underlying22 str_info rfl (by omega) A4 (0 + j) c4 _ rfl HO4.out w3.heap.size _ _ _ (strs (l.drop (j + 1))) rfl (Q2.out.below HB4.out) (strs_one _) (by unfold maxLen; omega) (by omega) HB4.out.size ?_; intro A5 c5 w5 hown5 hb5; have HB5 := hide (HB4.out.trans hb5); have HO5 := hide hown5; have SK5 := hide ((HB5.out.cell (p := ⟨b, off + j, none⟩) hb).trans HC.out); clear hown5 hb5)
              | (go_at_call 14; refine (texts_any _ _ _ _ _ _ (l.eraseIdx j) (l.eraseIdx j) _ (by exact ((HO3.out.below HB5.out).more HB5.out.size)) (by have := Own.reads HO5.out; rw [List.nil_append, ← strs_append, HE.out, Nat.zero_add] at this; exact this) (by unfold maxLen; omega)).mono ?_; rintro e w6 ⟨rfl, m, rfl⟩; have SK6 : Hid ((w5.drewN m).cell? ⟨b, off + j, none⟩ = some (.string (txt l j))) := SK5.out))
          go_wp2
          go_ret
          exact ⟨by simp, below_drewN (HB3.out.trans (HB5.out.mono HB3.out.size)) _⟩
        · rw [if_neg (by simp)] at hd
          have HD := hide hd
          have HO := hide ho
          have HX := hide hx
          clear hd ho hx hin
          go_wp2_with fail
          refine (deliver_any p k _ F 1 0 (j : Int) false true wr HP.out.1 (by decide) (by decide) (by unfold maxLen; omega) HSM.out).mono ?_
          rintro e w2 ⟨rfl, F2, hn2, hg2⟩
          rw [HO.out, HX.out]
          rw [HD.out] at hn2
          have HB2 : Hid (Below w.heap.size w w2) := HP.out.2.2.trans (hg2.below HP.out.2.2.size HP.out.2.1).1
          have HN2 := hide hn2
          clear hn2 hg2
          go_wp2_with fail
          refine (waiting_any p (k + 1) _ F2 1 0 w2 HN2.out (by decide) (by decide) HSM.out).mono ?_
          rw [qs_waiting 2 1 0 l (by decide)]
          rintro e w3 ⟨A2, c2, rfl, hown, hb3⟩
          rw [HL.out] at hown ⊢
          have HO3 : Hid (RS w3 w3.heap.size A2 k l) := Own.reads hown
          have HB3 : Hid (Below w.heap.size w w3) := HB2.out.trans (hb3.mono HB2.out.size)
          have HR3 : Hid (RS w3 w3.heap.size A0 k l) := (H0.out.below HB3.out).more HB3.out.size
          clear hown hb3 HN2 HB2 HP HR
          obtain ⟨b, off, rfl, hb, hc⟩ := HR3.out.at_ hj
          have hj0 : (j : Int) < (k : Int) := by omega
          have hj1 : (0 : Int) ≤ (j : Int) := by omega
          go_wp2_with fail
          have hll : decide (l = l) = true := by simp
          refine (texts_any A2 k c2 _ k c0 l l w3 HO3.out HR3.out (by unfold maxLen; omega)).mono ?_
          rintro e w5 ⟨rfl, m, rfl⟩
          rw [hll]
          go_wp2
          go_ret
          exact ⟨rfl, below_drewN HB3.out _⟩
      · rw [if_neg (fun h => hin h.1)] at hd
        have hin' : (decide (0 ≤ which ∧ which < (k : Int)) && !false) = false := by simp; omega
        rw [hin'] at ho
        rw [if_neg (by rw [hin']; decide)] at hx
        have HD := hide hd
        have HO := hide ho
        have HX := hide hx
        clear hd ho hx hin'
        go_wp2_with fail
        refine (deliver_any p k _ F 1 0 which false again wr HP.out.1 (by decide) (by decide) (by unfold maxLen; omega) HSM.out).mono ?_
        rintro e w2 ⟨rfl, F2, hn2, hg2⟩
        rw [HO.out, HX.out]
        rw [HD.out] at hn2
        have HB2 : Hid (Below w.heap.size w w2) := HP.out.2.2.trans (hg2.below HP.out.2.2.size HP.out.2.1).1
        have HN2 := hide hn2
        clear hn2 hg2
        go_wp2_with fail
        refine (waiting_any p (k + 1) _ F2 1 0 w2 HN2.out (by decide) (by decide) HSM.out).mono ?_
        rw [qs_waiting 2 1 0 l (by decide)]
        rintro e w3 ⟨A2, c2, rfl, hown, hb3⟩
        rw [HL.out] at hown ⊢
        have HO3 : Hid (RS w3 w3.heap.size A2 k l) := Own.reads hown
        have HB3 : Hid (Below w.heap.size w w3) := HB2.out.trans (hb3.mono HB2.out.size)
        have HR3 : Hid (RS w3 w3.heap.size A0 k l) := (H0.out.below HB3.out).more HB3.out.size
        clear hown hb3 HN2 HB2 HP HR
        by_cases hneg : which < 0
        · go_wp2_with fail
          have hll : decide (l = l) = true := by simp
          refine (texts_any A2 k c2 _ k c0 l l w3 HO3.out HR3.out (by unfold maxLen; omega)).mono ?_
          rintro e w5 ⟨rfl, m, rfl⟩
          rw [hll]
          go_wp2
          go_ret
          exact ⟨rfl, below_drewN HB3.out _⟩
        · have hge : (k : Int) ≤ which := by omega
          go_wp2_with fail
          have hll : decide (l = l) = true := by simp
          refine (texts_any A2 k c2 _ k c0 l l w3 HO3.out HR3.out (by unfold maxLen; omega)).mono ?_
          rintro e w5 ⟨rfl, m, rfl⟩
          rw [hll]
          go_wp2
          go_ret
          exact ⟨rfl, below_drewN HB3.out _⟩
end Go.Proofs.Ytnoihbbfodkejaa
