/-
  Chapter 28: 'valid' and 'head' of the statements' package.
-/
import Derived.Test.YteknmllcpemnoaaRef
namespace Go.Proofs.Yteknmllcpemnoaa
open Go.RowKit Go.Deep

/-- The weights that 'valid' makes, after k rounds. -/
def valTo (us : List Int) : Nat → List Int
  | 0 => [1]
  | k + 1 => if k = 0 then [1 + nth us 0 % 1000000000] else valTo us k ++ [nth us k % 1000000001]
def valW (us : List Int) : List Int := valTo us (min us.length 30)
theorem valTo_len (us : List Int) (k : Nat) : (valTo us k).length = max 1 k := by
  induction k with
  | zero => rfl
  | succ k ih =>
    simp only [valTo]
    split
    · subst_vars; rfl
    · rw [List.length_append, ih]; simp; omega
theorem valTo_good (us : List Int) (hu : ∀ k, 0 ≤ nth us k) (k : Nat) : badW (valTo us k) = false ∧ 1 ≤ nth (valTo us k) 0 := by
  induction k with
  | zero => exact ⟨by show badW [1] = false; decide, by show 1 ≤ nth [1] 0; decide⟩
  | succ k ih =>
    simp only [valTo]
    have h0 := hu 0
    have hk := hu k
    split
    · constructor
      · simp [badW, outB]; omega
      · show 1 ≤ 1 + nth us 0 % 1000000000
        omega
    · constructor
      · have := ih.1
        simp only [badW, List.any_append, Bool.or_eq_false_iff] at this ⊢
        refine ⟨this, ?_⟩
        simp [outB]; omega
      · have hl : 0 < (valTo us k).length := by rw [valTo_len]; omega
        have : nth (valTo us k ++ [nth us k % 1000000001]) 0 = nth (valTo us k) 0 := by
          simp only [nth, List.getD_eq_getElem?_getD, List.getElem?_append_left hl]
        rw [this]; exact ih.2

/-- A number, and numbers in a row of the call's own. -/
def RetNO (w : World) (x : Int) (zs : List Int) (e : Ending) (w' : World) : Prop :=
  ∃ A c, e = .returned (.tuple #[.int .i64 x, .slice A zs.length c]) ∧ Own w' w.heap.size 3 1 A zs.length c (ints zs) ∧ Below w.heap.size w w'

set_option maxHeartbeats 1000000 in
theorem val_own (A : Option Addr) (n c : Nat) (us : List Int) (raw : Int) (w : World) (h : RK .u32 w w.heap.size A n us) (hn : n ≤ maxLen) (hu : ∀ z ∈ us, 0 ≤ z ∧ z ≤ 4294967295) (hr : 0 ≤ raw ∧ raw ≤ 65535) :
    Calls Try.prog 13 #[.int .u16 raw, .slice A n c] w (RetNO w (raw % 721) (valW us)) := by
  obtain ⟨hr0, hr1⟩ := hr
  unfold maxLen at hn
  have HL := hide h.len
  have HU := hide hu
  clear hu
  have HO := hide (Own.of_lit (base := w.heap.size) (e := 3) (size := 1) w #[.int .i64 1] 1 (Nat.le_refl _) (by simp [maxLen]) rfl)
  have HB0 := hide ((Below.refl w.heap.size w).alloc (Nat.le_refl _) (.cells #[.int .i64 1] 3))
  go_enter Try.func13, Try.ntmps13
  go_wp2
  go_loopw [6, 7] (fun o i wr => ∃ (k : Nat) (A2 : Option Addr) (c2 : Nat), k ≤ n ∧ k ≤ 30 ∧ i = .int .i64 k ∧ o = .slice A2 (max 1 k) c2 ∧ Own wr w.heap.size 3 1 A2 (max 1 k) c2 (ints (valTo us k)) ∧ Below w.heap.size w wr) (fun _ i _ => n - (intOf i).toNat)
  case atStart => exact ⟨0, _, 1, Nat.zero_le _, Nat.zero_le _, rfl, rfl, HO.out, HB0.out⟩
  case round =>
    obtain ⟨k, A2, c2, hk, hk30, rfl, rfl, own, hb⟩ := hrel
    by_cases hlt : k < n ∧ k < 30
    · obtain ⟨hlt, hl30⟩ := hlt
      obtain ⟨b, off, rfl, hbl, hc⟩ := (h.below hb).at_ hlt
      have hux := HU.out (nth us k) (nth_mem (by rw [HL.out]; exact hlt))
      obtain ⟨hux0, hux1⟩ := hux
      by_cases hk0 : k = 0
      · subst hk0
        simp only [Nat.add_zero] at hc
        obtain ⟨g, rfl, hbg, hg, hcg, hfg⟩ := own.at_ (k := 0) (by omega)
        rw [ints_get (by rw [valTo_len]; omega)] at hcg
        have HO2 := hide (own.set 0 (.int .i64 (1 + nth us 0 % 1000000000)))
        clear own
        go_wp2
        go_roundw
        case rel =>
          refine ⟨1, _, c2, by omega, by omega, by go_num, rfl, ?_, hb.setCell hbg _⟩
          exact HO2.out
        case measure => simp [intOf]; omega
      · have hkne : ((k : Int) == 0) = false := by rw [beq_eq_false_iff_ne]; omega
        have HS : Hid (valTo us (k + 1) = valTo us k ++ [nth us k % 1000000001]) := by show _ = _; simp only [valTo]; rw [if_neg hk0]
        have hmax : max 1 k = k := by omega
        have hpos : 0 < k := by omega
        rw [hmax] at own
        rw [hmax]
        clear hmax hk0
        go_wp2_with ((
          at_builtin
          refine wpList_app rfl (.tmp 29) (.tmp 36) _ rfl w.heap.size 3 _ 1 8 Try.underlying22 int_info rfl (by omega) A2 k c2 _ rfl (own.alloc _) (wr.heap.size + 1) (some ⟨wr.heap.size, 0, none⟩) 1 1 [.int .i64 (nth us k % 1000000001)] rfl (reads_new wr #[.int .i64 (nth us k % 1000000001)] 3 1 1 rfl) (by simp [Value.oneCell']) (by unfold maxLen; omega) (by omega) (by simp; exact Nat.le_succ_of_le hb.size) ?_
          intro A3 c3 w4 own4 hb4 _
          rw [← ints_one, ← ints_append, ← HS.out] at own4
          have Own4 := hide own4
          clear own4))
        go_roundw
        case rel =>
          have hm2 : max 1 (k + 1) = k + 1 := by omega
          exact ⟨k + 1, A3, c3, by omega, by omega, by go_num, by rw [hm2], by rw [hm2]; exact Own4.out, (hb.alloc hb.size _).trans hb4⟩
        case measure => simp [intOf]; omega
    · have hkm : k = min us.length 30 := by rw [HL.out]; omega
      have HV : Hid (valW us = valTo us k) := by show _ = _; rw [valW, ← hkm]
      have e1 : (valTo us k).length = max 1 k := valTo_len us k
      clear hkm
      by_cases hlt2 : k < n
      · have h30 : ¬ k < 30 := fun h => hlt ⟨hlt2, h⟩
        clear hlt
        have E1 := hide e1
        clear e1
        go_wp2
        go_ret2
        rw [HV.out]
        exact ⟨A2, c2, by rw [E1.out]; rfl, by rw [E1.out]; exact own, hb⟩
      · clear hlt
        have E1 := hide e1
        clear e1
        go_wp2
        go_ret2
        rw [HV.out]
        exact ⟨A2, c2, by rw [E1.out]; rfl, by rw [E1.out]; exact own, hb⟩
theorem val_any (A : Option Addr) (n c : Nat) (us : List Int) (raw : Int) (w : World) (h : RK .u32 w w.heap.size A n us) (hn : n ≤ maxLen) (hu : ∀ z ∈ us, 0 ≤ z ∧ z ≤ 4294967295) (hr : 0 ≤ raw ∧ raw ≤ 65535) :
    Calls Try.prog 13 #[.int .u16 raw, .slice A n c] w (RetNL w (raw % 721) (valW us)) :=
  (val_own A n c us raw w h hn hu hr).mono fun _ _ ⟨A, c, he, own, hb⟩ => ⟨A, c, he, own.ri, hb⟩
theorem valW_len (us : List Int) : 1 ≤ (valW us).length ∧ (valW us).length ≤ 30 := by
  rw [valW, valTo_len]; omega
theorem valW_good {us : List Int} (hu : ∀ k, 0 ≤ nth us k) : badW (valW us) = false ∧ 1 ≤ nth (valW us) 0 := valTo_good us hu _
theorem shr_valid {ws : List Int} {total : Int} (h1 : 1 ≤ ws.length) (h2 : ws.length ≤ 200) (h3 : badW ws = false) (h4 : 1 ≤ nth ws 0) (h5 : 0 ≤ total) (h6 : total ≤ 720) : shrE total ws = 0 := by
  have ha : ws.all (fun x => decide (x = 0)) = false := by
    cases hc : ws.all (fun x => decide (x = 0))
    · rfl
    · rw [List.all_eq_true] at hc
      have := hc _ (nth_mem (k := 0) (by omega))
      simp at this
      omega
  have a1 : ¬ ws.length < 1 := by omega
  have a2 : ¬ 200 < ws.length := by omega
  have a3 : ¬ total < 0 := by omega
  have a4 : ¬ 720 < total := by omega
  unfold shrE
  rw [if_neg (by simp only [a1, a2, a3, a4, h3]; decide), if_neg (by rw [ha]; simp)]

theorem share_lit (A : Option Addr) (n c : Nat) (ws : List Int) (total : Int) (zs : List Int) (err : Int) (e1 : shrL total ws = zs) (e2 : shrE total ws = err) (w : World) (h : RI w w.heap.size A n ws) (hn : n ≤ 1000) :
    Calls Try.prog 10 #[.int .i64 total, .slice A n c] w (RetLE w zs err) := by
  subst e1 e2; exact share_any A n c ws total w h (by unfold maxLen; omega)
theorem ints_lit (A A' : Option Addr) (n c n' c' : Nat) (xs ys : List Int) (ok : Bool) (e1 : decide (xs = ys) = ok) (w : World) (h : RI w w.heap.size A n xs) (h' : RI w w.heap.size A' n' ys) (hn : n ≤ 1000) (hn' : n' ≤ 1000) :
    Calls Try.prog 12 #[.slice A n c, .slice A' n' c'] w fun e w' => e = .returned (.bool ok) ∧ Below w.heap.size w w' := by
  subst e1; exact (ints_any A A' n c n' c' xs ys w h h' (by unfold maxLen; omega) (by unfold maxLen; omega)).mono fun _ _ ⟨he, m, hm⟩ => ⟨he, hm ▸ drewN_below _ _ _⟩
set_option maxRecDepth 100000 in
set_option maxHeartbeats 1000000 in
theorem head_any (w : World) : Calls Try.prog 9 #[] w fun e w' => e = .returned (.bool true) ∧ Below w.heap.size w w' := by
  go_enter Try.func9, Try.ntmps9
  go_wp2_with fail
  refine (share_lit _ 3 _ [53, 24, 23] 7 [4, 2, 1] 0 (by decide +kernel) (by decide +kernel) _ (by exact RI.lit w [53, 24, 23] 3 3 rfl) (by omega)).mono ?_
  rintro e w1 ⟨A1, c1, rfl, z1, hb1⟩
  have B1 := hide (((Below.refl w.heap.size w).alloc (Nat.le_refl _) _).trans (hb1.mono (by simp)))
  clear hb1
  go_wp2_with fail
  refine (share_lit _ 3 _ [1, 1, 0] 3 [2, 1, 0] 0 (by decide +kernel) (by decide +kernel) _ (by exact RI.lit w1 [1, 1, 0] 3 3 rfl) (by omega)).mono ?_
  rintro e w2 ⟨A2, c2, rfl, z2, hb2⟩
  have B2 := hide ((B1.out.alloc B1.out.size _).trans (hb2.mono (by simp; exact Nat.le_succ_of_le B1.out.size)))
  replace z1 := (z1.allocs _).next hb2
  clear B1 hb2
  go_wp2_with fail
  refine (share_lit _ 2 _ [0, 0] 0 [0, 0] 0 (by decide +kernel) (by decide +kernel) _ (by exact RI.lit w2 [0, 0] 2 3 rfl) (by omega)).mono ?_
  rintro e w3 ⟨A3, c3, rfl, z3, hb3⟩
  have B3 := hide ((B2.out.alloc B2.out.size _).trans (hb3.mono (by simp; exact Nat.le_succ_of_le B2.out.size)))
  replace z1 := (z1.allocs _).next hb3
  replace z2 := (z2.allocs _).next hb3
  clear B2 hb3
  go_wp2_with fail
  refine (share_lit _ 2 _ [0, 0] 1 [] 10 (by decide +kernel) (by decide +kernel) _ (by exact RI.lit w3 [0, 0] 2 3 rfl) (by omega)).mono ?_
  rintro e w4 ⟨A4, c4, rfl, z4, hb4⟩
  have B4 := hide ((B3.out.alloc B3.out.size _).trans (hb4.mono (by simp; exact Nat.le_succ_of_le B3.out.size)))
  replace z1 := (z1.allocs _).next hb4
  replace z2 := (z2.allocs _).next hb4
  replace z3 := (z3.allocs _).next hb4
  clear B3 hb4
  go_wp2_with fail
  refine (ints_lit _ _ 3 _ 3 _ [4, 2, 1] [4, 2, 1] true (by decide +kernel) _ (by exact z1.allocs _) (by exact RI.lit w4 [4, 2, 1] 3 3 rfl) (by omega) (by omega)).mono ?_
  rintro e w5 ⟨rfl, hb5⟩
  have B5 := hide ((B4.out.alloc B4.out.size _).trans (hb5.mono (by simp; exact Nat.le_succ_of_le B4.out.size)))
  replace z1 := (z1.allocs _).next hb5
  replace z2 := (z2.allocs _).next hb5
  replace z3 := (z3.allocs _).next hb5
  clear B4 hb5
  go_wp2_with fail
  refine (ints_lit _ _ 3 _ 3 _ [2, 1, 0] [2, 1, 0] true (by decide +kernel) _ (by exact z2.allocs _) (by exact RI.lit w5 [2, 1, 0] 3 3 rfl) (by omega) (by omega)).mono ?_
  rintro e w6 ⟨rfl, hb6⟩
  have B6 := hide ((B5.out.alloc B5.out.size _).trans (hb6.mono (by simp; exact Nat.le_succ_of_le B5.out.size)))
  replace z1 := (z1.allocs _).next hb6
  replace z2 := (z2.allocs _).next hb6
  replace z3 := (z3.allocs _).next hb6
  clear B5 hb6
  go_wp2_with fail
  refine (ints_lit _ _ 2 _ 2 _ [0, 0] [0, 0] true (by decide +kernel) _ (by exact z3.allocs _) (by exact RI.lit w6 [0, 0] 2 3 rfl) (by omega) (by omega)).mono ?_
  rintro e w7 ⟨rfl, hb7⟩
  have B7 := hide ((B6.out.alloc B6.out.size _).trans (hb7.mono (by simp; exact Nat.le_succ_of_le B6.out.size)))
  replace z1 := (z1.allocs _).next hb7
  replace z2 := (z2.allocs _).next hb7
  replace z3 := (z3.allocs _).next hb7
  clear B6 hb7
  go_wp2
  go_ret
  exact ⟨rfl, B7.out⟩
end Go.Proofs.Yteknmllcpemnoaa
