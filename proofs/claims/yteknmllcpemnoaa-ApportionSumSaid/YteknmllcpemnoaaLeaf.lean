/-
  Chapter 28, the leaves: before, best, Share's closure, slices.ContainsFunc, slices.Max, Ints.
-/
import Derived.Test.YteknmllcpemnoaaModel
import Derived.Test.YteknmllcpemnoaaChecked
import Derived.Deep.QuietTactic
import Derived.BigQuiet
import Derived.StillTailTactics
import Derived.Deep.OwnRows
namespace Go.Proofs.Yteknmllcpemnoaa
open Go.RowKit Go.Deep

theorem before_any (a b c d : Int) (w : World) (h1 : 0 ≤ b ∧ b ≤ 1000) (h2 : 0 ≤ d ∧ d ≤ 1000) (h3 : 0 ≤ a * (d + 1) ∧ a * (d + 1) ≤ 1001000000000) (h4 : 0 ≤ c * (b + 1) ∧ c * (b + 1) ≤ 1001000000000) :
    Calls Try.prog 18 #[.agg #[.int .i64 a, .int .i64 b], .agg #[.int .i64 c, .int .i64 d]] w fun e w' => e = .returned (.bool (decide (c * (b + 1) < a * (d + 1)))) ∧ Below w.heap.size w w' := by
  obtain ⟨h1a, h1b⟩ := h1
  obtain ⟨h2a, h2b⟩ := h2
  obtain ⟨h3a, h3b⟩ := h3
  obtain ⟨h4a, h4b⟩ := h4
  go_enter Try.func18, Try.ntmps18
  go_wp2
  go_ret
  exact ⟨rfl, ((Below.refl _ _).alloc (Nat.le_refl _) _).alloc (by simp) _⟩

/-- Block g holds the parties: weights w, seats s. -/
def Parties (W : World) (g : Nat) (w s : List Int) : Prop :=
  W.rowIs g 42 (2 * w.length) fun j => .int .i64 (if j % 2 = 0 then nth w (j / 2) else nth s (j / 2))
theorem Parties.weight {W : World} {g : Nat} {w s : List Int} (h : Parties W g w s) {k : Nat} (hk : k < w.length) : W.cell? ⟨g, k * 2, none⟩ = some (.int .i64 (nth w k)) := by
  have := h.cell (i := k * 2) (by omega)
  rw [this, if_pos (by omega), show k * 2 / 2 = k by omega]
theorem Parties.seats {W : World} {g : Nat} {w s : List Int} (h : Parties W g w s) {k : Nat} (hk : k < w.length) : W.cell? ⟨g, k * 2 + 1, none⟩ = some (.int .i64 (nth s k)) := by
  have := h.cell (i := k * 2 + 1) (by omega)
  rw [this, if_neg (by omega), show (k * 2 + 1) / 2 = k by omega]
theorem Parties.below {W W' : World} {g : Nat} {w s : List Int} (h : Parties W g w s) {B : Nat} (hg : g < B) (hb : Below B W W') : Parties W' g w s := h.of_block (hb.block g hg)

set_option maxHeartbeats 1000000 in
theorem best_any (g n c : Nat) (ws ss : List Int) (w : World) (h : Parties w g ws ss) (hl : ws.length = n) (hn0 : 0 < n) (hn : n ≤ 200) (hw : badW ws = false) (hs : ∀ k, 0 ≤ nth ss k ∧ nth ss k ≤ 1000) :
    Calls Try.prog 17 #[.slice (some ⟨g, 0, none⟩) n c, .func (.func 18) #[] #[]] w
      fun e w' => e = .returned (.int .i64 (best ws ss : Nat)) ∧ Below w.heap.size w w' := by
  have HL := hide hl
  have HW := hide hw
  have HS := hide hs
  have hg := h.lt
  clear hl hw hs
  go_enter Try.func17, Try.ntmps17
  go_wp2
  go_loopw [5, 10] (fun k j wr => ∃ i : Nat, i ≤ n ∧ j = .int .i64 i ∧ k = .int .i64 (bestTo ws ss i : Nat) ∧ Below w.heap.size w wr) (fun _ j _ => n - (intOf j).toNat)
  case atStart => exact ⟨0, Nat.zero_le _, rfl, rfl, Below.refl _ _⟩
  case round =>
    obtain ⟨i, hi, rfl, rfl, hb⟩ := hrel
    have hp := h.below hg hb
    by_cases hlt : i < n
    · have hbl : bestTo ws ss i < n := bestTo_le ws ss i n hi hn0
      have c1 := hp.weight (k := i) (by rw [HL.out]; exact hlt)
      have c2 := hp.seats (k := i) (by rw [HL.out]; exact hlt)
      have c3 := hp.weight (k := bestTo ws ss i) (by rw [HL.out]; exact hbl)
      have c4 := hp.seats (k := bestTo ws ss i) (by rw [HL.out]; exact hbl)
      have hgr := hp.lt
      go_wp2
      have e1 : (wr.alloc (.cells #[.int .i64 (nth ws i), .int .i64 (nth ss i)] 42)).cell? ⟨wr.heap.size, 0, none⟩ = some (.int .i64 (nth ws i)) := by rw [World.cell?_alloc_at _ _ _ _ rfl]; rfl
      have e2 : (wr.alloc (.cells #[.int .i64 (nth ws i), .int .i64 (nth ss i)] 42)).cell? ⟨wr.heap.size, 1, none⟩ = some (.int .i64 (nth ss i)) := by rw [World.cell?_alloc_at _ _ _ _ rfl]; rfl
      have hp2 := hp.below (W' := wr.alloc (.cells #[.int .i64 (nth ws i), .int .i64 (nth ss i)] 42)) hgr ((Below.refl _ _).alloc (Nat.le_refl _) _)
      have hb2 := hb.alloc hb.size (.cells #[.int .i64 (nth ws i), .int .i64 (nth ss i)] 42)
      clear c1 c2 c3 c4
      generalize wr.alloc (.cells #[.int .i64 (nth ws i), .int .i64 (nth ss i)] 42) = w2 at e1 e2 hp2 hb2 ⊢
      have c3 := hp2.weight (k := bestTo ws ss i) (by rw [HL.out]; exact hbl)
      have c4 := hp2.seats (k := bestTo ws ss i) (by rw [HL.out]; exact hbl)
      go_still_tail 6, (by kernel_rfl)
      change wpList _ _ _ _ _ w2.drew
      have hb3 := hb2.drew
      generalize w2.drew = w3 at hb3 ⊢
      have q1 := hide (badW_nth HW.out i)
      have q2 := hide (badW_nth HW.out (bestTo ws ss i))
      have q3 := HS.out i
      have q4 := HS.out (bestTo ws ss i)
      have q5 := hide (prod_bd q1.out.1 q1.out.2 q4.1 q4.2)
      have q6 := hide (prod_bd q2.out.1 q2.out.2 q3.1 q3.2)
      cases hB : befB ws ss i (bestTo ws ss i)
      all_goals
        have HB := hide hB
        clear hB
        go_wp2_with fail
        refine (before_any _ _ _ _ _ q3 q4 q5.out q6.out).mono ?_
        rintro e w4 ⟨rfl, hb4⟩
        have HB' := HB.out
        unfold befB at HB'
        rw [HB']
        clear HB' q3 q4 e1 e2 c3 c4 hp2
        go_wp2
        go_roundw
        case rel => exact ⟨i + 1, by omega, by go_num, by simp only [bestTo, HB.out]; rfl, hb3.trans (hb4.mono hb3.size)⟩
        case measure => simp [intOf]; omega
    · obtain rfl : i = n := by omega
      go_wp2
      go_ret
      exact ⟨by rw [best, HL.out]; rfl, hb⟩

theorem wrong_any (x : Int) (w : World) : Calls Try.prog 14 #[.int .i64 x] w fun e w' => e = .returned (.bool (outB 0 1000000000 x)) ∧ w = w' := by
  by_cases h1 : x < 0
  · go_enter Try.func14, Try.ntmps14
    go_wp2
    go_ret
    exact ⟨by simp [outB, h1], rfl⟩
  · go_enter Try.func14, Try.ntmps14
    go_wp2
    go_ret
    exact ⟨by simp [outB]; omega, rfl⟩

/-- The closure 'wrong' of Share: it captures nothing. -/
def wrongF : Value := .func (.func 14) #[] #[]

set_option maxHeartbeats 400000 in
theorem index_any (A : Option Addr) (n c : Nat) (xs : List Int) (w : World) (h : RI w w.heap.size A n xs) (hn : n ≤ maxLen) :
    Calls Try.prog 20 #[.slice A n c, wrongF] w fun e w' => ∃ r : Int, decide (0 ≤ r) = badW xs ∧ e = .returned (.int .i64 r) ∧ w = w' := by
  unfold maxLen at hn
  have HL : Hid (xs.length = n) := h.len
  unfold wrongF
  go_enter Try.func20, Try.ntmps20
  go_wp2
  go_loop [8] (fun i => ∃ k : Nat, k ≤ n ∧ i = .int .i64 k ∧ badW (xs.take k) = false) (fun i => n - (intOf i).toNat)
  case atStart => exact ⟨0, Nat.zero_le _, rfl, rfl⟩
  case round =>
    obtain ⟨k, hk, rfl, hr⟩ := hrel
    have HR := hide hr
    clear hr
    by_cases hlt : k < n
    · obtain ⟨b, off, rfl, hb, hc⟩ := h.at_ hlt
      have HM : Hid (badW (xs.take (k + 1)) = outB 0 1000000000 (nth xs k)) := by
        have h1 := HR.out
        show _ = _
        simp only [badW] at h1 ⊢
        rw [nth_take (by rw [HL.out]; exact hlt), List.any_append, h1]; simp
      cases ho : outB 0 1000000000 (nth xs k)
      · have HO := hide ho
        clear ho
        go_wp2_with fail
        refine (wrong_any _ _).mono ?_
        rintro e w' ⟨rfl, rfl⟩
        rw [HO.out]
        go_wp2
        go_round
        case rel => exact ⟨k + 1, by omega, by go_num, by rw [HM.out]; exact HO.out⟩
        case measure => simp [intOf]; omega
      · have HO := hide ho
        clear ho
        go_wp2_with fail
        refine (wrong_any _ _).mono ?_
        rintro e w' ⟨rfl, rfl⟩
        rw [HO.out]
        go_wp2
        go_ret
        refine ⟨(k : Int), ?_, rfl, rfl⟩
        have : badW xs = true := List.any_eq_true.2 ⟨_, nth_mem (by rw [HL.out]; exact hlt), HO.out⟩
        rw [this]
        simp
    · go_wp2
      go_ret
      refine ⟨-1, ?_, rfl, rfl⟩
      have h1 := HR.out
      rw [List.take_of_length_le (by rw [HL.out]; omega)] at h1
      rw [h1]
      rfl

theorem contains_any (A : Option Addr) (n c : Nat) (xs : List Int) (w : World) (h : RI w w.heap.size A n xs) (hn : n ≤ maxLen) :
    Calls Try.prog 15 #[.slice A n c, wrongF] w fun e w' => e = .returned (.bool (badW xs)) ∧ w = w' := by
  go_enter Try.func15, Try.ntmps15
  go_wp2_with fail
  refine (index_any A n c xs _ h hn).mono ?_
  rintro e w' ⟨r, hr, rfl, rfl⟩
  have HR := hide hr
  clear hr
  go_wp2
  go_ret
  exact ⟨ret_bool HR.out, rfl⟩

theorem ret_i64 {a b : Int} (h : a = b) : Value.int .i64 a = Value.int .i64 b := by rw [h]
/-- The greatest number of the first k. -/
def maxTo (xs : List Int) : Nat → Int
  | 0 => nth xs 0
  | k + 1 => max (maxTo xs k) (nth xs k)

set_option maxHeartbeats 400000 in
theorem max_any (A : Option Addr) (n c : Nat) (xs : List Int) (w : World) (h : RI w w.heap.size A n xs) (hn0 : 0 < n) (hn : n ≤ maxLen) :
    Calls Try.prog 16 #[.slice A n c] w fun e w' => e = .returned (.int .i64 (maxTo xs n)) ∧ w = w' := by
  unfold maxLen at hn
  have h1 : ¬ n < 1 := by omega
  obtain ⟨b, off, rfl, hb, hc0⟩ := h.at_ hn0
  simp only [Nat.add_zero] at hc0
  have HL : Hid (xs.length = n) := h.len
  go_enter Try.func16, Try.ntmps16
  go_wp2
  go_loop [3, 4] (fun t i => ∃ k : Nat, 1 ≤ k ∧ k ≤ n ∧ i = .int .i64 k ∧ t = .int .i64 (maxTo xs k)) (fun _ i => n - (intOf i).toNat)
  case atStart => exact ⟨1, by omega, hn0, rfl, by simp [maxTo]⟩
  case round =>
    obtain ⟨k, hk0, hk, rfl, rfl⟩ := hrel
    by_cases hlt : k < n
    · obtain ⟨b', off', he, hb', hc⟩ := h.at_ hlt
      injection he with he
      injection he with e1 e2
      subst e1 e2
      go_wp2
      go_round
      case rel => exact ⟨k + 1, by omega, by omega, by go_num, ret_i64 (by simp only [maxTo]; split <;> omega)⟩
      case measure => simp [intOf]; omega
    · obtain rfl : k = n := by omega
      go_wp2
      go_ret
      exact ⟨rfl, rfl⟩
set_option maxHeartbeats 400000 in
theorem ints_any (A A' : Option Addr) (n c n' c' : Nat) (xs ys : List Int) (w : World) (h : RI w w.heap.size A n xs) (h' : RI w w.heap.size A' n' ys) (hn : n ≤ maxLen) (hn' : n' ≤ maxLen) :
    Calls Try.prog 12 #[.slice A n c, .slice A' n' c'] w fun e w' => e = .returned (.bool (decide (xs = ys))) ∧ ∃ m, w' = w.drewN m := by
  unfold maxLen at hn hn'
  have HL : Hid (xs.length = n) := h.len
  have HL' : Hid (ys.length = n') := h'.len
  by_cases h3 : n = n'
  case neg =>
    have hb : ((n : Int) != (n' : Int)) = true := by rw [bne_iff_ne]; omega
    have HE : Hid (¬ xs = ys) := by
      show ¬ _
      rintro rfl
      exact h3 (HL.out.symm.trans HL'.out)
    go_enter Try.func12, Try.ntmps12
    go_wp2
    go_ret
    exact ⟨ret_bool (decide_eq_false HE.out).symm, 0, rfl⟩
  subst h3
  go_enter Try.func12, Try.ntmps12
  go_wp2
  go_loopw [5] (fun i wr => ∃ k : Nat, k ≤ n ∧ i = .int .i64 k ∧ xs.take k = ys.take k ∧ ∃ m, wr = w.drewN m) (fun i _ => n - (intOf i).toNat)
  case atStart => exact ⟨0, Nat.zero_le _, rfl, rfl, 0, rfl⟩
  case round =>
    obtain ⟨k, hk, rfl, hr, m, rfl⟩ := hrel
    have HR := hide hr
    clear hr
    by_cases hlt : k < n
    · obtain ⟨b, off, rfl, hb, hc⟩ := h.at_ hlt
      obtain ⟨b', off', rfl, hb', hc'⟩ := h'.at_ hlt
      have hk1 : (0 : Int) ≤ (k : Int) := by omega
      have hk2 : (k : Int) < (n : Int) := by omega
      by_cases he : nth xs k = nth ys k
      · have hne : (nth xs k != nth ys k) = false := by simp [he]
        have HE := hide he
        clear he
        go_wp2
        go_quiet (fail)
        go_wp2
        go_roundw
        case rel => exact ⟨k + 1, by omega, by go_num, by rw [nth_take (xs := xs) (by rw [HL.out]; exact hlt), nth_take (xs := ys) (by rw [HL'.out]; exact hlt), HR.out, HE.out], _, rfl⟩
        case measure => simp [intOf]; omega
      · have hne : (nth xs k != nth ys k) = true := by simp [he]
        have HE : Hid (¬ xs = ys) := by
          show ¬ _
          rintro rfl
          exact he rfl
        clear he
        go_wp2
        go_quiet (fail)
        go_wp2
        go_ret
        exact ⟨ret_bool (decide_eq_false HE.out).symm, _, World.drewN_drewN _ _ _⟩
    · go_wp2
      go_ret
      have h1 := HR.out
      rw [List.take_of_length_le (by rw [HL.out]; omega), List.take_of_length_le (by rw [HL'.out]; omega)] at h1
      exact ⟨ret_bool (decide_eq_true h1).symm, _, rfl⟩

end Go.Proofs.Yteknmllcpemnoaa
