/-
  Chapter 22: few.
-/
import Derived.Test.YtnlcfbaaomdjdaaDoorHead
set_option linter.unusedVariables false
set_option linter.unusedSimpArgs false
namespace Go.Proofs.YtnlcfbaaomdjdaaDoor
open Go.RowKit Go.Deep Go.Maps

/-- Are an expression and ranges small? -/
def fewL (e : List Nod) (l : List Rng) : Bool :=
  (e.take 24).all (fun x => decide (x.name.size ≤ 40) && decide (x.kids.length ≤ 6)) && ((l.take 12).all (fun r => decide (r.name.size ≤ 40)) && (decide (e.length ≤ 24) && decide (l.length ≤ 12)))
theorem few_out {e : List Nod} {l : List Rng} (h : fewL e l = true) : e.length ≤ 24 ∧ l.length ≤ 12 ∧ (∀ x ∈ e, x.name.size ≤ 40 ∧ x.kids.length ≤ 6) ∧ ∀ r ∈ l, r.name.size ≤ 40 := by
  unfold fewL at h
  simp only [Bool.and_eq_true, decide_eq_true_eq] at h
  obtain ⟨h1, h2, h3, h4⟩ := h
  rw [List.take_of_length_le h3, List.all_eq_true] at h1
  rw [List.take_of_length_le h4, List.all_eq_true] at h2
  exact ⟨h3, h4, fun x hx => by have := h1 x hx; simpa using this, fun r hr => by have := h2 r hr; simpa using this⟩
theorem all_false {α : Type} {p : α → Bool} {l : List α} {k m : Nat} {x : α} (hk : k < m) (h : l[k]? = some x) (hx : p x = false) : (l.take m).all p = false := by
  cases ha : (l.take m).all p
  · rfl
  · have hm : x ∈ l.take m := List.mem_of_getElem? (i := k) (by rw [List.getElem?_take, if_pos hk]; exact h)
    have := List.all_eq_true.1 ha x hm
    rw [hx] at this
    cases this

set_option maxHeartbeats 2000000 in
set_option maxRecDepth 20000 in
theorem refFew_any (A : Option Addr) (c : Nat) (e : List Nod) (A2 : Option Addr) (n2 c2 : Nat) (l : List Rng) (w : World) (he : ExprAt w w.heap.size A e) (hem : e.length ≤ maxLen) (hl : RRg w w.heap.size A2 n2 l) (hln : n2 ≤ maxLen)
    (hen : ∀ x ∈ e, x.name.size ≤ maxLen) (hrn : ∀ r ∈ l, r.name.size ≤ maxLen) (hkn : ∀ x ∈ e, x.kids.length ≤ maxLen) :
    Calls Tryd.prog 17 #[.slice A e.length c, .slice A2 n2 c2] w fun en w' => en = .returned (.bool (fewL e l)) ∧ w = w' := by
  have HEN := hide hen
  have HRN := hide hrn
  have HKN := hide hkn
  clear hen hrn hkn
  unfold maxLen at hem hln
  have hlen := hl.len
  have HLN := hide hlen
  have HE := hide he
  have HL := hide hl
  clear he hl hlen
  go_enter Tryd.func17, Tryd.ntmps17
  go_wp2
  go_loop [5] (fun i => ∃ k : Nat, k ≤ e.length ∧ k ≤ 24 ∧ i = .int .i64 k ∧ (e.take k).all (fun x => decide (x.name.size ≤ 40) && decide (x.kids.length ≤ 6)) = true) (fun i => 24 - (intOf i).toNat)
  case atStart => exact ⟨0, Nat.zero_le _, Nat.zero_le _, rfl, rfl⟩
  case round =>
    obtain ⟨k, hk, hk24, rfl, hall⟩ := hrel
    have HA := hide hall
    clear hall
    by_cases hlt : k < e.length ∧ k < 24
    · obtain ⟨hl1, hl2⟩ := hlt
      obtain ⟨b, off, K, kc, rfl, hb, x0, x1, x2, x3, hK⟩ := HE.out.at_ hl1
      have hx1 : (nodAt e k).name.size ≤ maxLen := HEN.out _ (List.mem_of_getElem? (nodAt_get hl1))
      have hx2 : (nodAt e k).kids.length ≤ maxLen := HKN.out _ (List.mem_of_getElem? (nodAt_get hl1))
      unfold maxLen at hx1 hx2
      have HT := hide (nod_take (e := e) (i := k) hl1)
      have HG := hide (nodAt_get (e := e) (i := k) hl1)
      have b1 : decide (k < e.length) = true := decide_eq_true hl1
      have b2 : decide ((k : Int) < 24) = true := decide_eq_true (by omega)
      generalize nodAt e k = x at x0 x1 x2 x3 hK hx1 hx2 HT HG
      clear hK
      by_cases hn : x.name.size ≤ 40
      · by_cases hkd : x.kids.length ≤ 6
        · have b3 : decide ((40 : Int) < (x.name.size : Int)) = false := decide_eq_false (by omega)
          have b4 : decide ((6 : Int) < (x.kids.length : Int)) = false := decide_eq_false (by omega)
          go_wp2
          go_round
          case rel => exact ⟨k + 1, by omega, by omega, by go_num, by rw [HT.out, List.all_append, HA.out]; simp [hn, hkd]⟩
          case measure => simp [intOf]; omega
        · have b3 : decide ((40 : Int) < (x.name.size : Int)) = false := decide_eq_false (by omega)
          have b4 : decide ((6 : Int) < (x.kids.length : Int)) = true := decide_eq_true (by omega)
          have HF : Hid (fewL e l = false) := by
            show _ = _
            unfold fewL
            rw [all_false hl2 HG.out (by simp; omega)]
            rfl
          go_wp2
          go_ret
          exact ⟨by rw [HF.out]; rfl, rfl⟩
      · have b3 : decide ((40 : Int) < (x.name.size : Int)) = true := decide_eq_true (by omega)
        have HF : Hid (fewL e l = false) := by
          show _ = _
          unfold fewL
          rw [all_false hl2 HG.out (by simp; omega)]
          rfl
        go_wp2
        go_ret
        exact ⟨by rw [HF.out]; rfl, rfl⟩
    · have HC : Hid ((e.take 24).all (fun x => decide (x.name.size ≤ 40) && decide (x.kids.length ≤ 6)) = true) := by
        show _ = _
        by_cases h24 : k < 24
        · rw [List.take_of_length_le (by omega)]
          have := HA.out
          rw [List.take_of_length_le (by omega)] at this
          exact this
        · obtain rfl : k = 24 := by omega
          exact HA.out
      have hex : (decide (k < e.length) = false) ∨ (decide (k < e.length) = true ∧ decide ((k : Int) < 24) = false) := by
        by_cases h1 : k < e.length
        · exact .inr ⟨decide_eq_true h1, decide_eq_false (by omega)⟩
        · exact .inl (decide_eq_false h1)
      have hcond : True := trivial
      clear hlt HA
      rcases hex with b1 | ⟨b1, b2⟩
      all_goals
        go_wp2
        go_loop [6] (fun i => ∃ j : Nat, j ≤ l.length ∧ j ≤ 12 ∧ i = .int .i64 j ∧ (l.take j).all (fun r => decide (r.name.size ≤ 40)) = true) (fun i => 12 - (intOf i).toNat)
        case atStart => exact ⟨0, Nat.zero_le _, Nat.zero_le _, rfl, rfl⟩
        case round =>
          obtain ⟨j, hj, hj12, rfl, hall⟩ := hrel
          have HB := hide hall
          clear hall
          by_cases hlt : j < l.length ∧ j < 12
          · obtain ⟨hl1, hl2⟩ := hlt
            have hj2 : j < n2 := by have := HLN.out; omega
            obtain ⟨b, off, rfl, hb, y0, -, -⟩ := RRg.at_ HL.out hj2
            have hy1 : (rngAt l j).name.size ≤ maxLen := HRN.out _ (List.mem_of_getElem? (rngAt_get hl1))
            unfold maxLen at hy1
            have HT := hide (rng_take (rs := l) (i := j) hl1)
            have HG := hide (rngAt_get (rs := l) (i := j) hl1)
            have c1 : decide ((j : Int) < (n2 : Int)) = true := decide_eq_true (by omega)
            have c1' : decide (j < n2) = true := decide_eq_true (by omega)
            have c2 : decide ((j : Int) < 12) = true := decide_eq_true (by omega)
            generalize rngAt l j = r at y0 hy1 HT HG
            by_cases hn : r.name.size ≤ 40
            · have c3 : decide ((40 : Int) < (r.name.size : Int)) = false := decide_eq_false (by omega)
              go_wp2
              go_round
              case rel => exact ⟨j + 1, by omega, by omega, by go_num, by rw [HT.out, List.all_append, HB.out]; simp [hn]⟩
              case measure => simp [intOf]; omega
            · have c3 : decide ((40 : Int) < (r.name.size : Int)) = true := decide_eq_true (by omega)
              have HF : Hid (fewL e l = false) := by
                show _ = _
                unfold fewL
                rw [all_false hl2 HG.out (by simp; omega)]
                simp
              go_wp2
              go_ret
              exact ⟨by rw [HF.out]; rfl, rfl⟩
          · have HD : Hid ((l.take 12).all (fun r => decide (r.name.size ≤ 40)) = true) := by
              show _ = _
              by_cases h12 : j < 12
              · rw [List.take_of_length_le (by omega)]
                have := HB.out
                rw [List.take_of_length_le (by omega)] at this
                exact this
              · obtain rfl : j = 12 := by omega
                exact HB.out
            have hln2 : l.length = n2 := HLN.out
            have HF : Hid (fewL e l = (decide (e.length ≤ 24) && decide (l.length ≤ 12))) := by
              show _ = _
              unfold fewL
              rw [HC.out, HD.out]
              simp
            have hey : (decide (j < n2) = false) ∨ (decide (j < n2) = true ∧ decide ((j : Int) < 12) = false) := by
              by_cases h1 : j < n2
              · exact .inr ⟨decide_eq_true h1, decide_eq_false (by omega)⟩
              · exact .inl (decide_eq_false h1)
            clear hlt
            obtain ⟨d1, hd1⟩ : ∃ d, d = decide ((e.length : Int) ≤ 24) := ⟨_, rfl⟩
            obtain ⟨d2, hd2⟩ : ∃ d, d = decide ((n2 : Int) ≤ 12) := ⟨_, rfl⟩
            have HR : Hid (fewL e l = (d1 && d2)) := by
              show _ = _
              rw [HF.out, hd1, hd2, hln2]
              congr 1 <;> exact decide_eq_decide.2 (by omega)
            have e1 := hd1.symm
            have e2 := hd2.symm
            clear hd1 hd2 HF HC HD
            rcases hey with c1 | ⟨c1, c2⟩
            all_goals
              cases d1
              all_goals
                cases d2
                all_goals
                  go_wp2
                  go_ret
                  exact ⟨by rw [HR.out]; rfl, rfl⟩
set_option maxHeartbeats 1000000 in
theorem few_any (A : Option Addr) (c : Nat) (e : List Nod) (A2 : Option Addr) (n2 c2 : Nat) (l : List Rng) (w : World) (he : ExprAt w w.heap.size A e) (hem : e.length ≤ maxLen) (hl : RRg w w.heap.size A2 n2 l) (hln : n2 ≤ maxLen)
    (hen : ∀ x ∈ e, x.name.size ≤ maxLen) (hrn : ∀ r ∈ l, r.name.size ≤ maxLen) (hkn : ∀ x ∈ e, x.kids.length ≤ maxLen) :
    Calls Tryd.prog 9 #[.slice A e.length c, .slice A2 n2 c2] w fun en w' => en = .returned (.bool (fewL e l)) ∧ w = w' := by
  have H := hide (refFew_any A c e A2 n2 c2 l w he hem hl hln hen hrn hkn)
  clear he hl hen hrn hkn
  go_enter Tryd.func9, Tryd.ntmps9
  go_wp2_with fail
  refine H.out.mono ?_
  rintro en w' ⟨rfl, rfl⟩
  clear H
  go_wp2
  go_ret
  exact ⟨rfl, rfl⟩
end Go.Proofs.YtnlcfbaaomdjdaaDoor

/-
  Chapter 22: the reference's names and ranges; the law's small functions.
-/
namespace Go.Proofs.YtnlcfbaaomdjdaaDoor
open Go.RowKit Go.Deep Go.Maps

set_option maxHeartbeats 1000000 in
theorem letter_any (n : Nat) (hn : n < 256) (w : World) : Calls Tryd.prog 44 #[.int .u8 n] w fun e w' => e = .returned (.bool (isLetter n)) ∧ w = w' := by
  have HB : Hid (isLetter n = ((decide (97 ≤ n) && decide (n ≤ 122)) || (decide (65 ≤ n) && decide (n ≤ 90)))) := rfl
  cases e1 : decide (97 ≤ n) <;> cases e2 : decide (n ≤ 122) <;> cases e3 : decide (65 ≤ n) <;> cases e4 : decide (n ≤ 90)
  all_goals
    rw [e1, e2, e3, e4] at HB
    have g1 : decide ((97 : Int) ≤ (n : Int)) = _ := (decide_eq_decide.2 (by omega)).trans e1
    have g2 : decide ((n : Int) ≤ 122) = _ := (decide_eq_decide.2 (by omega)).trans e2
    have g3 : decide ((65 : Int) ≤ (n : Int)) = _ := (decide_eq_decide.2 (by omega)).trans e3
    have g4 : decide ((n : Int) ≤ 90) = _ := (decide_eq_decide.2 (by omega)).trans e4
    go_enter Tryd.func44, Tryd.ntmps44
    go_wp2
    go_ret
    exact ⟨by rw [HB.out]; rfl, rfl⟩
set_option maxHeartbeats 1000000 in
theorem digit_any (n : Nat) (hn : n < 256) (w : World) : Calls Tryd.prog 53 #[.int .u8 n] w fun e w' => e = .returned (.bool (isDigit n)) ∧ w = w' := by
  have HB : Hid (isDigit n = (decide (48 ≤ n) && decide (n ≤ 57))) := rfl
  cases e1 : decide (48 ≤ n) <;> cases e2 : decide (n ≤ 57)
  all_goals
    rw [e1, e2] at HB
    have g1 : decide ((48 : Int) ≤ (n : Int)) = _ := (decide_eq_decide.2 (by omega)).trans e1
    have g2 : decide ((n : Int) ≤ 57) = _ := (decide_eq_decide.2 (by omega)).trans e2
    go_enter Tryd.func53, Tryd.ntmps53
    go_wp2
    go_ret
    exact ⟨by rw [HB.out]; rfl, rfl⟩
set_option maxHeartbeats 1000000 in
theorem word_any (n : Nat) (hn : n < 256) (w : World) : Calls Tryd.prog 43 #[.int .u8 n] w fun e w' => e = .returned (.bool (isWord n)) ∧ w = w' := by
  have HB : Hid (isWord n = (isLetter n || isDigit n || (n == 95))) := rfl
  have HL := hide (letter_any n hn w)
  have HD := hide (digit_any n hn w)
  cases e1 : isLetter n
  · cases e2 : isDigit n
    · cases e3 : (n == 95)
      all_goals
        rw [e1, e2, e3] at HB
        rw [e1] at HL
        rw [e2] at HD
        have g3 : decide (n = 95) = _ := (by rw [Bool.eq_iff_iff]; simp : decide (n = 95) = (n == 95)).trans e3
        have g4 : ((n : Int) == 95) = _ := (by rw [Bool.eq_iff_iff]; simp; omega : ((n : Int) == 95) = decide (n = 95)).trans g3
        go_enter Tryd.func43, Tryd.ntmps43
        go_wp2_with fail
        refine HL.out.mono ?_
        rintro en w' ⟨rfl, rfl⟩
        go_wp2_with fail
        refine HD.out.mono ?_
        rintro en w' ⟨rfl, rfl⟩
        go_wp2
        go_ret
        exact ⟨by rw [HB.out]; rfl, rfl⟩
    · rw [e1, e2] at HB
      rw [e1] at HL
      rw [e2] at HD
      go_enter Tryd.func43, Tryd.ntmps43
      go_wp2_with fail
      refine HL.out.mono ?_
      rintro en w' ⟨rfl, rfl⟩
      go_wp2_with fail
      refine HD.out.mono ?_
      rintro en w' ⟨rfl, rfl⟩
      go_wp2
      go_ret
      exact ⟨by rw [HB.out]; simp, rfl⟩
  · rw [e1] at HB
    rw [e1] at HL
    go_enter Tryd.func43, Tryd.ntmps43
    go_wp2_with fail
    refine HL.out.mono ?_
    rintro en w' ⟨rfl, rfl⟩
    go_wp2
    go_ret
    exact ⟨by rw [HB.out]; simp, rfl⟩

/-- The law's bound. -/
theorem lawBeyond_any (n : Int) (w : World) : Calls Tryd.prog 11 #[.int .i64 n] w fun e w' => e = .returned (.bool (beyondL n)) ∧ w = w' := by
  have HB : Hid (beyondL n = (decide (n < -1000000000000) || decide (1000000000000 < n))) := rfl
  cases h1 : decide (n < -1000000000000) <;> cases h2 : decide (1000000000000 < n)
  all_goals
    rw [h1, h2] at HB
    go_enter Tryd.func11, Tryd.ntmps11
    go_wp2
    go_ret
    exact ⟨by rw [HB.out]; rfl, rfl⟩
theorem flag_any (b : Bool) (w : World) : Calls Tryd.prog 32 #[.bool b] w fun e w' => e = .returned (.int .i64 (if b = true then 1 else 0)) ∧ w = w' := by
  cases b
  all_goals
    go_enter Tryd.func32, Tryd.ntmps32
    go_wp2
    go_ret
    exact ⟨rfl, rfl⟩

theorem wrap_id (n : Int) (h : -9223372036854775808 ≤ n ∧ n ≤ 9223372036854775807) : wrap64 n = n := by unfold wrap64; omega
/-- The law's product. -/
def prodV (a b : Int) : Value := if (0 < max a (-a) ∧ 1000000000000 / (max a (-a)) < max b (-b)) then .tuple #[.int .i64 0, .bool false] else .tuple #[.int .i64 (a * b), .bool true]
theorem prod_fit {a b : Int} (h : ¬ (0 < max a (-a) ∧ 1000000000000 / (max a (-a)) < max b (-b))) : -1000000000000 ≤ a * b ∧ a * b ≤ 1000000000000 := by
  by_cases h0 : 0 < max a (-a)
  · have h1 : max b (-b) ≤ 1000000000000 / (max a (-a)) := by
      have : ¬ (1000000000000 / (max a (-a)) < max b (-b)) := fun x => h ⟨h0, x⟩
      omega
    have h2 : max b (-b) * max a (-a) ≤ 1000000000000 := (Int.le_ediv_iff_mul_le h0).1 h1
    rcases Int.le_total 0 a with ha | ha <;> rcases Int.le_total 0 b with hb | hb
    · rw [Int.max_eq_left (by omega), Int.max_eq_left (by omega)] at h2
      have := Int.mul_nonneg ha hb
      rw [Int.mul_comm] at h2
      omega
    · rw [Int.max_eq_right (by omega), Int.max_eq_left (by omega), Int.neg_mul, Int.mul_comm] at h2
      have := Int.mul_nonneg ha (show 0 ≤ -b by omega)
      rw [Int.mul_neg] at this
      omega
    · rw [Int.max_eq_left (by omega), Int.max_eq_right (by omega), Int.mul_neg, Int.mul_comm] at h2
      have := Int.mul_nonneg (show 0 ≤ -a by omega) hb
      rw [Int.neg_mul] at this
      omega
    · rw [Int.max_eq_right (by omega), Int.max_eq_right (by omega), Int.neg_mul_neg, Int.mul_comm] at h2
      have := Int.mul_nonneg (show 0 ≤ -a by omega) (show 0 ≤ -b by omega)
      rw [Int.neg_mul_neg] at this
      omega
  · have : a = 0 := by omega
    subst this
    rw [Int.zero_mul]
    decide
set_option maxHeartbeats 1000000 in
theorem product_any (a b : Int) (ha : -1000000000000 ≤ a ∧ a ≤ 1000000000000) (hb : -1000000000000 ≤ b ∧ b ≤ 1000000000000) (w : World) :
    Calls Tryd.prog 30 #[.int .i64 a, .int .i64 b] w fun e w' => e = .returned (prodV a b) ∧ w = w' := by
  have HP : Hid (prodV a b = if (0 < max a (-a) ∧ 1000000000000 / (max a (-a)) < max b (-b)) then .tuple #[.int .i64 0, .bool false] else .tuple #[.int .i64 (a * b), .bool true]) := rfl
  have hfit := hide (@prod_fit a b)
  go_enter Tryd.func30, Tryd.ntmps30
  go_wp2
  · rename_i h1 h2
    rw [if_pos ⟨h1, h2⟩] at HP
    go_ret2
    exact ⟨by rw [HP.out]; rfl, rfl⟩
  · rename_i h1 h2
    have hn : ¬ (0 < max a (-a) ∧ 1000000000000 / (max a (-a)) < max b (-b)) := fun h => absurd h.2 (Int.not_lt.2 h2)
    have := hfit.out hn
    rw [if_neg hn] at HP
    go_ret2
    exact ⟨by rw [HP.out]; simp [wrap_id (a * b) (by omega)], rfl⟩
  · rename_i h1
    have hn : ¬ (0 < max a (-a) ∧ 1000000000000 / (max a (-a)) < max b (-b)) := fun h => absurd h.1 (Int.not_lt.2 h1)
    have := hfit.out hn
    rw [if_neg hn] at HP
    go_ret2
    exact ⟨by rw [HP.out]; simp [wrap_id (a * b) (by omega)], rfl⟩

/-- The law's quotient is 'quot'. -/
theorem tmod_add_tmod (a b : Int) (hb : 0 < b) : ((a.tmod b) + b).tmod b = a % b := by
  have h0 : 0 ≤ a.tmod b + b := by
    have := Int.lt_tmod_of_pos a hb
    omega
  rw [Int.tmod_eq_emod_of_nonneg h0, Int.add_emod_right]
  have h2 : a.tmod b = a + b * (-(a.tdiv b)) := by
    have := Int.mul_tdiv_add_tmod a b
    rw [Int.mul_neg]
    omega
  rw [h2, Int.add_mul_emod_self_left]
theorem quot_floor (a b : Int) (ha : -1000000000000 ≤ a ∧ a ≤ 1000000000000) (hb : 0 < b ∧ b ≤ 1000000000000) : wrap64 ((wrap64 (a - (wrap64 (a.tmod b + b)).tmod b)).tdiv b) = a / b := by
  have m1 := Int.tmod_lt_of_pos a hb.1
  have m2 := Int.lt_tmod_of_pos a hb.1
  rw [wrap_id (a.tmod b + b) (by omega), tmod_add_tmod a b hb.1]
  have m3 := Int.emod_lt_of_pos a hb.1
  have m4 := Int.emod_nonneg a (show b ≠ 0 by omega)
  rw [wrap_id (a - a % b) (by omega)]
  have h2 := Int.mul_ediv_add_emod a b
  rw [show a - a % b = b * (a / b) from by omega, Int.mul_tdiv_cancel_left _ (by omega)]
  have h3 : a / b ≤ 1000000000000 := by
    refine Int.le_trans (b := 1000000000000 / b) (Int.ediv_le_ediv hb.1 ha.2) ?_
    exact Int.ediv_le_self _ (by decide)
  have h4 : -1000000000000 ≤ a / b := by
    rw [Int.le_ediv_iff_mul_le hb.1]
    omega
  exact wrap_id _ (by omega)
set_option maxHeartbeats 1000000 in
theorem quotient_any (a b : Int) (ha : -1000000000000 ≤ a ∧ a ≤ 1000000000000) (hb : -1000000000000 ≤ b ∧ b ≤ 1000000000000) (w : World) :
    Calls Tryd.prog 31 #[.int .i64 a, .int .i64 b] w fun e w' => e = .returned (.int .i64 (quot a b)) ∧ w = w' := by
  have HQ : Hid (quot a b = if b = 0 then 0 else if b < 0 then (-a) / (-b) else a / b) := rfl
  by_cases h0 : b = 0
  · subst h0
    rw [if_pos rfl] at HQ
    go_enter Tryd.func31, Tryd.ntmps31
    go_wp2
    go_ret
    exact ⟨by rw [HQ.out]; rfl, rfl⟩
  · rw [if_neg h0] at HQ
    have hbe : (b == 0) = false := beq_eq_false_iff_ne.2 h0
    by_cases h1 : b < 0
    · rw [if_pos h1] at HQ
      obtain ⟨c, rfl⟩ : ∃ c, b = -c := ⟨-b, by omega⟩
      obtain ⟨d, rfl⟩ : ∃ d, a = -d := ⟨-a, by omega⟩
      have F2 : Hid (wrap64 ((wrap64 (d - (wrap64 (d.tmod c + c)).tmod c)).tdiv c) = d / c) := quot_floor d c (by omega) (by omega)
      rw [Int.neg_neg, Int.neg_neg] at HQ
      have hc0 : (c == 0) = false := beq_eq_false_iff_ne.2 (by omega)
      go_enter Tryd.func31, Tryd.ntmps31
      go_wp2
      go_ret
      exact ⟨by rw [HQ.out, ← F2.out]; first | rfl | simp, rfl⟩
    · rw [if_neg h1] at HQ
      have F1 : Hid (wrap64 ((wrap64 (a - (wrap64 (a.tmod b + b)).tmod b)).tdiv b) = a / b) := quot_floor a b (by omega) (by omega)
      go_enter Tryd.func31, Tryd.ntmps31
      go_wp2
      go_ret
      exact ⟨by rw [HQ.out, ← F1.out]; first | rfl | simp, rfl⟩
end Go.Proofs.YtnlcfbaaomdjdaaDoor

/-
  Chapter 22: the reference's names and ranges; a law's value.
-/
namespace Go.Proofs.YtnlcfbaaomdjdaaDoor
open Go.RowKit Go.Deep Go.Maps

theorem all_range {p : Nat → Bool} {n : Nat} : ((List.range n).all p = true) ↔ ∀ i < n, p i = true := by
  rw [List.all_eq_true]
  exact ⟨fun h i hi => h i (List.mem_range.2 hi), fun h i hi => h i (List.mem_range.1 hi)⟩
theorem name_bad {s : ByteArray} {i : Nat} (hi : i < s.size) (h : isWord (bAt s i) = false) : nameB s = false := by
  unfold nameB
  cases ha : (List.range s.size).all fun i => isWord (bAt s i)
  · simp
  · have := all_range.1 ha i hi
    rw [h] at this
    cases this
theorem name_good {s : ByteArray} (h : ∀ i < s.size, isWord (bAt s i) = true) : nameB s = (decide (1 ≤ s.size) && decide (s.size ≤ 24) && isLetter (bAt s 0)) := by
  unfold nameB
  rw [all_range.2 h, Bool.and_true]
set_option maxHeartbeats 2000000 in
set_option maxRecDepth 20000 in
theorem refName_any (s : ByteArray) (w : World) (hs : s.size ≤ maxLen) : Calls Tryd.prog 33 #[.string s] w fun e w' => e = .returned (.bool (nameB s)) ∧ w = w' := by
  unfold maxLen at hs
  go_enter Tryd.func33, Tryd.ntmps33
  go_wp2
  go_loop [3] (fun i => ∃ k : Nat, k ≤ s.size ∧ i = .int .i64 k ∧ ∀ j < k, isWord (bAt s j) = true) (fun i => s.size - (intOf i).toNat)
  case atStart => exact ⟨0, Nat.zero_le _, rfl, fun j hj => absurd hj (by omega)⟩
  case round =>
    obtain ⟨k, hk, rfl, hall⟩ := hrel
    have HA := hide hall
    clear hall
    by_cases hlt : k < s.size
    · have hb : bAt s k = s[k].toNat := bAt_eq hlt
      have h256 : s[k].toNat < 256 := UInt8.toNat_lt _
      have HW := hide (word_any s[k].toNat h256 w)
      have HB := hide hb
      clear hb
      cases hw : isWord s[k].toNat
      · have HF := hide (name_bad hlt (by rw [HB.out]; exact hw))
        rw [hw] at HW
        go_wp2_with fail
        refine HW.out.mono ?_
        rintro en w' ⟨rfl, rfl⟩
        go_wp2
        go_ret
        exact ⟨by rw [HF.out]; rfl, rfl⟩
      · rw [hw] at HW
        go_wp2_with fail
        refine HW.out.mono ?_
        rintro en w' ⟨rfl, rfl⟩
        go_wp2
        go_round
        case rel =>
          refine ⟨k + 1, hlt, by go_num, fun j hj => ?_⟩
          by_cases hj2 : j < k
          · exact HA.out j hj2
          · obtain rfl : j = k := by omega
            rw [HB.out]
            exact hw
        case measure => simp [intOf]; omega
    · obtain rfl : k = s.size := by omega
      have HG := hide (name_good HA.out)
      clear HA
      cases e1 : decide (0 < s.size)
      · have HF : Hid (nameB s = false) := by
          show _ = _
          have : ¬ (1 ≤ s.size) := fun h => by have := of_decide_eq_false e1; omega
          rw [HG.out, decide_eq_false this]
          rfl
        have g1 : decide ((0 : Int) < (s.size : Int)) = false := (decide_eq_decide.2 (by omega)).trans e1
        go_wp2
        go_ret
        exact ⟨by rw [HF.out]; rfl, rfl⟩
      · have hpos : 0 < s.size := of_decide_eq_true e1
        have h1 : decide (1 ≤ s.size) = true := decide_eq_true (by omega)
        have g1 : decide ((0 : Int) < (s.size : Int)) = true := decide_eq_true (by omega)
        cases e2 : decide (s.size ≤ 24)
        · have HF : Hid (nameB s = false) := by
            show _ = _
            rw [HG.out, h1, e2]
            rfl
          have g2 : decide ((s.size : Int) ≤ 24) = false := (decide_eq_decide.2 (by omega)).trans e2
          clear h1
          go_wp2
          go_ret
          exact ⟨by rw [HF.out]; rfl, rfl⟩
        · have g2 : decide ((s.size : Int) ≤ 24) = true := (decide_eq_decide.2 (by omega)).trans e2
          have hb : bAt s 0 = s[0].toNat := bAt_eq hpos
          have HF : Hid (nameB s = isLetter s[0].toNat) := by
            show _ = _
            rw [HG.out, h1, e2, hb]
            rfl
          have HL := hide (letter_any s[0].toNat (UInt8.toNat_lt _) w)
          clear h1 hb
          go_wp2_with fail
          refine HL.out.mono ?_
          rintro en w' ⟨rfl, rfl⟩
          go_wp2
          go_ret
          exact ⟨by rw [HF.out]; rfl, rfl⟩
end Go.Proofs.YtnlcfbaaomdjdaaDoor

/-
  Chapter 22: the reference's 'Valid' of ranges.
-/
namespace Go.Proofs.YtnlcfbaaomdjdaaDoor
open Go.RowKit Go.Deep Go.Maps

theorem distinct_prefix : ∀ l m : List Rng, distinctR (l ++ m) = true → distinctR l = true
  | [], _, _ => rfl
  | r :: l, m, h => by
    rw [List.cons_append] at h
    unfold distinctR at h ⊢
    rw [Bool.and_eq_true, List.all_append, Bool.and_eq_true] at h
    rw [distinct_prefix l m h.1, h.2.1]
    rfl
theorem valid_prefix {l : List Rng} {k : Nat} {r : Rng} (h : l.take (k + 1) = l.take k ++ [r]) (hd : hasR (l.take k) r.name = true) : validRs l = false := by
  rw [valid_split]
  cases hx : distinctR l
  · simp
  · rw [← List.take_append_drop (k + 1) l] at hx
    have := distinct_prefix _ _ hx
    rw [h, distinct_snoc, hd] at this
    simp at this
theorem okR_eq (r : Rng) : okR r = (nameB r.name && !decide (r.low < -MB) && !decide (MB < r.high) && decide (r.low ≤ r.high)) := by
  unfold okR beyondL
  by_cases h : r.low ≤ r.high
  · rw [decide_eq_true h]
    by_cases h1 : r.low < -MB
    · rw [decide_eq_true h1]; simp
    · rw [decide_eq_false h1]
      by_cases h2 : MB < r.high
      · rw [decide_eq_true h2]; simp
      · rw [decide_eq_false h2, decide_eq_false (show ¬ (MB < r.low) by omega), decide_eq_false (show ¬ (r.high < -MB) by omega)]
        rfl
  · rw [decide_eq_false h]; simp
theorem has_take {l : List Rng} {k j : Nat} {t : ByteArray} (hj : j < k) (hk : k ≤ l.length) (h : (rngAt l j).name = t) : hasR (l.take k) t = true := by
  unfold hasR
  rw [List.any_eq_true]
  refine ⟨rngAt l j, List.mem_of_getElem? (i := j) (by rw [List.getElem?_take, if_pos hj]; exact rngAt_get (by omega)), by rw [h]; simp⟩
theorem has_not {l : List Rng} {k : Nat} {t : ByteArray} (hk : k ≤ l.length) (h : ∀ j < k, (rngAt l j).name ≠ t) : hasR (l.take k) t = false := by
  cases hh : hasR (l.take k) t
  · rfl
  · unfold hasR at hh
    obtain ⟨x, hx, hy⟩ := List.any_eq_true.1 hh
    obtain ⟨j, hj, rfl⟩ := List.getElem_of_mem hx
    have hj2 : j < k := by rw [List.length_take] at hj; omega
    rw [List.getElem_take] at hy
    have := h j hj2
    unfold rngAt at this
    rw [List.getD_eq_getElem?_getD, List.getElem?_eq_getElem (by omega)] at this
    exact absurd (of_decide_eq_true hy) this
set_option maxHeartbeats 4000000 in
set_option maxRecDepth 20000 in
theorem refValid_any (A : Option Addr) (n c : Nat) (l : List Rng) (w : World) (hl : RRg w w.heap.size A n l) (hn : n ≤ maxLen) (hm : ∀ r ∈ l, r.name.size ≤ maxLen) :
    Calls Tryd.prog 14 #[.slice A n c] w fun e w' => e = .returned (.bool (validRs l)) ∧ Below w.heap.size w w' := by
  unfold maxLen at hn
  have HL := hide hl
  have HM := hide hm
  have HLN := hide hl.len
  have b0 : Below w.heap.size w w := Below.refl _ _
  clear hl hm
  go_enter Tryd.func14, Tryd.ntmps14
  go_wp2
  go_loopw [3] (fun i wr => ∃ k : Nat, k ≤ n ∧ i = .int .i64 k ∧ validRs (l.take k) = true ∧ Below w.heap.size w wr) (fun i _ => n - (intOf i).toNat)
  case atStart => exact ⟨0, Nat.zero_le _, rfl, rfl, b0⟩
  case round =>
    clear b0
    obtain ⟨k, hk, rfl, hv, hbr⟩ := hrel
    have HV := hide hv
    have HB := hide hbr
    clear hv hbr
    obtain ⟨wo, hwo⟩ : ∃ wo : World, wo = wr := ⟨_, rfl⟩
    subst hwo
    by_cases hlt : k < n
    · have hkl : k < l.length := by rw [HLN.out]; exact hlt
      obtain ⟨b, off, rfl, hb, g0, g1, g2⟩ := (HL.out.next HB.out).at_ hlt
      have HT := hide (rng_take (rs := l) (i := k) hkl)
      have hnm : (rngAt l k).name.size ≤ maxLen := HM.out _ (List.mem_of_getElem? (rngAt_get hkl))
      have HEQ : Hid (∀ j < k, ∃ b' off', wo.cell? ⟨b', off' + j * 3, none⟩ = some (.string (rngAt l j).name) ∧ b' = b ∧ off' = off) := by
        intro j hj
        obtain ⟨b', off', hA', hb', y0, -, -⟩ := (HL.out.next HB.out).at_ (i := j) (show j < n by omega)
        injection hA' with hA'
        injection hA' with h1 h2
        exact ⟨b', off', y0, h1.symm, h2.symm⟩
      obtain ⟨r, hr⟩ : ∃ r, r = rngAt l k := ⟨_, rfl⟩
      rw [← hr] at g0 g1 g2 HT hnm
      have HR := hide hr
      clear hr
      have HOK : Hid (okR r = (nameB r.name && !decide (r.low < -1000000000000) && !decide (1000000000000 < r.high) && decide (r.low ≤ r.high))) := okR_eq r
      cases e1 : nameB r.name
      · have HN := hide (fun m => (refName_any r.name (wo.drewN m) hnm : Calls _ _ _ _ _))
        rw [e1] at HN HOK
        have HF : Hid (validRs l = false) := hide (valid_false HT.out (by rw [HOK.out]; rfl))
        go_upto_region 4 with (fail)
        go_quiet ((go_at_call 33; exact quiet_left (HN.out _)))
        go_wp2
        go_ret
        exact ⟨by rw [HF.out]; rfl, below_drewN HB.out _⟩
      · have HN := hide (fun m => (refName_any r.name (wo.drewN m) hnm : Calls _ _ _ _ _))
        rw [e1] at HN HOK
        cases e2 : decide (r.low < -1000000000000)
        · rw [e2] at HOK
          cases e3 : decide (1000000000000 < r.high)
          · rw [e3] at HOK
            by_cases h4 : r.low ≤ r.high
            · have e4 : decide (r.high < r.low) = false := decide_eq_false (by omega)
              rw [decide_eq_true h4] at HOK
              go_upto_region 4 with (fail)
              go_quiet ((go_at_call 33; exact quiet_left (HN.out _)))
              have q0 : (wo.drewN nq).cell? ⟨b, off + k * 3, none⟩ = some (.string r.name) := g0
              have HEQ2 : Hid (∀ j < k, ∃ b' off', (wo.drewN nq).cell? ⟨b', off' + j * 3, none⟩ = some (.string (rngAt l j).name) ∧ b' = b ∧ off' = off) := HEQ
              have HB2 := hide (below_drewN HB.out nq)
              clear g0 g1 g2 HEQ HB HN
              generalize wo.drewN nq = w1 at q0 HEQ2 HB2 ⊢
              go_wp2
              go_loopw [4] (fun i wr => ∃ j : Nat, j ≤ k ∧ i = .int .i64 j ∧ (∀ x < j, (rngAt l x).name ≠ r.name) ∧ ∃ m, wr = w1.drewN m) (fun i _ => k - (intOf i).toNat)
              case atStart => exact ⟨0, Nat.zero_le _, rfl, fun x hx => absurd hx (by omega), 0, rfl⟩
              case round =>
                obtain ⟨j, hj, rfl, hall, m, hwm⟩ := hrel
                have HA := hide hall
                have HW := hide hwm
                have p0 : wr.cell? ⟨b, off + k * 3, none⟩ = some (.string r.name) := by rw [hwm]; exact q0
                have HBW : Hid (Below w.heap.size w wr) := by show _; rw [hwm]; exact below_drewN HB2.out m
                clear hall hwm
                by_cases hjk : j < k
                · obtain ⟨b', off', y0', rfl, rfl⟩ := HEQ2.out j hjk
                  have y0 : wr.cell? ⟨b', off' + j * 3, none⟩ = some (.string (rngAt l j).name) := by rw [HW.out]; exact y0'
                  have HJ : Hid ((rngAt l j).name = r.name → validRs l = false) := fun h => valid_prefix HT.out (has_take hjk (by omega) h)
                  have HK : Hid ((rngAt l j).name ≠ r.name → ∀ x < j + 1, (rngAt l x).name ≠ r.name) := fun h x hx => by
                    by_cases hxj : x < j
                    · exact HA.out x hxj
                    · obtain rfl : x = j := by omega
                      exact h
                  clear y0'
                  generalize (rngAt l j).name = t at y0 HJ HK
                  by_cases ht : t = r.name
                  · have HF := hide (HJ.out ht)
                    rw [ht] at y0
                    go_upto_region 9 with (fail)
                    go_quiet (fail)
                    go_wp2
                    go_ret
                    exact ⟨by rw [HF.out]; rfl, below_drewN HBW.out _⟩
                  · have HX := hide (HK.out ht)
                    have ht' := bytes_ne ht
                    go_upto_region 9 with (fail)
                    go_quiet (fail)
                    go_wp2
                    go_roundw
                    case rel => exact ⟨j + 1, by omega, by go_num, HX.out, m + nq, by rw [HW.out, World.drewN_drewN]⟩
                    case measure => simp [intOf]; omega
                · obtain rfl : j = k := by omega
                  have HN2 := hide (has_not (l := l) (t := r.name) (Nat.le_of_lt hkl) HA.out)
                  go_wp2
                  go_roundw
                  case rel =>
                    refine ⟨j + 1, by omega, by go_num, ?_, HBW.out⟩
                    have hv := HV.out
                    rw [valid_split, Bool.and_eq_true] at hv
                    rw [HT.out, valid_split, List.all_append, distinct_snoc, HN2.out, hv.1, hv.2, List.all_cons, HOK.out]
                    rfl
                  case measure => simp [intOf]; omega
            · have e4 : decide (r.high < r.low) = true := decide_eq_true (by omega)
              rw [decide_eq_false h4] at HOK
              have HF : Hid (validRs l = false) := hide (valid_false HT.out (by rw [HOK.out]; rfl))
              go_upto_region 4 with (fail)
              go_quiet ((go_at_call 33; exact quiet_left (HN.out _)))
              go_wp2
              go_ret
              exact ⟨by rw [HF.out]; rfl, below_drewN HB.out _⟩
          · rw [e3] at HOK
            have HF : Hid (validRs l = false) := hide (valid_false HT.out (by rw [HOK.out]; rfl))
            go_upto_region 4 with (fail)
            go_quiet ((go_at_call 33; exact quiet_left (HN.out _)))
            go_wp2
            go_ret
            exact ⟨by rw [HF.out]; rfl, below_drewN HB.out _⟩
        · rw [e2] at HOK
          have HF : Hid (validRs l = false) := hide (valid_false HT.out (by rw [HOK.out]; rfl))
          go_upto_region 4 with (fail)
          go_quiet ((go_at_call 33; exact quiet_left (HN.out _)))
          go_wp2
          go_ret
          exact ⟨by rw [HF.out]; rfl, below_drewN HB.out _⟩
    · obtain rfl : k = n := by omega
      have HF : Hid (validRs l = true) := by
        have := HV.out
        rw [List.take_of_length_le (by rw [HLN.out]; omega)] at this
        exact this
      go_wp2
      go_ret
      exact ⟨by rw [HF.out]; rfl, HB.out⟩
end Go.Proofs.YtnlcfbaaomdjdaaDoor
