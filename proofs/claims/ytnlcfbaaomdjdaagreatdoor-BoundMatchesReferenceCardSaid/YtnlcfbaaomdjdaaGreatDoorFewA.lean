/-
  Chapter 22: few.
-/
import Derived.Test.YtnlcfbaaomdjdaaGreatDoorHead
set_option linter.unusedVariables false
set_option linter.unusedSimpArgs false
namespace Go.Proofs.YtnlcfbaaomdjdaaGreatDoor
open Go.RowKit Go.Deep Go.Maps

/-- Are an expression and ranges small? -/
def fewL (e : List Nod) (l : List Rng) : Bool :=
  (e.take 24).all (fun x => decide (x.name.size ≤ 40) && decide (x.kids.length ≤ 6)) && ((l.take 12).all (fun r => decide (r.name.size ≤ 40)) && (decide (e.length ≤ 24) && decide (l.length ≤ 12)))
theorem few_out {e : List Nod} {l : List Rng} (h : fewL e l = true) : e.length ≤ 24 ∧ l.length ≤ 12 ∧ (∀ x ∈ e, x.name.size ≤ 40 ∧ x.kids.length ≤ 6) ∧ ∀ r ∈ l, r.name.size ≤ 40 := by
  unfold fewL at h
  simp only [Bool.and_eq_true, decide_eq_true_eq] at h
  obtain ⟨h1, h2, h3, h4⟩ := h
  rw [List.take_of_length_le h3, List.all_eq_true] at h1
  rw [List.take_of_length_le h4, List.all_eq_true] at h2
  exact ⟨h3, h4, fun x hx => by have := h1 x hx; simpa using this, fun r hr => by have := h2 r hr; simpa using this⟩
theorem all_false {α : Type} {p : α → Bool} {l : List α} {k m : Nat} {x : α} (hk : k < m) (h : l[k]? = some x) (hx : p x = false) : (l.take m).all p = false := by
  cases ha : (l.take m).all p
  · rfl
  · have hm : x ∈ l.take m := List.mem_of_getElem? (i := k) (by rw [List.getElem?_take, if_pos hk]; exact h)
    have := List.all_eq_true.1 ha x hm
    rw [hx] at this
    cases this

set_option maxHeartbeats 2000000 in
set_option maxRecDepth 20000 in
theorem refFew_any (A : Option Addr) (c : Nat) (e : List Nod) (A2 : Option Addr) (n2 c2 : Nat) (l : List Rng) (w : World) (he : ExprAt w w.heap.size A e) (hem : e.length ≤ maxLen) (hl : RRg w w.heap.size A2 n2 l) (hln : n2 ≤ maxLen)
    (hen : ∀ x ∈ e, x.name.size ≤ maxLen) (hrn : ∀ r ∈ l, r.name.size ≤ maxLen) (hkn : ∀ x ∈ e, x.kids.length ≤ maxLen) :
    Calls Tryz.prog 9 #[.slice A e.length c, .slice A2 n2 c2] w fun en w' => en = .returned (.bool (fewL e l)) ∧ w = w' := by
  have HEN := hide hen
  have HRN := hide hrn
  have HKN := hide hkn
  clear hen hrn hkn
  unfold maxLen at hem hln
  have hlen := hl.len
  have HLN := hide hlen
  have HE := hide he
  have HL := hide hl
  clear he hl hlen
  go_enter Tryz.func9, Tryz.ntmps9
  go_wp2
  go_loop [5] (fun i => ∃ k : Nat, k ≤ e.length ∧ k ≤ 24 ∧ i = .int .i64 k ∧ (e.take k).all (fun x => decide (x.name.size ≤ 40) && decide (x.kids.length ≤ 6)) = true) (fun i => 24 - (intOf i).toNat)
  case atStart => exact ⟨0, Nat.zero_le _, Nat.zero_le _, rfl, rfl⟩
  case round =>
    obtain ⟨k, hk, hk24, rfl, hall⟩ := hrel
    have HA := hide hall
    clear hall
    by_cases hlt : k < e.length ∧ k < 24
    · obtain ⟨hl1, hl2⟩ := hlt
      obtain ⟨b, off, K, kc, rfl, hb, x0, x1, x2, x3, hK⟩ := HE.out.at_ hl1
      have hx1 : (nodAt e k).name.size ≤ maxLen := HEN.out _ (List.mem_of_getElem? (nodAt_get hl1))
      have hx2 : (nodAt e k).kids.length ≤ maxLen := HKN.out _ (List.mem_of_getElem? (nodAt_get hl1))
      unfold maxLen at hx1 hx2
      have HT := hide (nod_take (e := e) (i := k) hl1)
      have HG := hide (nodAt_get (e := e) (i := k) hl1)
      have b1 : decide (k < e.length) = true := decide_eq_true hl1
      have b2 : decide ((k : Int) < 24) = true := decide_eq_true (by omega)
      generalize nodAt e k = x at x0 x1 x2 x3 hK hx1 hx2 HT HG
      clear hK
      by_cases hn : x.name.size ≤ 40
      · by_cases hkd : x.kids.length ≤ 6
        · have b3 : decide ((40 : Int) < (x.name.size : Int)) = false := decide_eq_false (by omega)
          have b4 : decide ((6 : Int) < (x.kids.length : Int)) = false := decide_eq_false (by omega)
          go_wp2
          go_round
          case rel => exact ⟨k + 1, by omega, by omega, by go_num, by rw [HT.out, List.all_append, HA.out]; simp [hn, hkd]⟩
          case measure => simp [intOf]; omega
        · have b3 : decide ((40 : Int) < (x.name.size : Int)) = false := decide_eq_false (by omega)
          have b4 : decide ((6 : Int) < (x.kids.length : Int)) = true := decide_eq_true (by omega)
          have HF : Hid (fewL e l = false) := by
            show _ = _
            unfold fewL
            rw [all_false hl2 HG.out (by simp; omega)]
            rfl
          go_wp2
          go_ret
          exact ⟨by rw [HF.out]; rfl, rfl⟩
      · have b3 : decide ((40 : Int) < (x.name.size : Int)) = true := decide_eq_true (by omega)
        have HF : Hid (fewL e l = false) := by
          show _ = _
          unfold fewL
          rw [all_false hl2 HG.out (by simp; omega)]
          rfl
        go_wp2
        go_ret
        exact ⟨by rw [HF.out]; rfl, rfl⟩
    · have HC : Hid ((e.take 24).all (fun x => decide (x.name.size ≤ 40) && decide (x.kids.length ≤ 6)) = true) := by
        show _ = _
        by_cases h24 : k < 24
        · rw [List.take_of_length_le (by omega)]
          have := HA.out
          rw [List.take_of_length_le (by omega)] at this
          exact this
        · obtain rfl : k = 24 := by omega
          exact HA.out
      have hex : (decide (k < e.length) = false) ∨ (decide (k < e.length) = true ∧ decide ((k : Int) < 24) = false) := by
        by_cases h1 : k < e.length
        · exact .inr ⟨decide_eq_true h1, decide_eq_false (by omega)⟩
        · exact .inl (decide_eq_false h1)
      have hcond : True := trivial
      clear hlt HA
      rcases hex with b1 | ⟨b1, b2⟩
      all_goals
        go_wp2
        go_loop [6] (fun i => ∃ j : Nat, j ≤ l.length ∧ j ≤ 12 ∧ i = .int .i64 j ∧ (l.take j).all (fun r => decide (r.name.size ≤ 40)) = true) (fun i => 12 - (intOf i).toNat)
        case atStart => exact ⟨0, Nat.zero_le _, Nat.zero_le _, rfl, rfl⟩
        case round =>
          obtain ⟨j, hj, hj12, rfl, hall⟩ := hrel
          have HB := hide hall
          clear hall
          by_cases hlt : j < l.length ∧ j < 12
          · obtain ⟨hl1, hl2⟩ := hlt
            have hj2 : j < n2 := by have := HLN.out; omega
            obtain ⟨b, off, rfl, hb, y0, -, -⟩ := RRg.at_ HL.out hj2
            have hy1 : (rngAt l j).name.size ≤ maxLen := HRN.out _ (List.mem_of_getElem? (rngAt_get hl1))
            unfold maxLen at hy1
            have HT := hide (rng_take (rs := l) (i := j) hl1)
            have HG := hide (rngAt_get (rs := l) (i := j) hl1)
            have c1 : decide ((j : Int) < (n2 : Int)) = true := decide_eq_true (by omega)
            have c1' : decide (j < n2) = true := decide_eq_true (by omega)
            have c2 : decide ((j : Int) < 12) = true := decide_eq_true (by omega)
            generalize rngAt l j = r at y0 hy1 HT HG
            by_cases hn : r.name.size ≤ 40
            · have c3 : decide ((40 : Int) < (r.name.size : Int)) = false := decide_eq_false (by omega)
              go_wp2
              go_round
              case rel => exact ⟨j + 1, by omega, by omega, by go_num, by rw [HT.out, List.all_append, HB.out]; simp [hn]⟩
              case measure => simp [intOf]; omega
            · have c3 : decide ((40 : Int) < (r.name.size : Int)) = true := decide_eq_true (by omega)
              have HF : Hid (fewL e l = false) := by
                show _ = _
                unfold fewL
                rw [all_false hl2 HG.out (by simp; omega)]
                simp
              go_wp2
              go_ret
              exact ⟨by rw [HF.out]; rfl, rfl⟩
          · have HD : Hid ((l.take 12).all (fun r => decide (r.name.size ≤ 40)) = true) := by
              show _ = _
              by_cases h12 : j < 12
              · rw [List.take_of_length_le (by omega)]
                have := HB.out
                rw [List.take_of_length_le (by omega)] at this
                exact this
              · obtain rfl : j = 12 := by omega
                exact HB.out
            have hln2 : l.length = n2 := HLN.out
            have HF : Hid (fewL e l = (decide (e.length ≤ 24) && decide (l.length ≤ 12))) := by
              show _ = _
              unfold fewL
              rw [HC.out, HD.out]
              simp
            have hey : (decide (j < n2) = false) ∨ (decide (j < n2) = true ∧ decide ((j : Int) < 12) = false) := by
              by_cases h1 : j < n2
              · exact .inr ⟨decide_eq_true h1, decide_eq_false (by omega)⟩
              · exact .inl (decide_eq_false h1)
            clear hlt
            obtain ⟨d1, hd1⟩ : ∃ d, d = decide ((e.length : Int) ≤ 24) := ⟨_, rfl⟩
            obtain ⟨d2, hd2⟩ : ∃ d, d = decide ((n2 : Int) ≤ 12) := ⟨_, rfl⟩
            have HR : Hid (fewL e l = (d1 && d2)) := by
              show _ = _
              rw [HF.out, hd1, hd2, hln2]
              congr 1 <;> exact decide_eq_decide.2 (by omega)
            have e1 := hd1.symm
            have e2 := hd2.symm
            clear hd1 hd2 HF HC HD
            rcases hey with c1 | ⟨c1, c2⟩
            all_goals
              cases d1
              all_goals
                cases d2
                all_goals
                  go_wp2
                  go_ret
                  exact ⟨by rw [HR.out]; rfl, rfl⟩
set_option maxHeartbeats 1000000 in
theorem few_any (A : Option Addr) (c : Nat) (e : List Nod) (A2 : Option Addr) (n2 c2 : Nat) (l : List Rng) (w : World) (he : ExprAt w w.heap.size A e) (hem : e.length ≤ maxLen) (hl : RRg w w.heap.size A2 n2 l) (hln : n2 ≤ maxLen)
    (hen : ∀ x ∈ e, x.name.size ≤ maxLen) (hrn : ∀ r ∈ l, r.name.size ≤ maxLen) (hkn : ∀ x ∈ e, x.kids.length ≤ maxLen) :
    Calls Tryz.prog 5 #[.slice A e.length c, .slice A2 n2 c2] w fun en w' => en = .returned (.bool (fewL e l)) ∧ w = w' := by
  have H := hide (refFew_any A c e A2 n2 c2 l w he hem hl hln hen hrn hkn)
  clear he hl hen hrn hkn
  go_enter Tryz.func5, Tryz.ntmps5
  go_wp2_with fail
  refine H.out.mono ?_
  rintro en w' ⟨rfl, rfl⟩
  clear H
  go_wp2
  go_ret
  exact ⟨rfl, rfl⟩
end Go.Proofs.YtnlcfbaaomdjdaaGreatDoor
