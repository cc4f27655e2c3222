/-
  Chapters 21 and 23: few.
-/
import Derived.Test.YtkomgidcgepknaaGreatDoorMeM
import Derived.Test.YtkomgidcgepknaaGreatDoorExpG
set_option linter.unusedVariables false
set_option linter.unusedSimpArgs false
namespace Go.Proofs.YtkomgidcgepknaaGreatDoor
open Go.RowKit Go.Deep Go.Maps

/-- Is an expression small? -/
def few21 (e : List Nod) : Bool :=
  (e.take 310).all (fun x => decide (x.kids.length ≤ 4) && decide (x.name.size ≤ 30)) && (decide (e.length ≤ 60) || (decide (298 < e.length) && decide (e.length ≤ 310)))
/-- Are an expression and variables small? -/
def few23 (e : List Nod) (l : List Vr) : Bool := (l.take 12).all (fun r => decide (r.name.size ≤ 40)) && (few21 e && decide (l.length ≤ 12))
theorem all_false' {α : Type} {p : α → Bool} {l : List α} {k m : Nat} {x : α} (hk : k < m) (h : l[k]? = some x) (hx : p x = false) : (l.take m).all p = false := by
  cases ha : (l.take m).all p
  · rfl
  · have hm : x ∈ l.take m := List.mem_of_getElem? (i := k) (by rw [List.getElem?_take, if_pos hk]; exact h)
    have := List.all_eq_true.1 ha x hm
    rw [hx] at this
    cases this
theorem few21_out {e : List Nod} (h : few21 e = true) : e.length ≤ 310 ∧ ∀ x ∈ e, x.kids.length ≤ 4 ∧ x.name.size ≤ 30 := by
  unfold few21 at h
  simp only [Bool.and_eq_true, Bool.or_eq_true, decide_eq_true_eq] at h
  obtain ⟨h1, h2⟩ := h
  have hl : e.length ≤ 310 := by omega
  rw [List.take_of_length_le hl, List.all_eq_true] at h1
  exact ⟨hl, fun x hx => by have := h1 x hx; simpa using this⟩
theorem few23_out {e : List Nod} {l : List Vr} (h : few23 e l = true) : few21 e = true ∧ e.length ≤ 310 ∧ (∀ x ∈ e, x.kids.length ≤ 4 ∧ x.name.size ≤ 30) ∧ l.length ≤ 12 ∧ ∀ r ∈ l, r.name.size ≤ 40 := by
  unfold few23 at h
  simp only [Bool.and_eq_true, decide_eq_true_eq] at h
  obtain ⟨h1, h2, h3⟩ := h
  have h4 := few21_out h2
  rw [List.take_of_length_le h3, List.all_eq_true] at h1
  exact ⟨h2, h4.1, h4.2, h3, fun r hr => by have := h1 r hr; simpa using this⟩

set_option maxHeartbeats 2000000 in
set_option maxRecDepth 20000 in
theorem few21_any (A : Option Addr) (c : Nat) (e : List Nod) (w : World) (he : ExprAt w w.heap.size A e) (hem : e.length ≤ maxLen)
    (hen : ∀ x ∈ e, x.name.size ≤ maxLen) (hkn : ∀ x ∈ e, x.kids.length ≤ maxLen) :
    Calls Tryz.prog 26 #[.slice A e.length c] w fun en w' => en = .returned (.bool (few21 e)) ∧ w = w' := by
  have HEN := hide hen
  have HKN := hide hkn
  clear hen hkn
  unfold maxLen at hem
  have HE := hide he
  clear he
  go_enter Tryz.func26, Tryz.ntmps26
  go_wp2
  go_loop [3] (fun i => ∃ k : Nat, k ≤ e.length ∧ k ≤ 310 ∧ i = .int .i64 k ∧ (e.take k).all (fun x => decide (x.kids.length ≤ 4) && decide (x.name.size ≤ 30)) = true) (fun i => 310 - (intOf i).toNat)
  case atStart => exact ⟨0, Nat.zero_le _, Nat.zero_le _, rfl, rfl⟩
  case round =>
    obtain ⟨k, hk, hk24, rfl, hall⟩ := hrel
    have HA := hide hall
    clear hall
    by_cases hlt : k < e.length ∧ k < 310
    · obtain ⟨hl1, hl2⟩ := hlt
      obtain ⟨b, off, K, kc, rfl, hb, x0, x1, x2, x3, hK⟩ := HE.out.at_ hl1
      have hx1 : (nodAt e k).name.size ≤ maxLen := HEN.out _ (List.mem_of_getElem? (nodAt_get hl1))
      have hx2 : (nodAt e k).kids.length ≤ maxLen := HKN.out _ (List.mem_of_getElem? (nodAt_get hl1))
      unfold maxLen at hx1 hx2
      have HT := hide (nod_take (e := e) (i := k) hl1)
      have HG := hide (nodAt_get (e := e) (i := k) hl1)
      have b1 : decide (k < e.length) = true := decide_eq_true hl1
      have b2 : decide ((k : Int) < 310) = true := decide_eq_true (by omega)
      generalize nodAt e k = x at x0 x1 x2 x3 hK hx1 hx2 HT HG
      clear hK
      by_cases hkd : x.kids.length ≤ 4
      · have b4 : decide ((4 : Int) < (x.kids.length : Int)) = false := decide_eq_false (by omega)
        by_cases hn : x.name.size ≤ 30
        · have b3 : decide ((30 : Int) < (x.name.size : Int)) = false := decide_eq_false (by omega)
          go_wp2
          go_round
          case rel => exact ⟨k + 1, by omega, by omega, by go_num, by rw [HT.out, List.all_append, HA.out]; simp [hn, hkd]⟩
          case measure => simp [intOf]; omega
        · have b3 : decide ((30 : Int) < (x.name.size : Int)) = true := decide_eq_true (by omega)
          have HF : Hid (few21 e = false) := by
            show _ = _
            unfold few21
            rw [all_false' hl2 HG.out (by simp; omega)]
            rfl
          go_wp2
          go_ret
          exact ⟨by rw [HF.out]; rfl, rfl⟩
      · have b4 : decide ((4 : Int) < (x.kids.length : Int)) = true := decide_eq_true (by omega)
        have HF : Hid (few21 e = false) := by
          show _ = _
          unfold few21
          rw [all_false' hl2 HG.out (by simp; omega)]
          rfl
        go_wp2
        go_ret
        exact ⟨by rw [HF.out]; rfl, rfl⟩
    · have HC : Hid ((e.take 310).all (fun x => decide (x.kids.length ≤ 4) && decide (x.name.size ≤ 30)) = true) := by
        show _ = _
        by_cases h24 : k < 310
        · rw [List.take_of_length_le (by omega)]
          have := HA.out
          rw [List.take_of_length_le (by omega)] at this
          exact this
        · obtain rfl : k = 310 := by omega
          exact HA.out
      have hex : (decide (k < e.length) = false) ∨ (decide (k < e.length) = true ∧ decide ((k : Int) < 310) = false) := by
        by_cases h1 : k < e.length
        · exact .inr ⟨decide_eq_true h1, decide_eq_false (by omega)⟩
        · exact .inl (decide_eq_false h1)
      obtain ⟨d1, hd1⟩ : ∃ d, d = decide ((e.length : Int) ≤ 60) := ⟨_, rfl⟩
      obtain ⟨d2, hd2⟩ : ∃ d, d = decide ((298 : Int) < e.length) := ⟨_, rfl⟩
      obtain ⟨d3, hd3⟩ : ∃ d, d = decide ((e.length : Int) ≤ 310) := ⟨_, rfl⟩
      have HR : Hid (few21 e = (d1 || (d2 && d3))) := by
        show _ = _
        unfold few21
        rw [HC.out, hd1, hd2, hd3, Bool.true_and]
        congr 1
        · exact decide_eq_decide.2 (by omega)
        · congr 1 <;> exact decide_eq_decide.2 (by omega)
      have e1 := hd1.symm
      have e2 := hd2.symm
      have e3 := hd3.symm
      clear hlt HA HC hd1 hd2 hd3
      rcases hex with b1 | ⟨b1, b2⟩
      all_goals
        cases d1
        all_goals
          cases d2
          all_goals
            cases d3
            all_goals
              go_wp2
              go_ret
              exact ⟨by rw [HR.out]; rfl, rfl⟩
set_option maxHeartbeats 2000000 in
set_option maxRecDepth 20000 in
theorem refFew23_any (A : Option Addr) (c : Nat) (e : List Nod) (A2 : Option Addr) (n2 c2 : Nat) (l : List Vr) (w : World) (he : ExprAt w w.heap.size A e) (hem : e.length ≤ maxLen) (hl : RVr w w.heap.size A2 n2 l) (hln : n2 ≤ maxLen)
    (hen : ∀ x ∈ e, x.name.size ≤ maxLen) (hrn : ∀ r ∈ l, r.name.size ≤ maxLen) (hkn : ∀ x ∈ e, x.kids.length ≤ maxLen) :
    Calls Tryz.prog 89 #[.slice A e.length c, .slice A2 n2 c2] w fun en w' => en = .returned (.bool (few23 e l)) ∧ w = w' := by
  have H21 := hide (few21_any A c e w he hem hen hkn)
  have HRN := hide hrn
  clear hen hrn hkn he
  unfold maxLen at hem hln
  have hlen := hl.len
  have HLN := hide hlen
  have HL := hide hl
  clear hl hlen
  go_enter Tryz.func89, Tryz.ntmps89
  go_wp2
  go_loop [5] (fun i => ∃ j : Nat, j ≤ l.length ∧ j ≤ 12 ∧ i = .int .i64 j ∧ (l.take j).all (fun r => decide (r.name.size ≤ 40)) = true) (fun i => 12 - (intOf i).toNat)
  case atStart => exact ⟨0, Nat.zero_le _, Nat.zero_le _, rfl, rfl⟩
  case round =>
    obtain ⟨j, hj, hj12, rfl, hall⟩ := hrel
    have HB := hide hall
    clear hall
    by_cases hlt : j < l.length ∧ j < 12
    · obtain ⟨hl1, hl2⟩ := hlt
      have hj2 : j < n2 := by have := HLN.out; omega
      obtain ⟨b, off, rfl, hb, y0, -⟩ := RVr.at_ HL.out hj2
      have hy1 : (vrAt l j).name.size ≤ maxLen := HRN.out _ (List.mem_of_getElem? (vrAt_get hl1))
      unfold maxLen at hy1
      have HT := hide (vr_take (l := l) (i := j) hl1)
      have HG := hide (vrAt_get (l := l) (i := j) hl1)
      have c1 : decide ((j : Int) < (n2 : Int)) = true := decide_eq_true (by omega)
      have c1' : decide (j < n2) = true := decide_eq_true (by omega)
      have c2 : decide ((j : Int) < 12) = true := decide_eq_true (by omega)
      generalize vrAt l j = r at y0 hy1 HT HG
      by_cases hn : r.name.size ≤ 40
      · have c3 : decide ((40 : Int) < (r.name.size : Int)) = false := decide_eq_false (by omega)
        go_wp2
        go_round
        case rel => exact ⟨j + 1, by omega, by omega, by go_num, by rw [HT.out, List.all_append, HB.out]; simp [hn]⟩
        case measure => simp [intOf]; omega
      · have c3 : decide ((40 : Int) < (r.name.size : Int)) = true := decide_eq_true (by omega)
        have HF : Hid (few23 e l = false) := by
          show _ = _
          unfold few23
          rw [all_false' hl2 HG.out (by simp; omega)]
          simp
        go_wp2
        go_ret
        exact ⟨by rw [HF.out]; rfl, rfl⟩
    · have HD : Hid ((l.take 12).all (fun r => decide (r.name.size ≤ 40)) = true) := by
        show _ = _
        by_cases h12 : j < 12
        · rw [List.take_of_length_le (by omega)]
          have := HB.out
          rw [List.take_of_length_le (by omega)] at this
          exact this
        · obtain rfl : j = 12 := by omega
          exact HB.out
      have hln2 : l.length = n2 := HLN.out
      have hey : (decide (j < n2) = false) ∨ (decide (j < n2) = true ∧ decide ((j : Int) < 12) = false) := by
        by_cases h1 : j < n2
        · exact .inr ⟨decide_eq_true h1, decide_eq_false (by omega)⟩
        · exact .inl (decide_eq_false h1)
      clear hlt
      obtain ⟨d2, hd2⟩ : ∃ d, d = decide ((n2 : Int) ≤ 12) := ⟨_, rfl⟩
      have HR : Hid (few23 e l = (few21 e && d2)) := by
        show _ = _
        unfold few23
        rw [HD.out, hd2, hln2, Bool.true_and]
        congr 1
        exact decide_eq_decide.2 (by omega)
      have e2 := hd2.symm
      clear hd2 HD HB
      generalize few21 e = d1 at HR H21
      rcases hey with c1 | ⟨c1, c2⟩
      all_goals
        go_wp2_with fail
        refine H21.out.mono ?_
        rintro en w' ⟨rfl, rfl⟩
        cases d1
        all_goals
          cases d2
          all_goals
            go_wp2
            go_ret
            exact ⟨by rw [HR.out]; rfl, rfl⟩
set_option maxHeartbeats 1000000 in
theorem few_any (A : Option Addr) (c : Nat) (e : List Nod) (A2 : Option Addr) (n2 c2 : Nat) (l : List Vr) (w : World) (he : ExprAt w w.heap.size A e) (hem : e.length ≤ maxLen) (hl : RVr w w.heap.size A2 n2 l) (hln : n2 ≤ maxLen)
    (hen : ∀ x ∈ e, x.name.size ≤ maxLen) (hrn : ∀ r ∈ l, r.name.size ≤ maxLen) (hkn : ∀ x ∈ e, x.kids.length ≤ maxLen) :
    Calls Tryz.prog 39 #[.slice A e.length c, .slice A2 n2 c2] w fun en w' => en = .returned (.bool (few23 e l)) ∧ w = w' := by
  have H := hide (refFew23_any A c e A2 n2 c2 l w he hem hl hln hen hrn hkn)
  clear he hl hen hrn hkn
  go_enter Tryz.func39, Tryz.ntmps39
  go_wp2_with fail
  refine H.out.mono ?_
  rintro en w' ⟨rfl, rfl⟩
  clear H
  go_wp2
  go_ret
  exact ⟨rfl, rfl⟩
end Go.Proofs.YtkomgidcgepknaaGreatDoor
