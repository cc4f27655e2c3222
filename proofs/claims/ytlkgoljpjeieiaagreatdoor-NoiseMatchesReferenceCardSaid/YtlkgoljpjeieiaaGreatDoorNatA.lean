/-
  Chapter 3, natural: limb, trimmed, collect.
-/
import Derived.Test.YtlkgoljpjeieiaaGreatDoorTools
import Derived.Test.YtlkgoljpjeieiaaGreatDoorLimP
set_option linter.unusedVariables false
set_option linter.unusedSimpArgs false
namespace Go.Proofs.YtlkgoljpjeieiaaGreatDoor
open Go.RowKit Go.Deep Go.Maps

theorem limb_any (A : Option Addr) (c N n k : Nat) (w : World) (h : RI w w.heap.size A n (lim N)) (hn : n ≤ 1000000) (hk : k ≤ 1000000) :
    Calls Tryz.prog 61 #[.slice A n c, .int .i64 k] w fun en w' => en = .returned (.int .i64 (dig N k)) ∧ w' = w := by
  have hl : nlim N = n := by
    have := h.len
    rw [lim_len] at this
    exact this
  go_enter Tryz.func61, Tryz.ntmps61
  by_cases hlt : k < n
  · obtain ⟨b, off, rfl, hb, g⟩ := h.at_ hlt
    rw [lim_nth (by omega)] at g
    generalize (dig N k : Int) = x at g ⊢
    clear hl h
    go_wp2
    go_ret
    exact ⟨rfl, rfl⟩
  · rw [dig_out (by omega)]
    clear hl h
    go_wp2
    go_ret
    exact ⟨rfl, rfl⟩
theorem reads_take {w : World} {B : Nat} {A : Option Addr} {n : Nat} {xs : List Int} (h : RI w B A n xs) {m : Nat} (hm : m ≤ n) : RI w B A m (xs.take m) := by
  have hl := h.len
  refine ⟨by rw [ints_length, List.length_take]; omega, fun h0 => ?_⟩
  obtain ⟨ad, hA, hb, hc⟩ := h.2 (by omega)
  refine ⟨ad, hA, hb, fun j u hu => hc j u ?_⟩
  have hj : j < m := by
    obtain ⟨hj, _⟩ := List.getElem?_eq_some_iff.1 hu
    rw [ints_length, List.length_take] at hj
    omega
  unfold ints at hu ⊢
  rw [List.getElem?_map, List.getElem?_take_of_lt hj] at hu
  rw [List.getElem?_map]
  exact hu
/-- trimmed, of limbs with zeros at the end. -/
theorem trimmed_lim (g c V n : Nat) (w : World) (h : RI w w.heap.size (some ⟨g, 0, none⟩) n (padL V n)) (hV : V < LB ^ n) (hn : n ≤ 1000000) (hc : n ≤ c) (hc2 : c ≤ maxLen) :
    Calls Tryz.prog 84 #[.slice (some ⟨g, 0, none⟩) n c] w fun en w' => en = .returned (.slice (some ⟨g, 0, none⟩) (nlim V) c) ∧ RI w w.heap.size (some ⟨g, 0, none⟩) (nlim V) (lim V) ∧ nlim V ≤ n ∧ w' = w := by
  have HR := hide h
  have HV := hide hV
  unfold maxLen at hc2
  clear h hV
  go_enter Tryz.func84, Tryz.ntmps84
  go_wp2
  go_loopw [3] (fun t3 wr => ∃ m : Nat, m ≤ n ∧ t3 = .int .i64 m ∧ (∀ i, m ≤ i → i < n → nth (padL V n) i = 0) ∧ wr = w) (fun t3 _ => (intOf t3).toNat)
  case atStart => exact ⟨n, Nat.le_refl _, rfl, fun i h1 h2 => absurd h2 (by omega), rfl⟩
  case round =>
    obtain ⟨m, hm, rfl, hz, hw⟩ := hrel
    subst hw
    have HZ := hide hz
    clear hz
    have FIN : Hid ((m = 0 ∨ nth (padL V n) (m - 1) ≠ 0) → nlim V = m ∧ RI wr wr.heap.size (some ⟨g, 0, none⟩) m (lim V)) := hide (fun h1 => by
      obtain ⟨e1, e2⟩ := padL_trim HV.out hm HZ.out h1
      have := reads_take HR.out hm
      rw [e1] at this
      exact ⟨e2.symm, this⟩)
    by_cases h0 : m = 0
    · subst h0
      obtain ⟨e1, e2⟩ := FIN.out (.inl rfl)
      have E1 := hide e1
      have E2 := hide e2
      clear e1 e2 FIN HZ HR HV
      go_wp2
      go_ret
      exact ⟨by rw [E1.out]; rfl, by rw [E1.out]; exact E2.out, by rw [E1.out]; omega, rfl⟩
    · obtain ⟨m', rfl⟩ : ∃ m', m = m' + 1 := ⟨m - 1, by omega⟩
      obtain ⟨b, off, hA, hb, g0⟩ := HR.out.at_ (k := m') (by omega)
      injection hA with hA
      injection hA with e1 e2
      subst e1 e2
      rw [Nat.zero_add] at g0
      by_cases hx : nth (padL V n) m' = 0
      · rw [hx] at g0
        have HZ2 : Hid (∀ i, m' ≤ i → i < n → nth (padL V n) i = 0) := hide (fun i h1 h2 => by
          by_cases e : i = m'
          · rw [e]; exact hx
          · exact HZ.out i (by omega) h2)
        clear FIN hx HZ
        go_wp2
        go_roundw
        case rel => exact ⟨m', by omega, by go_num, HZ2.out, trivial⟩
        case measure => simp [intOf] <;> omega
      · obtain ⟨e1, e2⟩ := FIN.out (.inr (by rw [Nat.add_sub_cancel]; exact hx))
        have E1 := hide e1
        have E2 := hide e2
        generalize nth (padL V n) m' = x at g0 hx
        have q1 : (x == 0) = false := beq_eq_false_iff_ne.2 hx
        have b1 : (0 : Int) ≤ ((m' + 1 : Nat) : Int) := by omega
        have b2 : ((m' + 1 : Nat) : Int) ≤ (c : Int) := by omega
        have b3 : m' + 1 ≤ c := by omega
        clear e1 e2 FIN HZ HR HV hx
        go_wp2
        go_ret
        exact ⟨by rw [E1.out]; rfl, by rw [E1.out]; exact E2.out, by rw [E1.out]; omega, rfl⟩
end Go.Proofs.YtlkgoljpjeieiaaGreatDoor
