/-
  Chapter 23: merit's small functions.
-/
import Derived.Test.YtkomgidcgepknaaGreatDoorLexW
import Derived.Test.YtkomgidcgepknaaGreatDoorNameP
import Derived.Test.YtkomgidcgepknaaGreatDoorMerP
set_option linter.unusedVariables false
set_option linter.unusedSimpArgs false
namespace Go.Proofs.YtkomgidcgepknaaGreatDoor
open Go.RowKit Go.Deep Go.Maps

set_option maxHeartbeats 1000000 in
set_option maxRecDepth 20000 in
theorem meritIdent_any (s : ByteArray) (w : World) (hs : s.size ≤ maxLen) : Calls Tryz.prog 110 #[.string s] w fun e w' => e = .returned (.bool (lexName s)) ∧ Below w.heap.size w w' := by
  go_enter Tryz.func110, Tryz.ntmps110
  go_wp2_with fail
  refine (lex_any s w hs).mono ?_
  rintro e w1 ⟨⟨v, rfl, A, c, rfl, hown⟩, hb⟩
  have HI0 : Hid (lexName s = ((lexL s).err == 0 && (match (lexL s).toks with | [t] => t.kind == 1 && decide (t.text = s) | _ => false))) := rfl
  generalize lexL s = r at hown HI0 ⊢
  obtain ⟨ts, er, off⟩ := r
  dsimp only at hown HI0 ⊢
  by_cases he : er = 0
  · subst he
    by_cases hl : ts.length = 1
    · obtain ⟨t, rfl⟩ : ∃ t, ts = [t] := List.length_eq_one_iff.1 hl
      obtain ⟨g, cap, hv, hgb, hlt⟩ := World.ownsRow.form hown (by simp)
      injection hv with hA _ hc
      subst hA
      have hcell := (World.ownsRow.cells hown (g := g) rfl)
      have k0 : w1.cell? ⟨g, 0, none⟩ = some (.int .i64 t.kind) := hcell 0 _ rfl
      have k1 : w1.cell? ⟨g, 1, none⟩ = some (.string t.text) := hcell 1 _ rfl
      clear hcell hown hl
      have HI : Hid (lexName s = (t.kind == 1 && decide (t.text = s))) := by
        show _ = _
        rw [HI0.out]
        rfl
      clear HI0
      by_cases hk : t.kind = 1
      · by_cases ht : t.text = s
        · rw [hk] at k0
          rw [ht] at k1
          have HR : Hid (lexName s = true) := by
            show _ = _
            rw [HI.out, hk, decide_eq_true ht]
            rfl
          clear HI hk ht
          go_wp2
          go_ret
          exact ⟨by rw [HR.out]; rfl, hb⟩
        · have HR : Hid (lexName s = false) := by
            show _ = _
            rw [HI.out, decide_eq_false ht, Bool.and_false]
          rw [hk] at k0
          have ht1 : ¬ t.text.toList = s.toList := by
            intro h
            rw [Go.Lib.toList_data, Go.Lib.toList_data] at h
            exact ht (ByteArray.ext (Array.toList_inj.1 h))
          have ht' : (t.text.toList == s.toList) = false := beq_eq_false_iff_ne.2 ht1
          clear HI hk
          go_wp2
          all_goals go_ret
          all_goals exact ⟨by rw [HR.out]; rfl, hb⟩
      · have HR : Hid (lexName s = false) := by
          show _ = _
          rw [HI.out, beq_eq_false_iff_ne.2 hk, Bool.false_and]
        have hk' : (t.kind == 1) = false := beq_eq_false_iff_ne.2 hk
        clear HI hk
        go_wp2
        all_goals go_ret
        all_goals exact ⟨by rw [HR.out]; rfl, hb⟩
    · have HI : Hid (lexName s = false) := by
        show lexName s = false
        rw [HI0.out]
        rcases ts with _ | ⟨t, _ | ⟨t2, ts⟩⟩
        · rfl
        · exact absurd rfl hl
        · rfl
      have hl' : (((ts.length : Nat) : Int) == 1) = false := beq_eq_false_iff_ne.2 (by omega)
      clear HI0
      go_wp2
      go_ret
      exact ⟨by rw [HI.out]; rfl, hb⟩
  · have he' : (er == 0) = false := beq_eq_false_iff_ne.2 he
    have HI : Hid (lexName s = false) := by
      show lexName s = false
      rw [HI0.out, he']
      rfl
    clear HI0
    go_wp2
    go_ret
    exact ⟨by rw [HI.out]; rfl, hb⟩
theorem meritName_any (s : ByteArray) (w : World) (hs : s.size ≤ maxLen) : Calls Tryz.prog 110 #[.string s] w fun e w' => e = .returned (.bool (nameB s)) ∧ Below w.heap.size w w' := by
  have := meritIdent_any s w hs
  rw [lexName_eq] at this
  exact this

theorem meritOut_any (n : Int) (w : World) : Calls Tryz.prog 61 #[.int .i64 n] w fun e w' => e = .returned (.bool (beyondL n)) ∧ w = w' := by
  have HB : Hid (beyondL n = (decide (n < -1000000000000) || decide (1000000000000 < n))) := rfl
  cases h1 : decide (n < -1000000000000) <;> cases h2 : decide (1000000000000 < n)
  all_goals
    rw [h1, h2] at HB
    go_enter Tryz.func61, Tryz.ntmps61
    go_wp2
    go_ret
    exact ⟨by rw [HB.out]; rfl, rfl⟩
theorem meritOut_is (n : Int) (w : World) (b : Bool) (h : beyondL n = b) : Calls Tryz.prog 61 #[.int .i64 n] w fun e w' => e = .returned (.bool b) ∧ w = w' := by
  have := meritOut_any n w
  rw [h] at this
  exact this

theorem meritNumber_any (b : Bool) (w : World) : Calls Tryz.prog 113 #[.bool b] w fun e w' => e = .returned (.int .i64 (if b = true then 1 else 0)) ∧ w = w' := by
  cases b
  all_goals
    go_enter Tryz.func113, Tryz.ntmps113
    go_wp2
    go_ret
    exact ⟨rfl, rfl⟩

def clampL (n : Int) : Int := min (max n 1) 10000
theorem meritClamp_any (n : Int) (w : World) : Calls Tryz.prog 88 #[.int .i64 n] w fun e w' => e = .returned (.int .i64 (clampL n)) ∧ w = w' := by
  have HC : Hid (clampL n = min (max n 1) 10000) := rfl
  go_enter Tryz.func88, Tryz.ntmps88
  go_wp2
  go_ret
  exact ⟨by rw [HC.out]; rfl, rfl⟩

/-- The absolute value. -/
theorem meritAbs_any (a : Int) (ha : -1000000000000 ≤ a ∧ a ≤ 1000000000000) (w : World) : Calls Tryz.prog 162 #[.int .i64 a] w fun e w' => e = .returned (.int .u64 (a.natAbs : Int)) ∧ w = w' := by
  have hm : max a (-a) = (a.natAbs : Int) := by omega
  have hb : a.natAbs ≤ 1000000000000 := by omega
  obtain ⟨ha1, ha2⟩ := ha
  go_enter Tryz.func162, Tryz.ntmps162
  go_wp2
  go_ret
  exact ⟨rfl, rfl⟩
/-- A product, or a number beyond the bounds. -/
def mulM (a b : Int) : Int := if beyondL (a * b) = true then 1000000000001 else a * b
theorem tdiv_bdM (a b : Int) (ha : -1000000000000 ≤ a ∧ a ≤ 1000000000000) : -1000000000000 ≤ a.tdiv b ∧ a.tdiv b ≤ 1000000000000 := by
  have h := Int.natAbs_tdiv a b
  have h2 : a.natAbs / b.natAbs ≤ a.natAbs := Nat.div_le_self _ _
  have h3 : (a.tdiv b).natAbs ≤ a.natAbs := by rw [h]; exact h2
  omega
set_option maxHeartbeats 2000000 in
theorem meritDivR_any (a b : Int) (w : World) (ha : -1000000000000 ≤ a ∧ a ≤ 1000000000000) : Calls Tryz.prog 112 #[.int .i64 a, .int .i64 b] w fun e w' => e = .returned (.int .i64 (overL a b)) ∧ w = w' := by
  have hd := tdiv_bdM a b ha
  obtain ⟨ha1, ha2⟩ := ha
  by_cases hb : b = 0
  · subst hb
    go_enter Tryz.func112, Tryz.ntmps112
    go_wp2
    go_ret
    exact ⟨rfl, rfl⟩
  · have hb' : (b == 0) = false := beq_eq_false_iff_ne.2 hb
    have HO : Hid (overL a b = if a.tmod b ≠ 0 ∧ (decide (a < 0) ≠ decide (b < 0)) then a.tdiv b - 1 else a.tdiv b) := by
      show _ = _
      unfold overL
      rw [if_neg hb]
    by_cases hm : a.tmod b = 0
    · have hm' : (a.tmod b != 0) = false := bne_eq_false_iff_eq.2 hm
      rw [if_neg (fun h => h.1 hm)] at HO
      clear hm
      go_enter Tryz.func112, Tryz.ntmps112
      go_wp2
      go_ret
      exact ⟨by rw [HO.out]; rfl, rfl⟩
    · have hm' : (a.tmod b != 0) = true := bne_iff_ne.2 hm
      by_cases hs : decide (a < 0) = decide (b < 0)
      · rw [if_neg (fun h => h.2 hs)] at HO
        have hs' : (decide (a < 0) == decide (b < 0)) = true := beq_iff_eq.2 hs
        clear hm hs
        go_enter Tryz.func112, Tryz.ntmps112
        go_wp2
        go_ret
        exact ⟨by rw [HO.out]; rfl, rfl⟩
      · rw [if_pos ⟨hm, hs⟩] at HO
        have hs' : (decide (a < 0) == decide (b < 0)) = false := beq_eq_false_iff_ne.2 hs
        clear hm hs
        go_enter Tryz.func112, Tryz.ntmps112
        go_wp2
        go_ret
        exact ⟨by rw [HO.out]; rfl, rfl⟩
theorem meritDiv_any (a b : Int) (w : World) (ha : -1000000000000 ≤ a ∧ a ≤ 1000000000000) : Calls Tryz.prog 112 #[.int .i64 a, .int .i64 b] w fun e w' => e = .returned (.int .i64 (quot a b)) ∧ w = w' := by
  have := meritDivR_any a b w ha
  rw [over_eq] at this
  exact this

theorem natAbs_mul_bd {a b : Int} (ha : -1000000000000 ≤ a ∧ a ≤ 1000000000000) (hb : -1000000000000 ≤ b ∧ b ≤ 1000000000000) : ((a.natAbs * b.natAbs / 18446744073709551616 : Nat) : Int) = 0 ∧ a.natAbs * b.natAbs % 18446744073709551616 = a.natAbs * b.natAbs ∨ (0 < a.natAbs * b.natAbs / 18446744073709551616 ∧ beyondL (a * b) = true) := by
  by_cases h : a.natAbs * b.natAbs < 18446744073709551616
  · left
    rw [Nat.div_eq_of_lt h, Nat.mod_eq_of_lt h]
    exact ⟨rfl, rfl⟩
  · right
    refine ⟨Nat.div_pos (by omega) (by omega), ?_⟩
    have : (a * b).natAbs = a.natAbs * b.natAbs := Int.natAbs_mul a b
    cases hb : beyondL (a * b)
    · have := inB_beyond.1 hb
      unfold inB at this
      omega
    · rfl
theorem mulM_of {a b : Int} (h : a.natAbs * b.natAbs ≤ 1000000000000) : mulM a b = a * b ∧ -1000000000000 ≤ a * b ∧ a * b ≤ 1000000000000 := by
  have h1 : (a * b).natAbs = a.natAbs * b.natAbs := Int.natAbs_mul a b
  have h2 : -1000000000000 ≤ a * b ∧ a * b ≤ 1000000000000 := by omega
  refine ⟨?_, h2⟩
  unfold mulM
  rw [inB_beyond.2 h2]
  rfl
theorem mulM_not {a b : Int} (h : 1000000000000 < a.natAbs * b.natAbs) : mulM a b = 1000000000001 := by
  have h1 : (a * b).natAbs = a.natAbs * b.natAbs := Int.natAbs_mul a b
  unfold mulM
  have : beyondL (a * b) = true := by
    cases hb : beyondL (a * b)
    · have := inB_beyond.1 hb
      unfold inB at this
      omega
    · rfl
  rw [this]
  rfl
end Go.Proofs.YtkomgidcgepknaaGreatDoor
