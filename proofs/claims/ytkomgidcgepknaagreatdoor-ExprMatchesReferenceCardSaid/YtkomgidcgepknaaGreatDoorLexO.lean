/-
  The lexer's next token: symbols; and all together.
-/
import Derived.Test.YtkomgidcgepknaaGreatDoorLexM
set_option linter.unusedVariables false
set_option linter.unusedSimpArgs false
namespace Go.Proofs.YtkomgidcgepknaaGreatDoor
open Go.RowKit Go.Deep

theorem prefix_any (s : ByteArray) (j : Nat) (w : World) :
    Calls Tryz.prog 169 #[.string (s.extract j s.size), .string { data := #[61] }] w fun e w' => e = .returned (.bool (decide (bAt s j = 61))) ∧ w' = w := by
  have := Tryz.strings_HasPrefix (s.extract j s.size) { data := #[61] } w
  rw [show ({ data := #[61] } : ByteArray).data.toList = [61] from rfl, hasPrefix_one s j 61 (by decide)] at this
  exact this

set_option maxHeartbeats 2000000 in
set_option maxRecDepth 100000 in
theorem next_bang (p : Nat) (s : ByteArray) (i : Nat) (w : World) (h : Scan w p s) (hi : i < s.size) (hs : s.size ≤ 20000) (k7 : atC s i = 7) :
    Calls Tryz.prog 116 #[.pointer (some ⟨p, 0, none⟩), .int .i64 i] w fun e w' => e = .returned (nextV s i) ∧ Below w.heap.size w w' := by
  have hp := h.lt
  have hm : s.size < maxLen := by unfold maxLen; omega
  have HM := hide hm
  clear hm
  have hb0 : Below w.heap.size w (w.alloc (Obj.cells #[.int .i64 0, .string ⟨#[]⟩, .int .i64 0, .int .i64 0] 166)) := (Below.refl _ _).alloc (Nat.le_refl _) _
  have hB0 : Blk (w.alloc (Obj.cells #[.int .i64 0, .string ⟨#[]⟩, .int .i64 0, .int .i64 0] 166)) w.heap.size 166 #[.int .i64 0, .string ⟨#[]⟩, .int .i64 0, .int .i64 0] := Blk.new _ _ _
  go_enter Tryz.func116, Tryz.ntmps116
  go_wp2_with fail
  generalize w.alloc (Obj.cells #[.int .i64 0, .string ⟨#[]⟩, .int .i64 0, .int .i64 0] 166) = v0 at hb0 hB0 ⊢
  have hs0 := h.below hb0 hp
  refine (at_any p s i v0 hs0 (by unfold maxLen; omega) (by unfold maxLen; omega)).mono ?_
  rintro e v1 ⟨rfl, m1, rfl⟩
  have hb1 := below_drewN hb0 m1
  have hB1 : Blk (v0.drewN m1) _ _ _ := hB0
  have hs1 := hs0.drewN m1
  clear hb0 hB0 hs0
  generalize v0.drewN m1 = v1 at hb1 hB1 hs1 ⊢
  have hlw1 := hb1.size
  have k3 : ¬ atC s i = 3 := by omega
  have k4 : ¬ atC s i = 4 := by omega
  have k6 : ¬ atC s i = 6 := by omega
  have HN0 : Hid (nextT s i = if bAt s (i + 1) = 61 then (0, ⟨4, s.extract i (i + 2), 0, i⟩, i + 2) else if atC s i = 7 then (3, ⟨0, ByteArray.empty, 0, 0⟩, 0) else (0, ⟨4, s.extract i (i + 1), 0, i⟩, i + 1)) := by
    show nextT s i = _
    unfold nextT
    rw [if_neg k3, if_neg k4, if_neg k6, if_pos (by omega)]
  rw [k7] at HN0 ⊢
  clear k3 k4 k6 k7
  have ht1 := hs1.text
  have HP := hide (prefix_any s (i + 1) v1)
  have hi20 : (i : Int) + 1 ≤ 20001 := by omega
  go_wp2_with fail
  refine HP.out.mono ?_
  rintro e v2 ⟨rfl, rfl⟩
  clear HP
  by_cases h61 : bAt s (i + 1) = 61
  · have hin := bAt_in h61 (by decide)
    have HN : Hid (nextT s i = (0, ⟨4, s.extract i (i + 2), 0, i⟩, i + 2)) := by
      show nextT s i = _
      rw [HN0.out, if_pos h61]
    rw [decide_eq_true h61]
    clear HN0 h61
    obtain ⟨c0, c1, c2, c3, z0, z1, z2, z3⟩ := blk4 hB1
    have hq := set4 hB1 (.int .i64 4) (.string (s.extract i (i + 2))) (.int .i64 0) (.int .i64 i)
    have hbq := below4 hb1 (Nat.le_refl _) (.int .i64 4) (.string (s.extract i (i + 2))) (.int .i64 0) (.int .i64 i)
    have HQ := hide hq
    have HBQ := hide hbq
    clear hq hbq hB1 hb1
    go_wp2
    refine bodyPost_ret (results_cell2 rfl _ _ w.heap.size 166 _ (0, 0) _ rfl HQ.out Tryz.underlying166 rfl (by kernel_rfl)) rfl ?_
    exact ⟨by rw [nextV_of HN.out]; rfl, HBQ.out⟩
  · have HN : Hid (nextT s i = (3, ⟨0, ByteArray.empty, 0, 0⟩, 0)) := by
      show nextT s i = _
      rw [HN0.out, if_neg h61]
      rfl
    rw [decide_eq_false h61]
    clear HN0 h61
    obtain ⟨c0, c1, c2, c3, z0, z1, z2, z3⟩ := blk4 hB1
    have hq := set4 hB1 (.int .i64 0) (.string ⟨#[]⟩) (.int .i64 0) (.int .i64 0)
    have hbq := below4 hb1 (Nat.le_refl _) (.int .i64 0) (.string ⟨#[]⟩) (.int .i64 0) (.int .i64 0)
    have HQ := hide hq
    have HBQ := hide hbq
    clear hq hbq hB1 hb1
    go_wp2
    refine bodyPost_ret (results_cell2 rfl _ _ w.heap.size 166 _ (0, 0) _ rfl HQ.out Tryz.underlying166 rfl (by kernel_rfl)) rfl ?_
    exact ⟨by rw [nextV_of HN.out]; rfl, HBQ.out⟩

set_option maxHeartbeats 2000000 in
set_option maxRecDepth 100000 in
theorem next_cmp (p : Nat) (s : ByteArray) (i : Nat) (w : World) (h : Scan w p s) (hi : i < s.size) (hs : s.size ≤ 20000) (k8 : atC s i = 8) :
    Calls Tryz.prog 116 #[.pointer (some ⟨p, 0, none⟩), .int .i64 i] w fun e w' => e = .returned (nextV s i) ∧ Below w.heap.size w w' := by
  have hp := h.lt
  have hm : s.size < maxLen := by unfold maxLen; omega
  have HM := hide hm
  clear hm
  have hb0 : Below w.heap.size w (w.alloc (Obj.cells #[.int .i64 0, .string ⟨#[]⟩, .int .i64 0, .int .i64 0] 166)) := (Below.refl _ _).alloc (Nat.le_refl _) _
  have hB0 : Blk (w.alloc (Obj.cells #[.int .i64 0, .string ⟨#[]⟩, .int .i64 0, .int .i64 0] 166)) w.heap.size 166 #[.int .i64 0, .string ⟨#[]⟩, .int .i64 0, .int .i64 0] := Blk.new _ _ _
  go_enter Tryz.func116, Tryz.ntmps116
  go_wp2_with fail
  generalize w.alloc (Obj.cells #[.int .i64 0, .string ⟨#[]⟩, .int .i64 0, .int .i64 0] 166) = v0 at hb0 hB0 ⊢
  have hs0 := h.below hb0 hp
  refine (at_any p s i v0 hs0 (by unfold maxLen; omega) (by unfold maxLen; omega)).mono ?_
  rintro e v1 ⟨rfl, m1, rfl⟩
  have hb1 := below_drewN hb0 m1
  have hB1 : Blk (v0.drewN m1) _ _ _ := hB0
  have hs1 := hs0.drewN m1
  clear hb0 hB0 hs0
  generalize v0.drewN m1 = v1 at hb1 hB1 hs1 ⊢
  have hlw1 := hb1.size
  have k3 : ¬ atC s i = 3 := by omega
  have k4 : ¬ atC s i = 4 := by omega
  have k6 : ¬ atC s i = 6 := by omega
  have HN0 : Hid (nextT s i = if bAt s (i + 1) = 61 then (0, ⟨4, s.extract i (i + 2), 0, i⟩, i + 2) else if atC s i = 7 then (3, ⟨0, ByteArray.empty, 0, 0⟩, 0) else (0, ⟨4, s.extract i (i + 1), 0, i⟩, i + 1)) := by
    show nextT s i = _
    unfold nextT
    rw [if_neg k3, if_neg k4, if_neg k6, if_pos (by omega)]
  rw [k8] at HN0 ⊢
  clear k3 k4 k6 k8
  have ht1 := hs1.text
  have HP := hide (prefix_any s (i + 1) v1)
  have hi20 : (i : Int) + 1 ≤ 20001 := by omega
  go_wp2_with fail
  refine HP.out.mono ?_
  rintro e v2 ⟨rfl, rfl⟩
  clear HP
  by_cases h61 : bAt s (i + 1) = 61
  · have hin := bAt_in h61 (by decide)
    have HN : Hid (nextT s i = (0, ⟨4, s.extract i (i + 2), 0, i⟩, i + 2)) := by
      show nextT s i = _
      rw [HN0.out, if_pos h61]
    rw [decide_eq_true h61]
    clear HN0 h61
    obtain ⟨c0, c1, c2, c3, z0, z1, z2, z3⟩ := blk4 hB1
    have hq := set4 hB1 (.int .i64 4) (.string (s.extract i (i + 2))) (.int .i64 0) (.int .i64 i)
    have hbq := below4 hb1 (Nat.le_refl _) (.int .i64 4) (.string (s.extract i (i + 2))) (.int .i64 0) (.int .i64 i)
    have HQ := hide hq
    have HBQ := hide hbq
    clear hq hbq hB1 hb1
    go_wp2
    refine bodyPost_ret (results_cell2 rfl _ _ w.heap.size 166 _ (0, 0) _ rfl HQ.out Tryz.underlying166 rfl (by kernel_rfl)) rfl ?_
    exact ⟨by rw [nextV_of HN.out]; rfl, HBQ.out⟩
  · have HN : Hid (nextT s i = (0, ⟨4, s.extract i (i + 1), 0, i⟩, i + 1)) := by
      show nextT s i = _
      rw [HN0.out, if_neg h61]
      rfl
    rw [decide_eq_false h61]
    clear HN0 h61
    obtain ⟨c0, c1, c2, c3, z0, z1, z2, z3⟩ := blk4 hB1
    have hq := set4 hB1 (.int .i64 4) (.string (s.extract i (i + 1))) (.int .i64 0) (.int .i64 i)
    have hbq := below4 hb1 (Nat.le_refl _) (.int .i64 4) (.string (s.extract i (i + 1))) (.int .i64 0) (.int .i64 i)
    have HQ := hide hq
    have HBQ := hide hbq
    clear hq hbq hB1 hb1
    go_wp2
    refine bodyPost_ret (results_cell2 rfl _ _ w.heap.size 166 _ (0, 0) _ rfl HQ.out Tryz.underlying166 rfl (by kernel_rfl)) rfl ?_
    exact ⟨by rw [nextV_of HN.out]; rfl, HBQ.out⟩

set_option maxHeartbeats 2000000 in
set_option maxRecDepth 100000 in
theorem next_sym (p : Nat) (s : ByteArray) (i : Nat) (w : World) (h : Scan w p s) (hi : i < s.size) (hs : s.size ≤ 20000) (k9 : atC s i = 9) :
    Calls Tryz.prog 116 #[.pointer (some ⟨p, 0, none⟩), .int .i64 i] w fun e w' => e = .returned (nextV s i) ∧ Below w.heap.size w w' := by
  have hp := h.lt
  have hm : s.size < maxLen := by unfold maxLen; omega
  have HM := hide hm
  clear hm
  have hb0 : Below w.heap.size w (w.alloc (Obj.cells #[.int .i64 0, .string ⟨#[]⟩, .int .i64 0, .int .i64 0] 166)) := (Below.refl _ _).alloc (Nat.le_refl _) _
  have hB0 : Blk (w.alloc (Obj.cells #[.int .i64 0, .string ⟨#[]⟩, .int .i64 0, .int .i64 0] 166)) w.heap.size 166 #[.int .i64 0, .string ⟨#[]⟩, .int .i64 0, .int .i64 0] := Blk.new _ _ _
  go_enter Tryz.func116, Tryz.ntmps116
  go_wp2_with fail
  generalize w.alloc (Obj.cells #[.int .i64 0, .string ⟨#[]⟩, .int .i64 0, .int .i64 0] 166) = v0 at hb0 hB0 ⊢
  have hs0 := h.below hb0 hp
  refine (at_any p s i v0 hs0 (by unfold maxLen; omega) (by unfold maxLen; omega)).mono ?_
  rintro e v1 ⟨rfl, m1, rfl⟩
  have hb1 := below_drewN hb0 m1
  have hB1 : Blk (v0.drewN m1) _ _ _ := hB0
  have hs1 := hs0.drewN m1
  clear hb0 hB0 hs0
  generalize v0.drewN m1 = v1 at hb1 hB1 hs1 ⊢
  have hlw1 := hb1.size
  have k3 : ¬ atC s i = 3 := by omega
  have k4 : ¬ atC s i = 4 := by omega
  have k6 : ¬ atC s i = 6 := by omega
  have HN : Hid (nextT s i = (0, ⟨4, s.extract i (i + 1), 0, i⟩, i + 1)) := by
    show nextT s i = _
    unfold nextT
    rw [if_neg k3, if_neg k4, if_neg k6, if_neg (by omega), if_pos k9]
  rw [k9]
  clear k3 k4 k6 k9
  have ht1 := hs1.text
  obtain ⟨c0, c1, c2, c3, z0, z1, z2, z3⟩ := blk4 hB1
  have hq := set4 hB1 (.int .i64 4) (.string (s.extract i (i + 1))) (.int .i64 0) (.int .i64 i)
  have hbq := below4 hb1 (Nat.le_refl _) (.int .i64 4) (.string (s.extract i (i + 1))) (.int .i64 0) (.int .i64 i)
  have HQ := hide hq
  have HBQ := hide hbq
  clear hq hbq hB1 hb1
  go_wp2
  refine bodyPost_ret (results_cell2 rfl _ _ w.heap.size 166 _ (0, 0) _ rfl HQ.out Tryz.underlying166 rfl (by kernel_rfl)) rfl ?_
  exact ⟨by rw [nextV_of HN.out]; rfl, HBQ.out⟩

set_option maxHeartbeats 2000000 in
set_option maxRecDepth 100000 in
theorem next_other (p : Nat) (s : ByteArray) (i : Nat) (w : World) (h : Scan w p s) (hi : i < s.size) (hs : s.size ≤ 20000) (k0 : atC s i ≠ 3 ∧ atC s i ≠ 4 ∧ atC s i ≠ 6 ∧ atC s i ≠ 7 ∧ atC s i ≠ 8 ∧ atC s i ≠ 9) :
    Calls Tryz.prog 116 #[.pointer (some ⟨p, 0, none⟩), .int .i64 i] w fun e w' => e = .returned (nextV s i) ∧ Below w.heap.size w w' := by
  have hp := h.lt
  have hm : s.size < maxLen := by unfold maxLen; omega
  have HM := hide hm
  clear hm
  have hb0 : Below w.heap.size w (w.alloc (Obj.cells #[.int .i64 0, .string ⟨#[]⟩, .int .i64 0, .int .i64 0] 166)) := (Below.refl _ _).alloc (Nat.le_refl _) _
  have hB0 : Blk (w.alloc (Obj.cells #[.int .i64 0, .string ⟨#[]⟩, .int .i64 0, .int .i64 0] 166)) w.heap.size 166 #[.int .i64 0, .string ⟨#[]⟩, .int .i64 0, .int .i64 0] := Blk.new _ _ _
  go_enter Tryz.func116, Tryz.ntmps116
  go_wp2_with fail
  generalize w.alloc (Obj.cells #[.int .i64 0, .string ⟨#[]⟩, .int .i64 0, .int .i64 0] 166) = v0 at hb0 hB0 ⊢
  have hs0 := h.below hb0 hp
  refine (at_any p s i v0 hs0 (by unfold maxLen; omega) (by unfold maxLen; omega)).mono ?_
  rintro e v1 ⟨rfl, m1, rfl⟩
  have hb1 := below_drewN hb0 m1
  have hB1 : Blk (v0.drewN m1) _ _ _ := hB0
  have hs1 := hs0.drewN m1
  clear hb0 hB0 hs0
  generalize v0.drewN m1 = v1 at hb1 hB1 hs1 ⊢
  have hlw1 := hb1.size
  have k3 : ¬ atC s i = 3 := by omega
  have k4 : ¬ atC s i = 4 := by omega
  have k6 : ¬ atC s i = 6 := by omega
  have HN : Hid (nextT s i = (3, ⟨0, ByteArray.empty, 0, 0⟩, 0)) := by
    show nextT s i = _
    unfold nextT
    rw [if_neg k3, if_neg k4, if_neg k6, if_neg (by omega), if_neg (by omega)]
  have e3 : (((atC s i : Nat) : Int) == 3) = false := beq_eq_false_iff_ne.2 (by omega)
  have e4 : (((atC s i : Nat) : Int) == 4) = false := beq_eq_false_iff_ne.2 (by omega)
  have e6 : (((atC s i : Nat) : Int) == 6) = false := beq_eq_false_iff_ne.2 (by omega)
  have e7 : (((atC s i : Nat) : Int) == 7) = false := beq_eq_false_iff_ne.2 (by omega)
  have e8 : (((atC s i : Nat) : Int) == 8) = false := beq_eq_false_iff_ne.2 (by omega)
  have e9 : (((atC s i : Nat) : Int) == 9) = false := beq_eq_false_iff_ne.2 (by omega)
  clear k3 k4 k6 k0
  generalize atC s i = a0 at e3 e4 e6 e7 e8 e9 ⊢
  have ht1 := hs1.text
  obtain ⟨c0, c1, c2, c3, z0, z1, z2, z3⟩ := blk4 hB1
  have hq := set4 hB1 (.int .i64 0) (.string ⟨#[]⟩) (.int .i64 0) (.int .i64 0)
  have hbq := below4 hb1 (Nat.le_refl _) (.int .i64 0) (.string ⟨#[]⟩) (.int .i64 0) (.int .i64 0)
  have HQ := hide hq
  have HBQ := hide hbq
  clear hq hbq hB1 hb1
  go_wp2
  refine bodyPost_ret (results_cell2 rfl _ _ w.heap.size 166 _ (0, 0) _ rfl HQ.out Tryz.underlying166 rfl (by kernel_rfl)) rfl ?_
  exact ⟨by rw [nextV_of HN.out]; rfl, HBQ.out⟩

theorem next_any (p : Nat) (s : ByteArray) (i : Nat) (w : World) (h : Scan w p s) (hi : i < s.size) (hs : s.size ≤ 20000) :
    Calls Tryz.prog 116 #[.pointer (some ⟨p, 0, none⟩), .int .i64 i] w fun e w' => e = .returned (nextV s i) ∧ Below w.heap.size w w' := by
  by_cases k3 : atC s i = 3
  · exact next_name p s i w h hi hs k3
  · by_cases k4 : atC s i = 4
    · exact next_num p s i w h hi hs k4
    · by_cases k6 : atC s i = 6
      · exact next_quote p s i w h hi hs k6
      · by_cases k7 : atC s i = 7
        · exact next_bang p s i w h hi hs k7
        · by_cases k8 : atC s i = 8
          · exact next_cmp p s i w h hi hs k8
          · by_cases k9 : atC s i = 9
            · exact next_sym p s i w h hi hs k9
            · exact next_other p s i w h hi hs ⟨k3, k4, k6, k7, k8, k9⟩
end Go.Proofs.YtkomgidcgepknaaGreatDoor
