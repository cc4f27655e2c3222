/-
  The lexer's next token: strings.
-/
import Derived.Test.YtkomgidcgepknaaGreatDoorLexN
set_option linter.unusedVariables false
set_option linter.unusedSimpArgs false
namespace Go.Proofs.YtkomgidcgepknaaGreatDoor
open Go.RowKit Go.Deep

set_option maxHeartbeats 2000000 in
set_option maxRecDepth 100000 in
theorem next_quote (p : Nat) (s : ByteArray) (i : Nat) (w : World) (h : Scan w p s) (hi : i < s.size) (hs : s.size ≤ 20000) (k6 : atC s i = 6) :
    Calls Tryz.prog 116 #[.pointer (some ⟨p, 0, none⟩), .int .i64 i] w fun e w' => e = .returned (nextV s i) ∧ Below w.heap.size w w' := by
  have hp := h.lt
  have hm : s.size < maxLen := by unfold maxLen; omega
  have HM := hide hm
  clear hm
  have hb0 : Below w.heap.size w (w.alloc (Obj.cells #[.int .i64 0, .string ⟨#[]⟩, .int .i64 0, .int .i64 0] 166)) := (Below.refl _ _).alloc (Nat.le_refl _) _
  have hB0 : Blk (w.alloc (Obj.cells #[.int .i64 0, .string ⟨#[]⟩, .int .i64 0, .int .i64 0] 166)) w.heap.size 166 #[.int .i64 0, .string ⟨#[]⟩, .int .i64 0, .int .i64 0] := Blk.new _ _ _
  go_enter Tryz.func116, Tryz.ntmps116
  go_wp2_with fail
  generalize w.alloc (Obj.cells #[.int .i64 0, .string ⟨#[]⟩, .int .i64 0, .int .i64 0] 166) = v0 at hb0 hB0 ⊢
  have hs0 := h.below hb0 hp
  refine (at_any p s i v0 hs0 (by unfold maxLen; omega) (by unfold maxLen; omega)).mono ?_
  rintro e v1 ⟨rfl, m1, rfl⟩
  have hb1 := below_drewN hb0 m1
  have hB1 : Blk (v0.drewN m1) _ _ _ := hB0
  have hs1 := hs0.drewN m1
  clear hb0 hB0 hs0
  generalize v0.drewN m1 = v1 at hb1 hB1 hs1 ⊢
  have hlw1 := hb1.size
  have k3 : ¬ atC s i = 3 := by omega
  have k4 : ¬ atC s i = 4 := by omega
  have HN0 : Hid (nextT s i = match find s isQuo (i + 1) with
       | none => (6, ⟨0, ByteArray.empty, 0, 0⟩, 0)
       | some k => if bAt s k = 10 then (6, ⟨0, ByteArray.empty, 0, 0⟩, 0) else if 400 < k - (i + 1) then (2, ⟨0, ByteArray.empty, 0, 0⟩, 0) else (0, ⟨3, s.extract (i + 1) k, 0, i⟩, k + 1)) := by
    show nextT s i = _
    unfold nextT
    rw [if_neg k3, if_neg k4, if_pos k6]
    rfl
  rw [k6]
  clear k3 k4 k6
  have ht1 := hs1.text
  have HQA := hide (quo_any s (i + 1) v1 hs)
  have hsR : (s.extract (i + 1) s.size).size = s.size - (i + 1) := by rw [ByteArray.size_extract]; omega
  have hRe : ∀ k, i + 1 ≤ k → k ≤ s.size → (s.extract (i + 1) s.size).extract 0 (k - (i + 1)) = s.extract (i + 1) k := by
    intro k h1 h2
    rw [ByteArray.extract_extract]
    congr 1
    omega
  have hRi : ∀ k (h : k < (s.extract (i + 1) s.size).size), (s.extract (i + 1) s.size)[k].toNat = bAt s (i + 1 + k) := by
    intro k h
    rw [ByteArray.getElem_extract, bAt_eq (by omega)]
  have HRE := hide hRe
  have HRI := hide hRi
  clear hRe hRi
  have hi20 : (i : Int) + 1 ≤ 20001 := by omega
  go_wp2_with fail
  generalize s.extract (i + 1) s.size = R at HQA hsR HRE HRI ⊢
  refine HQA.out.mono ?_
  rintro e v2 ⟨rfl, hbb⟩
  have hb2 := hb1.trans (hbb.mono hlw1)
  have hB2 := Blk.below hB1 hbb (Blk.lt hB1)
  have hs2 := h.below hb2 hp
  clear hb1 hB1 hs1 ht1 hbb HQA
  cases hf : find s isQuo (i + 1) with
  | none =>
    have HN : Hid (nextT s i = (6, ⟨0, ByteArray.empty, 0, 0⟩, 0)) := by
      show nextT s i = _
      rw [HN0.out, hf]
    clear HN0 hf
    dsimp only
    obtain ⟨c0, c1, c2, c3, z0, z1, z2, z3⟩ := blk4 hB2
    have hq := set4 hB2 (.int .i64 0) (.string ⟨#[]⟩) (.int .i64 0) (.int .i64 0)
    have hbq := below4 hb2 (Nat.le_refl _) (.int .i64 0) (.string ⟨#[]⟩) (.int .i64 0) (.int .i64 0)
    have HQ := hide hq
    have HBQ := hide hbq
    clear hq hbq hB2 hb2
    go_wp2
    refine bodyPost_ret (results_cell2 rfl _ _ w.heap.size 166 _ (0, 0) _ rfl HQ.out Tryz.underlying166 rfl (by kernel_rfl)) rfl ?_
    exact ⟨by rw [nextV_of HN.out]; rfl, HBQ.out⟩
  | some k =>
    obtain ⟨f1, f2, _, _⟩ := find_some hf
    have HN1 : Hid (nextT s i = if bAt s k = 10 then (6, ⟨0, ByteArray.empty, 0, 0⟩, 0) else if 400 < k - (i + 1) then (2, ⟨0, ByteArray.empty, 0, 0⟩, 0) else (0, ⟨3, s.extract (i + 1) k, 0, i⟩, k + 1)) := by
      show nextT s i = _
      rw [HN0.out, hf]
    clear HN0 hf
    dsimp only
    obtain ⟨d, hd⟩ : ∃ d, k = i + 1 + d := ⟨k - (i + 1), by omega⟩
    subst hd
    have hRE := HRE.out (i + 1 + d) f1 (by omega)
    rw [Nat.add_sub_cancel_left] at HN1 hRE ⊢
    have hdR : d < R.size := by omega
    have hRI := HRI.out d hdR
    clear HRE HRI
    have hneg : decide ((d : Int) < 0) = false := decide_eq_false (by omega)
    by_cases h10 : bAt s (i + 1 + d) = 10
    · have HN : Hid (nextT s i = (6, ⟨0, ByteArray.empty, 0, 0⟩, 0)) := by
        show nextT s i = _
        rw [HN1.out, if_pos h10]
      rw [h10] at hRI
      have hRI2 : ((R[d].toNat : Nat) : Int) = 10 := by omega
      clear HN1 h10
      obtain ⟨c0, c1, c2, c3, z0, z1, z2, z3⟩ := blk4 hB2
      have hq := set4 hB2 (.int .i64 0) (.string ⟨#[]⟩) (.int .i64 0) (.int .i64 0)
      have hbq := below4 hb2 (Nat.le_refl _) (.int .i64 0) (.string ⟨#[]⟩) (.int .i64 0) (.int .i64 0)
      have HQ := hide hq
      have HBQ := hide hbq
      clear hq hbq hB2 hb2
      go_wp2
      refine bodyPost_ret (results_cell2 rfl _ _ w.heap.size 166 _ (0, 0) _ rfl HQ.out Tryz.underlying166 rfl (by kernel_rfl)) rfl ?_
      exact ⟨by rw [nextV_of HN.out]; rfl, HBQ.out⟩
    · have hRI2 : ¬ ((R[d].toNat : Nat) : Int) = 10 := by omega
      by_cases h400 : 400 < d
      · have HN : Hid (nextT s i = (2, ⟨0, ByteArray.empty, 0, 0⟩, 0)) := by
          show nextT s i = _
          rw [HN1.out, if_neg h10, if_pos h400]
        clear HN1 h10 hRI
        obtain ⟨c0, c1, c2, c3, z0, z1, z2, z3⟩ := blk4 hB2
        have hq := set4 hB2 (.int .i64 0) (.string ⟨#[]⟩) (.int .i64 0) (.int .i64 0)
        have hbq := below4 hb2 (Nat.le_refl _) (.int .i64 0) (.string ⟨#[]⟩) (.int .i64 0) (.int .i64 0)
        have HQ := hide hq
        have HBQ := hide hbq
        clear hq hbq hB2 hb2
        go_wp2
        refine bodyPost_ret (results_cell2 rfl _ _ w.heap.size 166 _ (0, 0) _ rfl HQ.out Tryz.underlying166 rfl (by kernel_rfl)) rfl ?_
        exact ⟨by rw [nextV_of HN.out]; rfl, HBQ.out⟩
      · have HN : Hid (nextT s i = (0, ⟨3, s.extract (i + 1) (i + 1 + d), 0, i⟩, i + 1 + d + 1)) := by
          show nextT s i = _
          rw [HN1.out, if_neg h10, if_neg h400]
        have hend : (i : Int) + (d : Int) + 2 = ((i + 1 + d + 1 : Nat) : Int) := by omega
        have HEND := hide hend
        rw [← hRE] at HN
        clear HN1 h10 hRI hRE hend
        obtain ⟨c0, c1, c2, c3, z0, z1, z2, z3⟩ := blk4 hB2
        have hq := set4 hB2 (.int .i64 3) (.string (R.extract 0 d)) (.int .i64 0) (.int .i64 i)
        have hbq := below4 hb2 (Nat.le_refl _) (.int .i64 3) (.string (R.extract 0 d)) (.int .i64 0) (.int .i64 i)
        have HQ := hide hq
        have HBQ := hide hbq
        clear hq hbq hB2 hb2
        go_wp2
        refine bodyPost_ret (results_cell2 rfl _ _ w.heap.size 166 _ (0, 0) _ rfl HQ.out Tryz.underlying166 rfl (by kernel_rfl)) rfl ?_
        exact ⟨by rw [nextV_of HN.out, ← HEND.out]; rfl, HBQ.out⟩
end Go.Proofs.YtkomgidcgepknaaGreatDoor
