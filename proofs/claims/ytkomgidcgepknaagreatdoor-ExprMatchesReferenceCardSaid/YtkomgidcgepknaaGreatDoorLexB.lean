/-
  The lexer's scanner: at, while, gap.
-/
import Derived.Test.YtkomgidcgepknaaGreatDoorLexA
import Derived.Test.YtkomgidcgepknaaGreatDoorShelf
import Derived.Test.YtkomgidcgepknaaGreatDoorLexQ
set_option linter.unusedVariables false
set_option linter.unusedSimpArgs false
namespace Go.Proofs.YtkomgidcgepknaaGreatDoor
open Go.RowKit Go.Deep

/-- The cell of the scanner: the text and the table. -/
def Scan (w : World) (p : Nat) (s : ByteArray) : Prop := Blk w p 164 (Value.string s :: ints classL).toArray
section
variable {w w' : World} {p : Nat} {s : ByteArray}
theorem Scan.text (h : Scan w p s) : w.cell? ⟨p, 0, none⟩ = some (.string s) := by
  rw [Blk.cell h]; simp only [List.getElem?_toArray, List.getElem?_cons_zero]
theorem classL_nth {c : Nat} (h : c < 256) : nth classL c = (cls c : Int) := by
  unfold nth classL
  simp [List.getElem?_map, List.getElem?_range h]
theorem classL_len : classL.length = 256 := by unfold classL; simp
theorem Scan.cls (h : Scan w p s) {c : Nat} (hc : c < 256) : w.cell? ⟨p, 1 + c, none⟩ = some (.int .i64 (cls c : Int)) := by
  rw [Blk.cell h, Nat.add_comm]
  have := ints_get (xs := classL) (k := c) (by rw [classL_len]; exact hc)
  rw [classL_nth hc] at this
  simpa using this
theorem Scan.lt (h : Scan w p s) : p < w.heap.size := Blk.lt h
theorem Scan.drewN (h : Scan w p s) (m : Nat) : Scan (w.drewN m) p s := h
theorem Scan.below {B : Nat} (h : Scan w p s) (hb : Below B w w') (hp : p < B) : Scan w' p s := Blk.below h hb hp
end

set_option maxHeartbeats 1000000 in
theorem at_any (p : Nat) (s : ByteArray) (i : Nat) (w : World) (h : Scan w p s) (hi : i ≤ maxLen) (hs : s.size ≤ maxLen) :
    Calls Tryz.prog 165 #[.pointer (some ⟨p, 0, none⟩), .int .i64 i] w fun e w' => e = .returned (.int .i64 (atC s i : Nat)) ∧ ∃ m, w' = w.drewN m := by
  unfold maxLen at hi hs
  have ht := h.text
  by_cases hlt : i < s.size
  · have hb : bAt s i = s[i].toNat := bAt_eq hlt
    have hc := h.cls (bAt_lt s i)
    rw [hb] at hc
    have h256 : s[i].toNat < 256 := UInt8.toNat_lt _
    have ha : atC s i = cls s[i].toNat := by unfold atC; rw [if_pos hlt, hb]
    have HA := hide ha
    clear ha hb
    go_enter Tryz.func165, Tryz.ntmps165
    go_wp2_with fail
    go_quiet (fail)
    go_wp2
    go_ret
    exact ⟨by rw [HA.out]; rfl, nq, rfl⟩
  · have ha : atC s i = 0 := by unfold atC; rw [if_neg hlt]
    have HA := hide ha
    clear ha
    go_enter Tryz.func165, Tryz.ntmps165
    go_wp2
    go_ret
    exact ⟨by rw [HA.out]; rfl, 0, rfl⟩

theorem contains_any (g n c : Nat) (t : TypeId) (xs : List Int) (x : Int) (w : World) (h : Blk w g t (ints xs).toArray) (hn : xs.length = n) (hb : n ≤ maxLen) :
    Calls Tryz.prog 190 #[.slice (some ⟨g, 0, none⟩) n c, .int .i64 x] w fun e w' => e = .returned (.bool (xs.contains x)) ∧ w' = w := by
  have := Tryz.slices_Contains_int g 0 n c xs x w (by omega) hb (fun j hj => by rw [Nat.zero_add]; have := h.int hj; simpa [nth] using this)
  rw [List.take_of_length_le (by omega)] at this
  exact this

set_option maxHeartbeats 1000000 in
theorem while_any (p g n c : Nat) (t : TypeId) (xs : List Int) (s : ByteArray) (i : Nat) (w : World) (h : Scan w p s) (hx : Blk w g t (ints xs).toArray) (hn : xs.length = n) (hb : n ≤ maxLen) (hi : i ≤ s.size) (hs : s.size < maxLen) :
    Calls Tryz.prog 164 #[.pointer (some ⟨p, 0, none⟩), .int .i64 i, .slice (some ⟨g, 0, none⟩) n c] w fun e w' => e = .returned (.int .i64 (whileE s (inL xs) i : Nat)) ∧ ∃ m, w' = w.drewN m := by
  have HS := hide hs
  unfold maxLen at hs
  have HB := hide hb
  have HN := hide hn
  clear hb hn
  go_enter Tryz.func164, Tryz.ntmps164
  go_wp2
  go_loopw [1] (fun j wr => ∃ k : Nat, k ≤ s.size ∧ j = .int .i64 k ∧ whileE s (inL xs) i = whileE s (inL xs) k ∧ ∃ m, wr = w.drewN m) (fun j _ => s.size - (intOf j).toNat)
  case atStart => exact ⟨i, hi, rfl, rfl, 0, rfl⟩
  case round =>
    obtain ⟨k, hk, rfl, he, m, rfl⟩ := hrel
    have HE := hide he
    clear he
    have ht := (h.drewN m).text
    by_cases hlt : k < s.size
    · go_wp2_with (go_at_call 165; refine (at_any p s k _ (h.drewN m) (by unfold maxLen; omega) (by unfold maxLen; omega)).mono ?_; rintro e w1 ⟨rfl, m1, rfl⟩)
      refine (contains_any g n c t xs _ _ (hx.drewN (m + m1)) HN.out HB.out).mono ?_
      rintro e w1 ⟨rfl, rfl⟩
      have hq : inL xs (atC s k) = xs.contains ((atC s k : Nat) : Int) := rfl
      have HQ := hide hq
      clear hq
      cases hc : xs.contains ((atC s k : Nat) : Int)
      · have HC := hide hc
        clear hc
        go_wp2
        go_ret
        refine ⟨?_, _, rfl⟩
        rw [HE.out, whileE_stop (by rw [HQ.out, HC.out]; simp)]
        rfl
      · have HC := hide hc
        clear hc
        go_wp2
        go_roundw
        case rel => exact ⟨k + 1, by omega, by go_num, by rw [HE.out, whileE_step hlt (by rw [HQ.out, HC.out])], _, rfl⟩
        case measure => simp [intOf]; omega
    · obtain rfl : k = s.size := by omega
      go_wp2
      go_ret
      refine ⟨?_, m, rfl⟩
      rw [HE.out, whileE_stop (by omega)]
      rfl

theorem nl_any (s : ByteArray) (k : Nat) (w : World) :
    Calls Tryz.prog 166 #[.string (s.extract k s.size), .int .u8 10] w fun e w' => e = .returned (.int .i64 (match find s isNl k with | none => -1 | some m => ((m - k : Nat) : Int))) ∧ w' = w := by
  have := Tryz.strings_IndexByte (s.extract k s.size) 10 w
  rw [tail_list, show (10 : Int).toNat.toUInt8 = 10 from rfl, find_byte, oneOf_nl] at this
  exact this

theorem inL_blank : inL [1] = isBlank := rfl
theorem blk_one (w : World) (t : TypeId) (x : Int) : Blk (w.alloc (.cells #[.int .i64 x] t)) w.heap.size t (ints [x]).toArray := Blk.new w t _

set_option maxHeartbeats 1000000 in
theorem gap_any (p : Nat) (s : ByteArray) (i : Nat) (w : World) (h : Scan w p s) (hi : i ≤ s.size) (hs : s.size < maxLen) :
    Calls Tryz.prog 115 #[.pointer (some ⟨p, 0, none⟩), .int .i64 i] w fun e w' => e = .returned (.int .i64 (gapE s i : Nat)) ∧ Below w.heap.size w w' := by
  have HS := hide hs
  have hp := h.lt
  unfold maxLen at hs
  go_enter Tryz.func115, Tryz.ntmps115
  go_wp2_with fail
  have hb1 : Below w.heap.size w (w.alloc (Obj.cells #[.int .i64 1] 3)) := (Below.refl _ _).alloc (Nat.le_refl _) _
  have hB1 := blk_one w 3 1
  generalize w.alloc (Obj.cells #[.int .i64 1] 3) = w1 at hb1 hB1 ⊢
  refine (while_any p w.heap.size 1 1 _ [1] s i w1 (h.below hb1 hp) hB1 rfl (by unfold maxLen; omega) hi HS.out).mono ?_
  rintro e w2 ⟨rfl, m, rfl⟩
  rw [inL_blank]
  have he := gapE_eq s i
  have hj := whileE_le s isBlank i hi
  have hb2 := below_drewN hb1 m
  clear hB1 hb1
  generalize w1.drewN m = w2 at hb2 ⊢
  have HE := hide he
  clear he
  generalize hj0 : whileE s isBlank i = j0 at hj HE ⊢
  clear hj0
  go_wp2
  go_loopw [1] (fun j wr => ∃ k : Nat, k ≤ s.size ∧ j = .int .i64 k ∧ gapE s i = gapJ s k ∧ Below w.heap.size w wr) (fun j _ => s.size - (intOf j).toNat)
  case atStart => exact ⟨j0, hj, rfl, HE.out, hb2⟩
  case round =>
    clear hb2 HE hj
    obtain ⟨k, hk, rfl, he, hbr⟩ := hrel
    have HE := hide he
    clear he
    have hsc := h.below hbr hp
    go_wp2_with fail
    refine (at_any p s k _ hsc (by unfold maxLen; omega) (by unfold maxLen; omega)).mono ?_
    rintro e w3 ⟨rfl, m3, rfl⟩
    have hb3 := below_drewN hbr m3
    have hsc3 := hsc.drewN m3
    clear hbr hsc
    generalize wr.drewN m3 = w3 at hb3 hsc3 ⊢
    by_cases h2 : atC s k = 2
    · have ht := hsc3.text
      have hlt : k < s.size := atC_in (by rw [h2]; decide)
      rw [h2]
      have HJ : Hid (gapJ s k = match find s isNl k with | none => s.size | some m => gapE s m) := by
        show gapJ s k = _
        unfold gapJ
        rw [if_pos h2]
        rfl
      have hne : ∀ m, find s isNl k = some m → k ≠ m := by
        intro m hm e
        obtain ⟨_, _, a3, _⟩ := find_some hm
        subst e
        unfold atC at h2
        rw [if_pos hlt] at h2
        have h10 : bAt s k = 10 := by simpa [isNl] using a3
        rw [h10] at h2
        exact absurd h2 (by decide)
      clear h2
      go_wp2_with fail
      refine (nl_any s k w3).mono ?_
      rintro e w4 ⟨rfl, rfl⟩
      cases hf : find s isNl k with
      | none =>
        have HF := hide hf
        clear hf
        dsimp only
        clear hne
        go_wp2
        go_ret
        exact ⟨by rw [HE.out, HJ.out, HF.out]; rfl, hb3⟩
      | some m =>
        obtain ⟨a1, a2, _, _⟩ := find_some hf
        have a3 := hne m hf
        have HF := hide hf
        clear hf hne
        dsimp only
        obtain ⟨d, hd⟩ : ∃ d : Nat, m = k + d := ⟨m - k, by omega⟩
        subst hd
        rw [Nat.add_sub_cancel_left]
        have hw3 := hb3.size
        have hb4 : Below w.heap.size w (w4.alloc (Obj.cells #[.int .i64 1] 3)) := hb3.alloc hb3.size _
        have hB4 := blk_one w4 3 1
        go_wp2_with fail
        generalize w4.alloc (Obj.cells #[.int .i64 1] 3) = w5 at hb4 hB4 ⊢
        refine (while_any p w4.heap.size 1 1 _ [1] s (k + d) w5 (h.below hb4 hp) hB4 rfl (by unfold maxLen; omega) (by omega) HS.out).mono ?_
        rintro e w6 ⟨rfl, m6, rfl⟩
        rw [inL_blank]
        have hb6 := below_drewN hb4 m6
        have he := gapE_eq s (k + d)
        have hj := whileE_le s isBlank (k + d) (by omega)
        have hj2 := whileE_ge s isBlank (k + d)
        have HE2 := hide he
        clear he
        generalize whileE s isBlank (k + d) = j2 at hj hj2 HE2 ⊢
        go_wp2
        go_roundw
        case rel => exact ⟨j2, hj, rfl, by rw [HE.out, HJ.out, HF.out]; exact HE2.out, hb6⟩
        case measure => simp [intOf]; omega
    · have H2 : Hid (gapJ s k = k) := by
        show gapJ s k = k
        unfold gapJ
        rw [if_neg h2]
      have h2' : ((atC s k : Nat) : Int) ≠ 2 := by omega
      go_wp2
      go_ret
      exact ⟨by rw [HE.out, H2.out]; rfl, hb3⟩
end Go.Proofs.YtkomgidcgepknaaGreatDoor
