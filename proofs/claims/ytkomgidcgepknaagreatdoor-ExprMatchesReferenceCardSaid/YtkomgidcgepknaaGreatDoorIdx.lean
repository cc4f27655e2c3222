/-
  strings.IndexAny with the bytes '"' and newline, at any text.
-/
import Derived.Test.YtkomgidcgepknaaGreatDoorLexB
import Derived.Laws.RangeAny
import Derived.Laws.Runes
import Derived.Lib.Small
import Derived.WalkMore
import Derived.Scope
import Derived.ScopeJumps
set_option linter.unusedVariables false
set_option linter.unusedSimpArgs false
namespace Go.Proofs.YtkomgidcgepknaaGreatDoor
open Go.RowKit Go.Deep Go.Lib

theorem get_bAt (s : ByteArray) (j : Nat) (h : j < s.size) : (s.get! j).toNat = bAt s j := by
  rw [bAt_eq h]
  have := get_at s j h
  rw [Nat.add_zero] at this
  rw [this]
theorem decode_cont (s : ByteArray) (pos : Nat) (h : pos < s.size) (ha : 128 ≤ bAt s pos) : pos + (Utf8.decode s pos).2 ≤ s.size ∧ ∀ j, pos ≤ j → j < pos + (Utf8.decode s pos).2 → 128 ≤ bAt s j := by
  have key : (Utf8.decode s pos).2 = 1 ∨ ((Utf8.decode s pos).2 ≤ 4 ∧ ∀ k, 1 ≤ k → k < (Utf8.decode s pos).2 → pos + k < s.size ∧ (s.get! (pos + k)).toNat / 64 = 2) := by
    have hn : ¬ (s.get! (pos + 0)).toNat < 128 := by rw [Nat.add_zero, get_bAt s pos h]; omega
    simp only [Utf8.decode, hn, if_false]
    split
    · rename_i h1
      simp only [Bool.and_eq_true, decide_eq_true_eq, beq_iff_eq] at h1
      split
      · right
        refine ⟨by show 2 ≤ 4; omega, fun k h2 h3 => ?_⟩
        obtain rfl : k = 1 := by have : k < 2 := h3; omega
        exact h1.2
      · left; rfl
    · split
      · rename_i h1
        simp only [Bool.and_eq_true, decide_eq_true_eq, beq_iff_eq] at h1
        split
        · right
          refine ⟨by show 3 ≤ 4; omega, fun k h2 h3 => ?_⟩
          have : k < 3 := h3
          obtain rfl | rfl : k = 1 ∨ k = 2 := by omega
          · exact h1.1.2
          · exact h1.2
        · left; rfl
      · split
        · rename_i h1
          simp only [Bool.and_eq_true, decide_eq_true_eq, beq_iff_eq] at h1
          split
          · right
            refine ⟨by show 4 ≤ 4; omega, fun k h2 h3 => ?_⟩
            have : k < 4 := h3
            obtain rfl | rfl | rfl : k = 1 ∨ k = 2 ∨ k = 3 := by omega
            · exact h1.1.1.2
            · exact h1.1.2
            · exact h1.2
          · left; rfl
        · left; rfl
  rcases key with e | ⟨h4, hk⟩
  · rw [e]
    refine ⟨by omega, fun j h1 h2 => ?_⟩
    obtain rfl : j = pos := by omega
    exact ha
  · have hsz : pos + (Utf8.decode s pos).2 ≤ s.size := by
      by_cases h2 : (Utf8.decode s pos).2 ≤ 1
      · omega
      · have := (hk ((Utf8.decode s pos).2 - 1) (by omega) (by omega)).1
        omega
    refine ⟨hsz, fun j h1 h2 => ?_⟩
    by_cases e : j = pos
    · subst e; exact ha
    · obtain ⟨h5, h6⟩ := hk (j - pos) (by omega) (by omega)
      rw [show pos + (j - pos) = j by omega] at h5 h6
      rw [get_bAt s j h5] at h6
      omega

/-- The two bytes '"' and newline. -/
def quoS : ByteArray := { data := #[34, 10] }

/-- The world with the text's iterator g at pos. -/
def iterAt (w : World) (g : Nat) (s : ByteArray) (pos : Nat) : World := { w with heap := w.heap.setIfInBounds g (.stringIter s pos) }
theorem iterAt_heap {w : World} {g : Nat} (h : g < w.heap.size) (s : ByteArray) (pos : Nat) : (iterAt w g s pos).heap[g]? = some (.stringIter s pos) := by
  simp [iterAt, h]
theorem iterAt_below {B g : Nat} {w0 w : World} (h : Below B w0 w) (hg : B ≤ g) (s : ByteArray) (pos : Nat) : Below B w0 (iterAt w g s pos) :=
  ⟨h.os, h.tape, h.output, by simp only [iterAt, Array.size_setIfInBounds]; exact h.size, fun k hk => by
    have : g ≠ k := by omega
    simp only [iterAt, Array.getElem?_setIfInBounds, this, if_false]
    exact h.block k hk⟩
theorem next_iter {P : Program} (w : World) (g : Nat) (s : ByteArray) (pos : Nat) (ty : TypeId) (hg : w.heap[g]? = some (.stringIter s pos)) (h : pos < s.size) :
    (Instr.next (.pointer (some ⟨g, 0, none⟩)) true ty).run P w = .ok (.tuple #[.bool true, .int .i64 pos, .int .i32 (Utf8.decode s pos).1]) (iterAt w g s (pos + (Utf8.decode s pos).2)) := by
  simp only [Instr.next, getObj, setObj, Sem.run_bind, Sem.run, hg, Result.andThen, h, if_true, iterAt]
  simp [goInt]
theorem next_iter_end {P : Program} (w : World) (g : Nat) (s : ByteArray) (pos : Nat) (ty : TypeId) (hg : w.heap[g]? = some (.stringIter s pos)) (h : ¬ pos < s.size) :
    (Instr.next (.pointer (some ⟨g, 0, none⟩)) true ty).run P w = .ok (.tuple #[.bool false]) w := by
  simp only [Instr.next, getObj, Sem.run_bind, Sem.run, hg, Result.andThen, h, if_false]
  simp

set_option maxHeartbeats 2000000 in
set_option maxRecDepth 1000000 in
theorem rune_high (r : Int) (w : World) (h : 128 ≤ r) (h2 : r ≤ 2147483647) :
    Calls Tryz.prog 194 #[.string quoS, .int .i32 r] w fun e w' => e = .returned (.int .i64 (-1)) ∧ Below w.heap.size w w' := by
  have hq : quoS.size = 2 := rfl
  by_cases hE : r = 65533
  · subst hE
    go_enter Tryz.func194, Tryz.ntmps194
    go_wp2
    go_loopg [5, 6] 2 (fun g _ _ wx => ∃ i : Nat, i + g = 2 ∧ wx = w.iter quoS i)
    case atStart => exact ⟨0, by omega, rfl⟩
    case round =>
      obtain ⟨i, hig, rfl⟩ := hrel
      cases gk with
      | zero =>
        obtain rfl : i = 2 := by omega
        have hnx := fun ty => run_next_end (P := Tryz.prog) w quoS 2 ty (by decide)
        go_wp2
        go_ret
        exact ⟨rfl, (Below.refl _ _).alloc (Nat.le_refl _) _⟩
      | succ g =>
        obtain ⟨v, hv, hnx⟩ : ∃ v : Int, v < 128 ∧ ∀ ty, (Instr.next (.pointer (some ⟨w.heap.size, 0, none⟩)) true ty).run Tryz.prog (w.iter quoS i) = .ok (.tuple #[.bool true, .int .i64 i, .int .i32 v]) (w.iter quoS (i + 1)) := by
          obtain rfl | rfl : i = 0 ∨ i = 1 := by omega
          · exact ⟨34, by decide, fun ty => run_next_ascii w quoS 0 ty (by decide) (by decide)⟩
          · exact ⟨10, by decide, fun ty => run_next_ascii w quoS 1 ty (by decide) (by decide)⟩
        have hne : ¬ v = 65533 := by omega
        go_wp2
        go_roundg g
        case measure => omega
        case rel => exact ⟨i + 1, by omega, rfl⟩
  · by_cases hv : Lib.validRune r = true
    · have hu : Utf8.valid r = true := by
        unfold Lib.validRune at hv
        unfold Utf8.valid
        simp only [decide_eq_true_eq, Bool.or_eq_true, Bool.and_eq_true] at hv ⊢
        omega
      obtain ⟨e1, e2, e3⟩ := encode_facts r hu h
      have hcv : ∀ w, (convert 21 9 (.int .i32 r)).run Tryz.prog w = .ok (.string (Utf8.encode r)) w := fun w => run_convert_int_string w _ _ _ r (by kernel_rfl) (by kernel_rfl)
      generalize Utf8.encode r = X at e1 e2 e3 hcv
      have hx3 := e3 (by omega)
      clear e3 hu
      go_enter Tryz.func194, Tryz.ntmps194
      go_wp2_with fail
      refine (Tryz.utf8_ValidRune r w).mono ?_
      rintro e w1 ⟨rfl, rfl⟩
      rw [hv]
      clear hv
      go_wp2
      go_step3
      go_wp2
      go_loopw [9, 10] (fun i _ wr => i = .int .i64 ((X.size : Int) - 1) ∧ wr = w1) (fun _ _ _ => 0)
      case atStart => exact ⟨rfl, rfl⟩
      case round =>
        obtain ⟨rfl, rfl⟩ := hrel
        by_cases hX2 : X.size = 2
        · have hx1 : 128 ≤ X[1].toNat := by
            have e : X.size - 1 = 1 := by omega
            simpa only [e] using hx3
          have hq1 : quoS[1].toNat = 10 := rfl
          have hne : ¬ (10 : Int) = (X[1].toNat : Int) := by omega
          have hw2 : IntKind.i64.wrap 2 = 2 := by decide
          have hempty : ∀ (c : Int) (w : World), Calls Tryz.prog 166 #[.string ByteArray.empty, .int .u8 c] w fun e w' => e = .returned (.int .i64 (-1)) ∧ w' = w := fun c w => Tryz.strings_IndexByte ByteArray.empty c w
          have hi1 : ((X.size : Int) - 1) = 1 := by omega
          clear hx3
          rw [hi1]
          go_wp2
          go_step3
          go_wp2
          go_quiet (fail)
          go_wp2
          go_quiet (exact quiet_add_left ((hempty _ _).mono fun _ _ hh => ⟨hh.1, hh.2.symm⟩))
          go_wp2
          rw [Exit.noGoto_ret]
          simp only [Exit.inBlock, Exit.then]
          simp +zetaDelta only [Exit.inBlock, Exit.then, Exit.noGoto_ret]
          refine bodyPost_ret (results_tmp rfl _ _ _) rfl ?_
          exact ⟨rfl, below_drewN (Below.refl _ _) _⟩
        · have hlt : ¬ ((X.size : Int) - 1) < 2 := by omega
          go_wp2
          try rw [Exit.noGoto_ret]
          go_ret
          exact ⟨rfl, Below.refl _ _⟩
    · have hv' : Lib.validRune r = false := by simpa using hv
      go_enter Tryz.func194, Tryz.ntmps194
      go_wp2_with fail
      refine (Tryz.utf8_ValidRune r w).mono ?_
      rintro e w1 ⟨rfl, rfl⟩
      rw [hv']
      go_wp2
      go_ret
      exact ⟨rfl, Below.refl _ _⟩

theorem quoS_list : quoS.data.toList = [34, 10] := rfl

set_option maxHeartbeats 2000000 in
set_option maxRecDepth 1000000 in
theorem any_short (t : ByteArray) (w : World) (h8 : t.size ≤ 8) :
    Calls Tryz.prog 168 #[.string t, .string quoS] w fun e w' => e = .returned (.int .i64 (Lib.indexAny t.data.toList [34, 10])) ∧ Below w.heap.size w w' := by
  have hq : quoS.size = 2 := rfl
  have hemp : quoS.toList.isEmpty = false := by rw [Lib.toList_data]; rfl
  have h8z : decide ((8 : Int) < (t.size : Int)) = false := decide_eq_false (by omega)
  go_enter Tryz.func168, Tryz.ntmps168
  go_wp2_with (go_at_call 195; refine (Tryz.strings_shouldUseASCIISet _ _).mono ?_; rintro e w' ⟨rfl, hw⟩; rw [hw, h8z])
  have hb0 : Below w.heap.size w (w.iter t 0) := (Below.refl _ _).alloc (Nat.le_refl _) _
  have hi0 := w.iter_heap t 0
  generalize w.iter t 0 = v0 at hb0 hi0 ⊢
  go_loopg [9, 10] t.size (fun g _ _ wx => ∃ i : Nat, i + g = t.size ∧ wx.heap[w.heap.size]? = some (.stringIter t i) ∧ Below w.heap.size w wx ∧ Lib.NoAny t.data.toList [34, 10] i)
  case atStart => exact ⟨0, by omega, hi0, hb0, Lib.NoAny.zero _ _⟩
  case round =>
    obtain ⟨i, hig, hit, hbr, hno⟩ := hrel
    have HN := hide hno
    clear hno
    cases gk with
    | zero =>
      obtain rfl : i = t.size := by omega
      have hnx := fun ty => next_iter_end (P := Tryz.prog) wr w.heap.size t t.size ty hit (by omega)
      go_wp2
      go_ret
      exact ⟨by rw [Lib.indexAny_none (by rw [← Lib.size_eq]; exact HN.out)]; rfl, hbr⟩
    | succ g =>
      have hi : i < t.size := by omega
      have hnx := fun ty => next_iter (P := Tryz.prog) wr w.heap.size t i ty hit hi
      have hlt : w.heap.size < wr.heap.size := (Array.getElem?_eq_some_iff.1 hit).1
      have hit2 := iterAt_heap hlt t (i + (Utf8.decode t i).2)
      have hbr2 := iterAt_below hbr (Nat.le_refl _) t (i + (Utf8.decode t i).2)
      generalize iterAt wr w.heap.size t (i + (Utf8.decode t i).2) = w2 at hnx hit2 hbr2
      by_cases hb : bAt t i < 128
      · have hd : Utf8.decode t i = (bAt t i, 1) := by rw [bAt_eq hi] at hb ⊢; exact decode_ascii t i hi hb
        rw [hd] at hnx hit2
        have hrun := Tryz.strings_IndexRune_ascii quoS (bAt t i : Nat) w2 (by omega) (by omega)
        rw [quoS_list, Int.toNat_natCast] at hrun
        have hc := Lib.contains_iff_indexByte [34, 10] (bAt t i).toUInt8
        have hget : t.data.toList[i]? = some (bAt t i).toUInt8 := by
          rw [byte_at, dif_pos hi, bAt_eq hi]
          simp
        cases hin : ([34, 10] : List UInt8).contains (bAt t i).toUInt8
        · rw [hin] at hc
          have hlt0 : ¬ ((0 : Int) ≤ Lib.indexByte [34, 10] (bAt t i).toUInt8) := of_decide_eq_false hc.symm
          have HG : Hid (Lib.NoAny t.data.toList [34, 10] (i + 1)) := HN.out.succ hget hin
          clear hc hin hget hd HN
          have hlt1 : Lib.indexByte [34, 10] (bAt t i).toUInt8 < 0 := by omega
          clear hlt0
          generalize Lib.indexByte [34, 10] (bAt t i).toUInt8 = v at hrun hlt1
          go_wp2_with fail
          refine hrun.mono ?_
          rintro e w3 ⟨rfl, rfl⟩
          go_wp2
          go_roundg g
          case measure => omega
          case rel => exact ⟨i + 1, by omega, hit2, hbr2, HG.out⟩
        · rw [hin] at hc
          have hge : (0 : Int) ≤ Lib.indexByte [34, 10] (bAt t i).toUInt8 := of_decide_eq_true hc.symm
          have HG : Hid (Lib.indexAny t.data.toList [34, 10] = i) := Lib.indexAny_hit HN.out hget hin
          clear hc hin hget hd HN
          generalize Lib.indexByte [34, 10] (bAt t i).toUInt8 = v at hrun hge
          go_wp2_with fail
          refine hrun.mono ?_
          rintro e w3 ⟨rfl, rfl⟩
          go_wp2
          go_ret
          exact ⟨by rw [HG.out]; rfl, hbr2⟩
      · have h128 : 128 ≤ (Utf8.decode t i).1 := (decode_high t i hi (by rw [bAt_eq hi] at hb; omega)).1
        have hw1 : 1 ≤ (Utf8.decode t i).2 := (decode_high t i hi (by rw [bAt_eq hi] at hb; omega)).2
        have hle := decode_le t i
        obtain ⟨hsz, hall⟩ := decode_cont t i hi (by omega)
        have HG : Hid (Lib.NoAny t.data.toList [34, 10] (i + (Utf8.decode t i).2)) := by
          intro j b hj hget
          by_cases hji : j < i
          · exact HN.out j b hji hget
          · have h5 := hall j (by omega) hj
            rw [byte_at, dif_pos (by omega)] at hget
            injection hget with hget
            rw [bAt_eq (by omega : j < t.size), hget] at h5
            have : b ≠ 34 := by intro e; subst e; exact absurd h5 (by decide)
            have : b ≠ 10 := by intro e; subst e; exact absurd h5 (by decide)
            simp [*]
        clear HN hall
        generalize Utf8.decode t i = q at hnx hit2 hsz HG h128 hw1 hle
        obtain ⟨c, d⟩ := q
        dsimp only at hnx hit2 hsz HG h128 hw1 hle
        have hrun := rune_high (c : Int) w2 (by omega) (by omega)
        have hsz2 := hbr2.size
        go_wp2_with fail
        refine hrun.mono ?_
        rintro e w3 ⟨rfl, hb3⟩
        have hit3 : w3.heap[w.heap.size]? = some (.stringIter t (i + d)) := (hb3.block _ (Array.getElem?_eq_some_iff.1 hit2).1).trans hit2
        have hbr3 := hbr2.trans (hb3.mono hsz2)
        go_wp2
        go_roundg (t.size - (i + d))
        case measure => omega
        case rel => exact ⟨i + d, by omega, hit3, hbr3, HG.out⟩

theorem set_zero : (Tryz.prog.info? 224).map (fun i => (i.zero, i.size)) = some (some (.agg (Array.replicate 256 (.bool false))), 256) := by kernel_rfl
/-- strings.IndexAny(s[j:], "\"\n"). -/
theorem quo_any (s : ByteArray) (j : Nat) (w : World) (hs : s.size ≤ 20000) :
    Calls Tryz.prog 168 #[.string (s.extract j s.size), .string quoS] w fun e w' => e = .returned (.int .i64 (match find s isQuo j with | none => -1 | some k => ((k - j : Nat) : Int))) ∧ Below w.heap.size w w' := by
  have key : Calls Tryz.prog 168 #[.string (s.extract j s.size), .string quoS] w fun e w' => e = .returned (.int .i64 (Lib.indexAny (s.extract j s.size).data.toList [34, 10])) ∧ Below w.heap.size w w' := by
    by_cases h8 : (s.extract j s.size).size ≤ 8
    · exact any_short _ w h8
    · have := Tryz.strings_IndexAny_long (zero_of_info set_zero).1 (s.extract j s.size) quoS w (by decide) (by omega) (by rw [ByteArray.size_extract]; omega) (by decide)
        (fun k b hb => by
          rw [quoS_list] at hb
          rcases k with _ | _ | k
          · simp at hb; subst hb; decide
          · simp at hb; subst hb; decide
          · simp at hb)
      refine this.mono ?_
      rintro e w' ⟨rfl, rfl⟩
      exact ⟨rfl, ((Below.refl _ _).alloc (Nat.le_refl _) _).alloc (by simp) _⟩
  rw [tail_list, find_any, oneOf_quo] at key
  exact key
end Go.Proofs.YtkomgidcgepknaaGreatDoor
