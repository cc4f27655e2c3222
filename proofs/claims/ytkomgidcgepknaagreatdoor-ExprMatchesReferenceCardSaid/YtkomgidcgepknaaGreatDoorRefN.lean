/-
  The reference of chapter 21: the operands of an operator, the names of functions, identifiers.
-/
import Derived.Test.YtkomgidcgepknaaGreatDoorTools
import Derived.Lib.Strings
import Derived.Test.YtkomgidcgepknaaGreatDoorNameP
import Derived.Test.YtkomgidcgepknaaGreatDoorParP
import Derived.Test.YtkomgidcgepknaaGreatDoorRefP
import Derived.Test.YtkomgidcgepknaaGreatDoorBndP
import Derived.Test.YtkomgidcgepknaaGreatDoorNodA
import Derived.Test.YtkomgidcgepknaaGreatDoorExpL
import Derived.ArgAppend
set_option linter.unusedVariables false
set_option linter.unusedSimpArgs false
namespace Go.Proofs.YtkomgidcgepknaaGreatDoor
open Go.RowKit Go.Deep

set_option maxHeartbeats 2000000 in
theorem refOperands_any (op : Int) (w : World) : Calls Tryz.prog 136 #[.int .i64 op] w fun e w' => e = .returned (.int .i64 (operands op)) ∧ w = w' := by
  have H : ∀ v, (if op = 1 ∨ op = 2 then 0 else if op = 12 then 1 else if op = 9 then 3 else if 3 ≤ op ∧ op ≤ 11 then 2 else -1) = v → operands op = v := fun v h => h
  have HH := hide H
  clear H
  go_enter Tryz.func136, Tryz.ntmps136
  go_wp2
  all_goals go_ret
  all_goals refine ⟨ret_int (HH.out _ ?_).symm, rfl⟩
  all_goals first | (simp_all; done) | (repeat' split) <;> simp_all <;> omega

theorem toList_is (s : ByteArray) (l : List UInt8) : s.toList = l ↔ s = ⟨l.toArray⟩ := by
  rw [Go.Lib.toList_data]
  constructor
  · intro h
    exact ByteArray.ext (Array.toList_inj.1 (by rw [h]))
  · rintro rfl
    rfl
theorem func_split (s : ByteArray) : decide (funcOp s ≠ 0) = (s.toList == [109, 105, 110] || s.toList == [109, 97, 120] || s.toList == [105, 102]) := by
  unfold funcOp
  by_cases h1 : s.toList = [109, 105, 110]
  · rw [if_pos ((toList_is s _).1 h1), h1]; rfl
  · rw [if_neg (fun h => h1 ((toList_is s _).2 h))]
    by_cases h2 : s.toList = [109, 97, 120]
    · rw [if_pos ((toList_is s _).1 h2), h2]; rfl
    · rw [if_neg (fun h => h2 ((toList_is s _).2 h))]
      by_cases h3 : s.toList = [105, 102]
      · rw [if_pos ((toList_is s _).1 h3), h3]; rfl
      · rw [if_neg (fun h => h3 ((toList_is s _).2 h)), beq_eq_false_iff_ne.2 h1, beq_eq_false_iff_ne.2 h2, beq_eq_false_iff_ne.2 h3]
        rfl
theorem refFunction_any (s : ByteArray) (w : World) : Calls Tryz.prog 138 #[.string s] w fun e w' => e = .returned (.bool (decide (funcOp s ≠ 0))) ∧ w = w' := by
  have HF := hide (func_split s)
  go_enter Tryz.func138, Tryz.ntmps138
  go_wp2
  all_goals go_ret
  all_goals refine ⟨?_, rfl⟩
  all_goals rw [HF.out]
  all_goals simp_all

theorem byte_class (n : Nat) : (isLetter n = true ∧ isWord n = true ∧ ((97 ≤ n ∧ n ≤ 122) ∨ (65 ≤ n ∧ n ≤ 90))) ∨ (isLetter n = false ∧ isWord n = true ∧ (n = 95 ∨ (48 ≤ n ∧ n ≤ 57))) ∨
    (isLetter n = false ∧ isWord n = false ∧ (n < 48 ∨ (57 < n ∧ n < 65) ∨ (90 < n ∧ n < 95) ∨ n = 96 ∨ 122 < n)) := by
  unfold isWord isDigit isLetter
  by_cases h1 : 97 ≤ n <;> by_cases h2 : n ≤ 122 <;> by_cases h3 : 65 ≤ n <;> by_cases h4 : n ≤ 90 <;> by_cases h5 : 48 ≤ n <;> by_cases h6 : n ≤ 57 <;> by_cases h7 : n = 95 <;> first | (exfalso; omega) | (simp [h1, h2, h3, h4, h5, h6, h7] <;> omega)
theorem name_bad' {s : ByteArray} {i : Nat} (hi : i < s.size) (h : isWord (bAt s i) = false) : nameB s = false := by
  unfold nameB
  cases ha : (List.range s.size).all fun i => isWord (bAt s i)
  · simp
  · rw [List.all_eq_true] at ha
    have := ha i (List.mem_range.2 hi)
    rw [h] at this
    cases this
theorem name_bad0 {s : ByteArray} (h : isLetter (bAt s 0) = false) : nameB s = false := by
  unfold nameB
  rw [h]
  simp
theorem name_end {s : ByteArray} {k : Nat} (hk : k ≤ s.size) (hk2 : k ≤ 25) (hend : ¬ (k < s.size ∧ k < 25)) (h0 : 0 < k → isLetter (bAt s 0) = true) (hw : ∀ j, j < k → isWord (bAt s j) = true) : nameB s = (decide (1 ≤ s.size) && decide (s.size ≤ 24)) := by
  unfold nameB
  by_cases h24 : s.size ≤ 24
  · obtain rfl : k = s.size := by omega
    by_cases h1 : 1 ≤ s.size
    · rw [h0 (by omega), List.all_eq_true.2 (fun j hj => hw j (List.mem_range.1 hj))]
      simp
    · rw [decide_eq_false h1]
      rfl
  · rw [decide_eq_false h24]
    simp

set_option maxHeartbeats 4000000 in
set_option maxRecDepth 20000 in
theorem refIdent_any (s : ByteArray) (w : World) (hs : s.size ≤ maxLen) : Calls Tryz.prog 137 #[.string s] w fun e w' => e = .returned (.bool (nameB s)) ∧ w = w' := by
  unfold maxLen at hs
  go_enter Tryz.func137, Tryz.ntmps137
  go_wp2
  go_loop [3] (fun i => ∃ k : Nat, k ≤ s.size ∧ k ≤ 25 ∧ i = .int .i64 k ∧ (0 < k → isLetter (bAt s 0) = true) ∧ ∀ j, j < k → isWord (bAt s j) = true) (fun i => s.size - (intOf i).toNat)
  case atStart => exact ⟨0, Nat.zero_le _, by omega, rfl, fun h => absurd h (by omega), fun j hj => absurd hj (by omega)⟩
  case round =>
    obtain ⟨k, hk, hk25, rfl, h0, hall⟩ := hrel
    have HA := hide hall
    have H0 := hide h0
    clear hall h0
    by_cases hend : k < s.size ∧ k < 25
    · obtain ⟨hlt, hlt25⟩ := hend
      have g25 : decide ((k : Int) < 25) = true := decide_eq_true (by omega)
      have hb : bAt s k = s[k].toNat := bAt_eq hlt
      have HB := hide hb
      clear hb
      have hcl := byte_class s[k].toNat
      have HNX : Hid (isLetter s[k].toNat = true ∧ isWord s[k].toNat = true ∨ 0 < k ∧ isWord s[k].toNat = true → (0 < k + 1 → isLetter (bAt s 0) = true) ∧ ∀ j, j < k + 1 → isWord (bAt s j) = true) := hide (fun h => by
        constructor
        · intro _
          by_cases hk0 : 0 < k
          · exact H0.out hk0
          · obtain rfl : k = 0 := by omega
            rw [HB.out]
            rcases h with h | h
            · exact h.1
            · exact absurd h.1 hk0
        · intro j hj
          by_cases hj2 : j < k
          · exact HA.out j hj2
          · obtain rfl : j = k := by omega
            rw [HB.out]
            rcases h with h | h
            · exact h.2
            · exact h.2)
      have HBAD : Hid ((isLetter s[k].toNat = false ∧ k = 0) ∨ isWord s[k].toNat = false → nameB s = false) := hide (fun h => by
        rcases h with h | h
        · refine name_bad0 ?_
          rw [← h.2, HB.out]
          exact h.1
        · exact name_bad' hlt (by rw [HB.out]; exact h))
      clear HB HA H0
      rcases hcl with ⟨c1, c2, h | h⟩ | ⟨c1, c2, h | h⟩ | ⟨c1, c2, h | h | h | h | h⟩
      all_goals
        first | (have d1 : decide ((97 : Int) ≤ (s[k].toNat : Int)) = true := decide_eq_true (by omega)) | (have d1 : decide ((97 : Int) ≤ (s[k].toNat : Int)) = false := decide_eq_false (by omega))
        first | (have d2 : decide ((s[k].toNat : Int) ≤ 122) = true := decide_eq_true (by omega)) | (have d2 : decide ((s[k].toNat : Int) ≤ 122) = false := decide_eq_false (by omega))
        first | (have d3 : decide ((65 : Int) ≤ (s[k].toNat : Int)) = true := decide_eq_true (by omega)) | (have d3 : decide ((65 : Int) ≤ (s[k].toNat : Int)) = false := decide_eq_false (by omega))
        first | (have d4 : decide ((s[k].toNat : Int) ≤ 90) = true := decide_eq_true (by omega)) | (have d4 : decide ((s[k].toNat : Int) ≤ 90) = false := decide_eq_false (by omega))
        first | (have d5 : ((s[k].toNat : Int) != 95) = true := bne_iff_ne.2 (by omega)) | (have d5 : ((s[k].toNat : Int) != 95) = false := bne_eq_false_iff_eq.2 (by omega))
        first | (have d6 : decide ((s[k].toNat : Int) < 48) = true := decide_eq_true (by omega)) | (have d6 : decide ((s[k].toNat : Int) < 48) = false := decide_eq_false (by omega))
        first | (have d7 : decide ((57 : Int) < (s[k].toNat : Int)) = true := decide_eq_true (by omega)) | (have d7 : decide ((57 : Int) < (s[k].toNat : Int)) = false := decide_eq_false (by omega))
        by_cases hk0 : k = 0
        · have e0 : ((k : Int) == 0) = true := beq_iff_eq.2 (by omega)
          have HC1 := hide c1
          have HC2 := hide c2
          have HK0 := hide hk0
          clear h c1 c2 hk0
          go_wp2
          first
            | (go_round
               case rel => exact ⟨k + 1, by omega, by omega, by go_num, (HNX.out (.inl ⟨HC1.out, HC2.out⟩)).1, (HNX.out (.inl ⟨HC1.out, HC2.out⟩)).2⟩
               case measure => simp [intOf]; omega)
            | (go_ret
               exact ⟨by rw [HBAD.out (.inl ⟨HC1.out, HK0.out⟩)]; rfl, rfl⟩)
        · have e0 : ((k : Int) == 0) = false := beq_eq_false_iff_ne.2 (by omega)
          have HC1 := hide c1
          have HC2 := hide c2
          have hkp : 0 < k := by omega
          clear h c1 c2 hk0
          go_wp2
          first
            | (go_round
               case rel => exact ⟨k + 1, by omega, by omega, by go_num, (HNX.out (.inr ⟨hkp, HC2.out⟩)).1, (HNX.out (.inr ⟨hkp, HC2.out⟩)).2⟩
               case measure => simp [intOf]; omega)
            | (go_ret
               exact ⟨by rw [HBAD.out (.inr HC2.out)]; rfl, rfl⟩)
    · have HE := hide (name_end hk hk25 hend H0.out HA.out)
      clear HA H0
      by_cases hlt : k < s.size
      · have g25 : decide ((k : Int) < 25) = false := decide_eq_false (by omega)
        have g1 : decide ((1 : Int) ≤ (s.size : Int)) = true := decide_eq_true (by omega)
        have g24 : decide ((s.size : Int) ≤ 24) = false := decide_eq_false (by omega)
        have HF : Hid (nameB s = false) := by
          show _ = _
          rw [HE.out, decide_eq_false (show ¬ s.size ≤ 24 by omega), Bool.and_false]
        go_wp2
        go_ret
        exact ⟨by rw [HF.out]; rfl, rfl⟩
      · by_cases h1 : 1 ≤ s.size
        · have g1 : decide ((1 : Int) ≤ (s.size : Int)) = true := decide_eq_true (by omega)
          by_cases h24 : s.size ≤ 24
          · have g24 : decide ((s.size : Int) ≤ 24) = true := decide_eq_true (by omega)
            rw [decide_eq_true h1, decide_eq_true h24] at HE
            go_wp2
            go_ret
            exact ⟨by rw [HE.out]; rfl, rfl⟩
          · have g24 : decide ((s.size : Int) ≤ 24) = false := decide_eq_false (by omega)
            rw [decide_eq_true h1, decide_eq_false h24] at HE
            go_wp2
            go_ret
            exact ⟨by rw [HE.out]; rfl, rfl⟩
        · have g1 : decide ((1 : Int) ≤ (s.size : Int)) = false := decide_eq_false (by omega)
          rw [decide_eq_false h1] at HE
          go_wp2
          go_ret
          exact ⟨by rw [HE.out]; rfl, rfl⟩
end Go.Proofs.YtkomgidcgepknaaGreatDoor

/-
  The reference of chapter 21: nodes, and whole expressions.
-/
set_option linter.unusedVariables false
set_option linter.unusedSimpArgs false
namespace Go.Proofs.YtkomgidcgepknaaGreatDoor
open Go.RowKit Go.Deep

theorem refOp_is (op : Int) (w : World) : Calls Tryz.prog 136 #[.int .i64 op] w fun e w' => e = .returned (.int .i64 (operands op)) ∧ w = w' := refOperands_any op w

set_option maxHeartbeats 4000000 in
set_option maxRecDepth 20000 in
theorem refNode_any (x : Nod) (A : Option Addr) (c : Nat) (w : World) (hs : x.name.size ≤ maxLen) : Calls Tryz.prog 84 #[x.val A c] w fun e w' => e = .returned (.bool (formedL x)) ∧ Below w.heap.size w w' := by
  unfold Nod.val
  have hb0 : Below w.heap.size w (w.alloc (Obj.cells #[.int .i64 x.op, .int .i64 x.n, .string x.name, .slice A x.kids.length c] 56)) := (Below.refl _ _).alloc (Nat.le_refl _) _
  have hB0 : Blk (w.alloc (Obj.cells #[.int .i64 x.op, .int .i64 x.n, .string x.name, .slice A x.kids.length c] 56)) w.heap.size 56 #[.int .i64 x.op, .int .i64 x.n, .string x.name, .slice A x.kids.length c] := Blk.new _ _ _
  go_enter Tryz.func84, Tryz.ntmps84
  go_upto_region 1 with (fail)
  generalize w.alloc (Obj.cells #[.int .i64 x.op, .int .i64 x.n, .string x.name, .slice A x.kids.length c] 56) = w0 at hb0 hB0 ⊢
  have hlt0 := Blk.lt hB0
  obtain ⟨c0, c1, c2, c3, _, _, _, _⟩ := blk4 hB0
  have HB0 := hide hB0
  have HBL := hide hb0
  clear hB0 hb0
  by_cases hk : operands x.op = x.kids.length
  · have hk' : (operands x.op != ((x.kids.length : Nat) : Int)) = false := bne_eq_false_iff_eq.2 hk
    by_cases h2 : x.op = 2
    · have h1' : (x.op != 1) = true := bne_iff_ne.2 (by omega)
      have h1'' : (x.op == 1) = false := beq_eq_false_iff_ne.2 (by omega)
      have h2' : (x.op != 2) = false := bne_eq_false_iff_eq.2 h2
      by_cases hn : x.n = 0
      · have hn' : (x.n != 0) = false := bne_eq_false_iff_eq.2 hn
        have HF : Hid (formedL x = (nameB x.name && decide (funcOp x.name = 0))) := by
          show _ = _
          unfold formedL
          rw [decide_eq_true hk, if_neg (by omega), if_pos h2, decide_eq_true hn]
          simp
        clear hk h2 hn
        go_quiet ((go_at_call 136; exact quiet_left (refOp_is _ _)))
        obtain ⟨wq, hwq⟩ : ∃ wq, wq = w0.drewN nq := ⟨_, rfl⟩
        have HBQ : Hid (Below w.heap.size w wq) := hide (by rw [hwq]; exact below_drewN HBL.out nq)
        have d0 : wq.cell? ⟨w.heap.size, 0, none⟩ = some (.int .i64 x.op) := by rw [hwq]; exact c0
        have d2 : wq.cell? ⟨w.heap.size, 2, none⟩ = some (.string x.name) := by rw [hwq]; exact c2
        rw [← hwq]
        clear hwq c0 c1 c2 c3
        have HI := hide (refIdent_any x.name wq hs)
        have HG := hide (refFunction_any x.name wq)
        cases e1 : nameB x.name
        · rw [e1] at HF HI
          go_wp2_with fail
          refine HI.out.mono ?_
          rintro en w3 ⟨rfl, rfl⟩
          go_wp2
          go_ret
          exact ⟨by rw [HF.out]; rfl, HBQ.out⟩
        · rw [e1] at HF HI
          go_wp2_with fail
          refine HI.out.mono ?_
          rintro en w3 ⟨rfl, rfl⟩
          go_wp2_with fail
          refine HG.out.mono ?_
          rintro en w3 ⟨rfl, rfl⟩
          go_wp2
          go_ret
          exact ⟨by rw [HF.out]; simp, HBQ.out⟩
      · have hn' : (x.n != 0) = true := bne_iff_ne.2 hn
        have HF : Hid (formedL x = false) := by
          show _ = _
          unfold formedL
          rw [decide_eq_true hk, if_neg (by omega), if_pos h2, decide_eq_false hn]
          simp
        clear hk h2 hn
        go_quiet ((go_at_call 136; exact quiet_left (refOp_is _ _)))
        go_wp2
        go_ret
        exact ⟨by rw [HF.out]; rfl, below_drewN HBL.out nq⟩
    · have h2' : (x.op != 2) = true := bne_iff_ne.2 h2
      by_cases h1 : x.op = 1
      · have h1' : (x.op != 1) = false := bne_eq_false_iff_eq.2 h1
        have h1'' : (x.op == 1) = true := beq_iff_eq.2 h1
        have HF := hide (formed_one hk h1)
        clear hk h2 h1
        cases hem : x.name.toList.isEmpty
        · rw [hem] at HF
          go_quiet ((go_at_call 136; exact quiet_left (refOp_is _ _)))
          go_wp2
          go_ret
          exact ⟨by rw [HF.out]; rfl, below_drewN HBL.out nq⟩
        · rw [hem, Bool.true_and] at HF
          go_quiet ((go_at_call 136; exact quiet_left (refOp_is _ _)))
          cases d1 : decide (0 ≤ x.n)
          all_goals
            cases d2 : decide (x.n ≤ 1000000)
            all_goals
              rw [d1, d2] at HF
              go_wp2
              go_ret
              exact ⟨by rw [HF.out]; rfl, below_drewN HBL.out nq⟩
      · have h1' : (x.op != 1) = true := bne_iff_ne.2 h1
        have h1'' : (x.op == 1) = false := beq_eq_false_iff_ne.2 h1
        have HF := hide (formed_else hk h1 h2)
        clear hk h2 h1
        by_cases hn : x.n = 0
        · have hn' : (x.n != 0) = false := bne_eq_false_iff_eq.2 hn
          rw [decide_eq_true hn, Bool.true_and] at HF
          clear hn
          cases hem : x.name.toList.isEmpty
          all_goals
            rw [hem] at HF
            go_quiet ((go_at_call 136; exact quiet_left (refOp_is _ _)))
            go_wp2
            go_ret
            exact ⟨by rw [HF.out]; rfl, below_drewN HBL.out nq⟩
        · have hn' : (x.n != 0) = true := bne_iff_ne.2 hn
          rw [decide_eq_false hn, Bool.false_and] at HF
          clear hn
          go_quiet ((go_at_call 136; exact quiet_left (refOp_is _ _)))
          go_wp2
          go_ret
          exact ⟨by rw [HF.out]; rfl, below_drewN HBL.out nq⟩
  · have hk' : (operands x.op != ((x.kids.length : Nat) : Int)) = true := bne_iff_ne.2 hk
    have HF : Hid (formedL x = false) := by
      show _ = _
      unfold formedL
      rw [decide_eq_false hk, Bool.false_and]
    clear hk
    go_quiet ((go_at_call 136; exact quiet_left (refOp_is _ _)))
    go_wp2
    go_ret
    exact ⟨by rw [HF.out]; rfl, below_drewN HBL.out nq⟩

theorem Own.lower {w : World} {base base' : Nat} {e : TypeId} {size : Nat} {A : Option Addr} {n c : Nat} {xs : List Value} (h : Own w base e size A n c xs) (hb : base' ≤ base) : Own w base' e size A n c xs := by
  refine ⟨h.1, ?_⟩
  rcases h.2 with h2 | ⟨g, cap, cur, hv, hg, r⟩
  · exact .inl h2
  · exact .inr ⟨g, cap, cur, hv, Nat.le_trans hb hg, r⟩
theorem Own.far {w : World} {base : Nat} {e : TypeId} {size : Nat} {A : Option Addr} {n c : Nat} {xs : List Value} (h : Own w base e size A n c xs) {p : Addr} (hp : p.block < base) (u : Value) : Own (w.setCell p u) base e size A n c xs :=
  h.keepC fun g hg _ => Below.heap_setCell w p u g (by omega)
/-- A node that lies in memory, in whatever world above. -/
theorem nod_cells {w w' : World} {B b off i : Nat} {x : Nod} {K : Option Addr} {kc : Nat} (hb : Below B w w') (hB : b < B) (h0 : w.cell? ⟨b, off + i * 4, none⟩ = some (.int .i64 x.op)) (h1 : w.cell? ⟨b, off + i * 4 + 1, none⟩ = some (.int .i64 x.n))
    (h2 : w.cell? ⟨b, off + i * 4 + 2, none⟩ = some (.string x.name)) (h3 : w.cell? ⟨b, off + i * 4 + 3, none⟩ = some (.slice K x.kids.length kc)) :
    w'.cell? ⟨b, off + i * 4, none⟩ = some (.int .i64 x.op) ∧ w'.cell? ⟨b, off + i * 4 + 1, none⟩ = some (.int .i64 x.n) ∧ w'.cell? ⟨b, off + i * 4 + 2, none⟩ = some (.string x.name) ∧ w'.cell? ⟨b, off + i * 4 + 3, none⟩ = some (.slice K x.kids.length kc) :=
  ⟨(hb.cell (p := ⟨b, off + i * 4, none⟩) hB).trans h0, (hb.cell (p := ⟨b, off + i * 4 + 1, none⟩) hB).trans h1, (hb.cell (p := ⟨b, off + i * 4 + 2, none⟩) hB).trans h2, (hb.cell (p := ⟨b, off + i * 4 + 3, none⟩) hB).trans h3⟩
/-- The depths lie beside the roots. -/
def DepthsOk (os : List (Nat × Nat)) (k : Nat) (ds : List Int) : Prop := ∀ x ∈ os, x.1 < k ∧ nth ds x.1 = (x.2 : Int)
theorem depths_next {os : List (Nat × Nat)} {k n d : Nat} {ds : List Int} (h : DepthsOk os k ds) (hk : k < ds.length) : DepthsOk ((k, d) :: os.drop n) (k + 1) (ds.set k (d : Int)) := by
  intro x hx
  rcases List.mem_cons.1 hx with rfl | hx
  · refine ⟨by omega, ?_⟩
    unfold nth
    rw [List.getD_eq_getElem?_getD, List.getElem?_set_self (by exact hk)]
    rfl
  · have := h x (List.mem_of_mem_drop hx)
    refine ⟨by omega, ?_⟩
    rw [← this.2]
    unfold nth
    rw [List.getD_eq_getElem?_getD, List.getElem?_set_ne (by omega), ← List.getD_eq_getElem?_getD]
theorem scan_depth {e : List Nod} : ∀ (n : Nat) (os : List (Nat × Nat)), scanN e n = some os → ∀ x ∈ os, x.2 ≤ x.1 + 1
  | 0, os, h => by
    injection h with h
    subst h
    exact fun x hx => absurd hx List.not_mem_nil
  | n + 1, os, h => by
    rw [scanN_succ] at h
    cases hs : scanN e n with
    | none => rw [hs] at h; cases h
    | some os0 =>
      rw [hs] at h
      dsimp only at h
      split at h
      · injection h with h
        subst h
        intro x hx
        have ih := scan_depth n os0 hs
        rcases List.mem_cons.1 hx with rfl | hx
        · have := deepest_bd n (os0.take (nodAt e n).kids.length) (fun y hy => by
            have h1 := ih y (List.mem_of_mem_take hy)
            have h2 := scan_lt n os0 hs y (List.mem_of_mem_take hy)
            omega)
          show deepest _ + 1 ≤ n + 1
          omega
        · exact ih x (List.mem_of_mem_drop hx)
      · cases h
theorem getD_mem2 {os : List (Nat × Nat)} {i : Nat} (h : i < os.length) : os.getD i (0, 0) ∈ os := getD_mem os i (0, 0) h

set_option maxHeartbeats 8000000 in
set_option maxRecDepth 20000 in
theorem refValidE_any (A : Option Addr) (c : Nat) (e : List Nod) (w : World) (h : ExprAt w w.heap.size A e) (hn : ∀ x ∈ e, x.name.size ≤ maxLen) (hm : e.length ≤ maxLen) :
    Calls Tryz.prog 34 #[.slice A e.length c] w fun en w' => en = .returned (.bool (validL e)) ∧ Below w.heap.size w w' := by
  have HE := hide h
  have HN := hide hn
  unfold maxLen at hm
  clear h hn
  by_cases h1 : e.length < 1
  · have d1 : decide ((e.length : Int) < 1) = true := decide_eq_true (by omega)
    have HF : Hid (validL e = false) := by
      show _ = _
      unfold validL
      rw [decide_eq_false (show ¬ 1 ≤ e.length by omega)]
      rfl
    go_enter Tryz.func34, Tryz.ntmps34
    go_wp2
    go_ret
    exact ⟨by rw [HF.out]; rfl, Below.refl _ _⟩
  · have d1 : decide ((e.length : Int) < 1) = false := decide_eq_false (by omega)
    by_cases h3 : 300 < e.length
    · have d3 : decide ((300 : Int) < (e.length : Int)) = true := decide_eq_true (by omega)
      have HF : Hid (validL e = false) := by
        show _ = _
        unfold validL
        rw [decide_eq_false (show ¬ e.length ≤ 300 by omega)]
        simp
      go_enter Tryz.func34, Tryz.ntmps34
      go_wp2
      go_ret
      exact ⟨by rw [HF.out]; rfl, Below.refl _ _⟩
    · have d3 : decide ((300 : Int) < (e.length : Int)) = false := decide_eq_false (by omega)
      have hmk := fun (w : World) => make_run (P := Tryz.prog) 31 3 (.int .i64 0) 8 Tryz.underlying31 int_info rfl e.length (by omega) (by omega) w
      have hga : Blk (w.alloc (.cells (Array.replicate e.length (.int .i64 0)) 3)) w.heap.size 3 (ints (List.replicate e.length 0)).toArray := by
        have : Array.replicate e.length (Value.int .i64 0) = (ints (List.replicate e.length 0)).toArray := by
          unfold ints
          apply Array.toList_inj.1
          simp
        rw [← this]
        exact Blk.new _ _ _
      have hb4 : Below w.heap.size w (w.alloc (.cells (Array.replicate e.length (.int .i64 0)) 3)) := (Below.refl _ _).alloc (Nat.le_refl _) _
      go_enter Tryz.func34, Tryz.ntmps34
      go_upto_region 5 with (fail)
      generalize w.alloc (.cells (Array.replicate e.length (.int .i64 0)) 3) = w4 at hga hb4 ⊢
      clear hmk d1 d3
      have HG4 := hide hga
      have HB4 := hide hb4
      have hgl4 := hga.lt
      clear hga hb4
      go_wp2
      go_loopw [3, 5] (fun v i wr => ∃ (k : Nat) (os : List (Nat × Nat)) (A4 : Option Addr) (c4 : Nat) (ds : List Int), k ≤ e.length ∧ i = .int .i64 k ∧ v = .slice A4 os.length c4 ∧ scanN e k = some os ∧ Own wr w4.heap.size 3 1 A4 os.length c4 (ints (rootsL os)) ∧
        ds.length = e.length ∧ Blk wr w.heap.size 3 (ints ds).toArray ∧ DepthsOk os k ds ∧ os.length ≤ k ∧ Below w.heap.size w wr ∧ w4.heap.size ≤ wr.heap.size) (fun _ i _ => e.length - (intOf i).toNat)
      case atStart => exact ⟨0, [], none, 0, _, Nat.zero_le _, rfl, rfl, rfl, Own.nil _ _ _ _, by simp, HG4.out, fun x hx => absurd hx List.not_mem_nil, Nat.le_refl _, HB4.out, Nat.le_refl _⟩
      case round =>
        obtain ⟨k, os, A4, c4, ds, hk, rfl, rfl, hsc, hown, hdl, hblk, hdo, hol, hbr, hw4⟩ := hrel
        have HSC := hide hsc
        have HOW := hide hown
        have HDL := hide hdl
        have HBK := hide hblk
        have HDO := hide hdo
        have HBR := hide hbr
        clear hsc hown hdl hblk hdo hbr HG4 HB4
        by_cases hlt : k < e.length
        · obtain ⟨b, off, K, kc, rfl, hb, x0, x1, x2, x3, hK⟩ := HE.out.at_ hlt
          have HXN := hide (HN.out _ (List.mem_of_getElem? (nodAt_get hlt)))
          have HSU := hide (scanN_succ e k)
          rw [HSC.out] at HSU
          have HBAD := hide (fun h : scanN e (k + 1) = none => validR_none (e := e) hlt h)
          generalize nodAt e k = x at x0 x1 x2 x3 hK HXN HSU
          have HKD := hide hK
          have hwb := HBR.out.size
          have HXC := hide (fun (wq : World) (h : Below w.heap.size w wq) => nod_cells h hb x0 x1 x2 x3)
          clear hK x0 x1 x2 x3
          obtain ⟨x0, x1, x2, x3⟩ := HXC.out wr HBR.out
          go_wp2_with fail
          refine (refNode_any x K kc wr HXN.out).mono ?_
          rintro en w5 ⟨rfl, hb5⟩
          have hs5 := hb5.size
          have HBK5 := hide (HBK.out.below hb5 HBK.out.lt)
          have HOW5 := hide (HOW.out.below hb5)
          have HB5 := hide (HBR.out.trans (hb5.mono hwb))
          obtain ⟨y0, y1, y2, y3⟩ := HXC.out w5 HB5.out
          clear x0 x1 x2 x3 hb5 HBK HOW HBR
          cases hf : formedL x
          · have HF := hide (HBAD.out (by rw [HSU.out]; simp [hf]))
            go_wp2
            go_ret
            exact ⟨by rw [HF.out]; rfl, HB5.out⟩
          · have hk3 := formed_kids hf
            have HFM := hide hf
            clear hf
            by_cases hno : os.length < x.kids.length
            · have hno' : decide ((os.length : Int) < (x.kids.length : Int)) = true := decide_eq_true (by omega)
              have HF := hide (HBAD.out (by rw [HSU.out, if_neg (fun h => by have := h.2.1; omega)]))
              go_wp2
              go_ret
              exact ⟨by rw [HF.out]; rfl, HB5.out⟩
            · have hno' : decide ((os.length : Int) < (x.kids.length : Int)) = false := decide_eq_false (by omega)
              have f5 := HBK5.out.frozen k
              have g5 := HBK5.out.int (k := k) (by rw [HDL.out]; exact hlt)
              have R1 := hide (HBK5.out.setInt k 1)
              have HO6 := hide (HOW5.out.far (p := ⟨w.heap.size, k, none⟩) hgl4 (.int .i64 1))
              have HB6 := hide (HB5.out.setCell (p := ⟨w.heap.size, k, none⟩) (Nat.le_refl _) (.int .i64 1))
              have hs6 : w4.heap.size ≤ (w5.setCell ⟨w.heap.size, k, none⟩ (.int .i64 1)).heap.size := by
                rw [World.size_setCell]
                omega
              go_upto_region 15 with (fail)
              generalize w5.setCell ⟨w.heap.size, k, none⟩ (.int .i64 1) = w6 at R1 HO6 HB6 hs6 ⊢
              clear f5 g5 HBK5 HOW5 HB5 y0 y1 y2 y3
              have HDP := hide (scan_depth k os HSC.out)
              go_loopw [7] (fun j wq => ∃ t : Nat, t ≤ x.kids.length ∧ j = .int .i64 t ∧ (∀ i, i < t → nth x.kids i = ((os.getD (x.kids.length - 1 - i) (0, 0)).1 : Int)) ∧ Blk wq w.heap.size 3 (ints (ds.set k (lastD os x.kids.length t : Int))).toArray ∧
                Own wq w4.heap.size 3 1 A4 os.length c4 (ints (rootsL os)) ∧ Below w.heap.size w wq ∧ w4.heap.size ≤ wq.heap.size) (fun j _ => x.kids.length - (intOf j).toNat)
              case atStart => exact ⟨0, Nat.zero_le _, rfl, fun i h => absurd h (by omega), by rw [lastD_zero]; exact R1.out, HO6.out, HB6.out, hs6⟩
              case round =>
                obtain ⟨t, ht, rfl, hma, hkq, hoq, hbq, hsq⟩ := hrel
                have HMA := hide hma
                have HKQ := hide hkq
                have HOQ := hide hoq
                have HBQ := hide hbq
                clear hma hkq hoq hbq R1 HO6 HB6 hs6
                by_cases htl : t < x.kids.length
                · obtain ⟨m, hm'⟩ : ∃ m, m = os.length - x.kids.length + t := ⟨_, rfl⟩
                  have hmi : (os.length : Int) - (x.kids.length : Int) + (t : Int) = (m : Int) := by omega
                  obtain ⟨g, rfl, hgb, hglt, gc, -⟩ := Own.at_ HOQ.out (k := m) (by omega)
                  rw [ints_get (by rw [rootsL_len]; omega)] at gc
                  have gc2 : nth (rootsL os) m = ((os.getD (x.kids.length - 1 - t) (0, 0)).1 : Int) := by rw [hm']; exact rootsL_get (by omega) htl
                  rw [gc2] at gc
                  have hmem := getD_mem2 (os := os) (i := x.kids.length - 1 - t) (by omega)
                  have HLD := hide (lastD_next (os := os) (n := x.kids.length) (j := t) (by omega) htl)
                  have HDIF := hide (fun h : nth x.kids t ≠ ((os.getD (x.kids.length - 1 - t) (0, 0)).1 : Int) => HBAD.out (by rw [HSU.out, if_neg (fun hh => kids_differ (by omega) htl h hh.2.2)]))
                  have HMN := hide (fun (h : nth x.kids t = ((os.getD (x.kids.length - 1 - t) (0, 0)).1 : Int)) i (hi : i < t + 1) => (by
                    by_cases hi2 : i < t
                    · exact HMA.out i hi2
                    · obtain rfl : i = t := by omega
                      exact h : nth x.kids i = ((os.getD (x.kids.length - 1 - i) (0, 0)).1 : Int)))
                  have hy := HDO.out _ hmem
                  have hyd := HDP.out _ hmem
                  generalize os.getD (x.kids.length - 1 - t) (0, 0) = y at gc hmem HLD HDIF HMN hy hyd
                  obtain ⟨bk, offk, rfl, hbk, g0⟩ := HKD.out.at_ htl
                  have g0' : wr.cell? ⟨bk, offk + t, none⟩ = some (.int .i64 (nth x.kids t)) := (HBQ.out.cell (p := ⟨bk, offk + t, none⟩) hbk).trans g0
                  obtain ⟨y0, y1, y2, y3⟩ := HXC.out wr HBQ.out
                  clear g0 gc2 hm'
                  by_cases hd : nth x.kids t = (y.1 : Int)
                  · have hd' : (nth x.kids t != (y.1 : Int)) = false := bne_eq_false_iff_eq.2 hd
                    have z0 := HKQ.out.int (k := k) (by rw [List.length_set, HDL.out]; exact hlt)
                    have z1 := HKQ.out.int (k := y.1) (by rw [List.length_set, HDL.out]; omega)
                    have f0 := HKQ.out.frozen k
                    have e0 : nth (ds.set k (lastD os x.kids.length t : Int)) k = (lastD os x.kids.length t : Int) := by
                      unfold nth
                      rw [List.getD_eq_getElem?_getD, List.getElem?_set_self (by rw [HDL.out]; exact hlt)]
                      rfl
                    have e1 : nth (ds.set k (lastD os x.kids.length t : Int)) y.1 = (y.2 : Int) := by
                      rw [← hy.2]
                      unfold nth
                      rw [List.getD_eq_getElem?_getD, List.getElem?_set_ne (by omega), ← List.getD_eq_getElem?_getD]
                    rw [e0] at z0
                    rw [e1] at z1
                    have HML := hide (HMN.out hd)
                    have hy1 : y.1 < e.length := by omega
                    have hy2 : y.2 ≤ 300 := by omega
                    clear hd e0 e1 hy hyd hmem HDIF HMN
                    have hml : max (lastD os x.kids.length t : Int) ((y.2 : Int) + 1) = ((lastD os x.kids.length (t + 1) : Nat) : Int) := by rw [HLD.out]; omega
                    have R2 : Hid (Blk (wr.drew.setCell ⟨w.heap.size, k, none⟩ (.int .i64 (max (lastD os x.kids.length t : Int) ((y.2 : Int) + 1)))) w.heap.size 3 (ints (ds.set k ((lastD os x.kids.length (t + 1) : Nat) : Int))).toArray) := hide (by
                      have := HKQ.out.drew.setInt k (max (lastD os x.kids.length t : Int) ((y.2 : Int) + 1))
                      rw [List.set_set] at this
                      rw [← hml]
                      exact this)
                    have HOD : Own wr.drew w4.heap.size 3 1 (some ⟨g, 0, none⟩) os.length c4 (ints (rootsL os)) := HOQ.out
                    have HODH := hide HOD
                    clear hml HOD
                    go_upto_region 20 with (fail)
                    have HB2 := hide (HBQ.out.drew.setCell (p := ⟨w.heap.size, k, none⟩) (Nat.le_refl _) (.int .i64 (max (lastD os x.kids.length t : Int) ((y.2 : Int) + 1))))
                    have HO2 := hide (HODH.out.far (p := ⟨w.heap.size, k, none⟩) hgl4 (.int .i64 (max (lastD os x.kids.length t : Int) ((y.2 : Int) + 1))))
                    have hs2 : w4.heap.size ≤ (wr.drew.setCell ⟨w.heap.size, k, none⟩ (.int .i64 (max (lastD os x.kids.length t : Int) ((y.2 : Int) + 1)))).heap.size := by
                      rw [World.size_setCell]
                      exact hsq
                    have hwrp : IntKind.i64.wrap ((y.2 : Int) + 1) = (y.2 : Int) + 1 := by
                      simp [IntKind.wrap, IntKind.bits, IntKind.signed]
                      omega
                    go_still_tail 13, (by kernel_rfl)
                    change wpList _ _ _ _ _ wr.drew
                    clear hwrp
                    have z0' : wr.drew.cell? ⟨w.heap.size, k, none⟩ = some (.int .i64 (lastD os x.kids.length t : Int)) := z0
                    have f0' : wr.drew.frozen? ⟨w.heap.size, k, none⟩ = false := f0
                    generalize wr.drew = wd at R2 HB2 HO2 hs2 z0' f0' ⊢
                    clear z0 z1 f0
                    go_upto_region 16 with (fail)
                    generalize wd.setCell ⟨w.heap.size, k, none⟩ (.int .i64 (max (lastD os x.kids.length t : Int) ((y.2 : Int) + 1))) = w7 at R2 HB2 HO2 hs2 ⊢
                    go_wp2
                    go_roundw
                    case rel => exact ⟨t + 1, htl, by go_num, HML.out, R2.out, HO2.out, HB2.out, hs2⟩
                    case measure => simp [intOf]; omega
                  · have hd' : (nth x.kids t != (y.1 : Int)) = true := bne_iff_ne.2 hd
                    have HF := hide (HDIF.out hd)
                    clear hd HDIF HMN
                    go_wp2
                    go_ret
                    exact ⟨by rw [HF.out]; rfl, HBQ.out⟩
                · obtain rfl : t = x.kids.length := by omega
                  have hcap := HOQ.out.cap
                  have hmi : (os.length : Int) - (x.kids.length : Int) = ((os.length - x.kids.length : Nat) : Int) := by omega
                  have HSC2 : Hid (scanN e (k + 1) = some ((k, lastD os x.kids.length x.kids.length) :: os.drop x.kids.length)) := by
                    show _ = _
                    rw [HSU.out, if_pos ⟨HFM.out, by omega, kids_match (by omega) (fun j hj => HMA.out j hj)⟩, lastD_all]
                  have HDN := hide (depths_next (n := x.kids.length) (d := lastD os x.kids.length x.kids.length) HDO.out (by rw [HDL.out]; exact hlt))
                  have hdl2 : ((k, lastD os x.kids.length x.kids.length) :: os.drop x.kids.length).length = os.length - x.kids.length + 1 := by rw [List.length_cons, List.length_drop]
                  have HRL : Hid (rootsL ((k, lastD os x.kids.length x.kids.length) :: os.drop x.kids.length) = (rootsL os).take (os.length - x.kids.length) ++ [(k : Int)]) := by
                    show _ = _
                    rw [rootsL_cons, rootsL_drop]
                  obtain ⟨i0, hi0, hz0, hz1, hz2⟩ := info_parts int_info
                  have HB7 := hide (HBQ.out.alloc HBQ.out.size (Obj.cells #[.int .i64 (k : Int)] 3))
                  have HK7 := hide (HKQ.out.alloc (Obj.cells #[.int .i64 (k : Int)] 3))
                  have fin : ∀ (v' : Value) (w7 : World), w7.ownsRow (wr.alloc (Obj.cells #[.int .i64 (k : Int)] 3)).heap.size 3 1 v' (os.length - x.kids.length + 1) (ints ((rootsL os).take (os.length - x.kids.length)) ++ ints [(k : Int)]) → (wr.alloc (Obj.cells #[.int .i64 (k : Int)] 3)).grownBy w7 none →
                      ∃ A7 c7, v' = .slice A7 (os.length - x.kids.length + 1) c7 ∧ Own w7 w4.heap.size 3 1 A7 (os.length - x.kids.length + 1) c7 (ints (rootsL ((k, lastD os x.kids.length x.kids.length) :: os.drop x.kids.length))) ∧
                        Blk w7 w.heap.size 3 (ints (ds.set k (lastD os x.kids.length x.kids.length : Int))).toArray ∧ Below w.heap.size w w7 ∧ w4.heap.size ≤ w7.heap.size := fun v' w7 h1 h2 => by
                    have hv : ∃ A2 c2, v' = .slice A2 (os.length - x.kids.length + 1) c2 := by
                      rcases h1.2 with ⟨_, h0⟩ | ⟨g, cap, cur, rfl, _⟩
                      · omega
                      · exact ⟨_, cap, rfl⟩
                    obtain ⟨A2, c2, rfl⟩ := hv
                    refine ⟨A2, c2, rfl, ?_, HK7.out.grown h2 (fun h => by cases h), HB7.out.grown h2 HB7.out.size (fun k h => by cases h), ?_⟩
                    · rw [HRL.out, ints_append]
                      exact Own.lower h1 (by rw [World.size_alloc]; omega)
                    · have := h2.size
                      rw [World.size_alloc] at this
                      omega
                  have HFIN := hide fin
                  clear fin
                  have HX0 : Hid (∀ j u, (ints [(k : Int)])[j]? = some u → (wr.alloc (Obj.cells #[.int .i64 (k : Int)] 3)).cell? ((⟨wr.heap.size, 0, none⟩ : Addr).add j) = some u) := hide (fun j u hu => by
                    have hr := reads_new wr #[.int .i64 (k : Int)] 3 1 1 rfl
                    obtain ⟨ad, e1, _, hc⟩ := hr.2 (by omega)
                    injection e1 with e1
                    subst e1
                    exact hc j u hu)
                  rcases HOQ.out.2 with ⟨hv, hl0⟩ | ⟨g, cap, cur, hv, hgb, hh, r⟩
                  · injection hv with hA _ hc
                    subst hA
                    subst hc
                    have hz : x.kids.length = 0 := by omega
                    have he1 : os.length - x.kids.length = 0 := by omega
                    rw [he1] at HFIN hdl2 hmi
                    rw [List.take_zero] at HFIN
                    have HHZ := hide hz
                    have HL0 := hide hl0
                    clear he1
                    go_upto_region 7 with ((
                      refine wpList_append_grows _ rfl (.tmp 91) (.tmp 93) 31 rfl 3 i0 (.int .i64 0) 1 8 Tryz.underlying31 hi0 hz0 hz1 hz2 rfl (by omega) none 0 0 (ints []) rfl (fun _ => ⟨rfl, rfl⟩) rfl (fun b h => by cases h) ⟨wr.heap.size, 0, none⟩ 1 1 (ints [(k : Int)]) rfl rfl HX0.out (ints_oneCell _) (by omega) (by unfold maxLen; omega) (by omega) ?_
                      intro v' w7 h1 h2
                      obtain ⟨A7, c7, rfl, ho7, hk7, hb7, hs7⟩ := HFIN.out v' w7 h1 h2
                      have HO7 := hide ho7
                      have HK7' := hide hk7
                      have HB7' := hide hb7
                      clear h1 h2 ho7 hk7 hb7))
                    go_wp2
                    go_roundw
                    case rel => exact ⟨k + 1, _, A7, c7, _, hlt, by go_num, by rw [hdl2], HSC2.out, by rw [hdl2]; exact HO7.out, by rw [List.length_set]; exact HDL.out, HK7'.out, HDN.out, by rw [hdl2]; omega, HB7'.out, hs7⟩
                    case measure => simp [intOf]; omega
                  · injection hv with hA _ hc
                    subst hA
                    subst hc
                    clear r hh
                    have HO0 : Hid (∀ b, some (⟨g, 0, none⟩ : Addr) = some b → ∀ j u, (ints ((rootsL os).take (os.length - x.kids.length)))[j]? = some u → (wr.alloc (Obj.cells #[.int .i64 (k : Int)] 3)).cell? (b.add j) = some u) := hide (fun b hb j u hu => by
                      injection hb with hb
                      subst hb
                      have hj : j < os.length - x.kids.length := by
                        have := (List.getElem?_eq_some_iff.1 hu).1
                        rw [ints_length, List.length_take] at this
                        omega
                      have h2 : (ints (rootsL os))[j]? = some u := by
                        rw [← hu]
                        unfold ints
                        rw [List.getElem?_map, List.getElem?_map, List.getElem?_take_of_lt hj]
                      have h3 := World.ownsRow.cells (World.ownsRow.alloc HOQ.out (Obj.cells #[.int .i64 (k : Int)] 3)) (g := g) rfl
                      exact h3 j u h2)
                    go_upto_region 7 with ((
                      refine wpList_append_grows _ rfl (.tmp 91) (.tmp 93) 31 rfl 3 i0 (.int .i64 0) 1 8 Tryz.underlying31 hi0 hz0 hz1 hz2 rfl (by omega) (some ⟨g, 0, none⟩) (os.length - x.kids.length) (os.length - x.kids.length) (ints ((rootsL os).take (os.length - x.kids.length))) rfl (fun h => by cases h) (by rw [ints_length, List.length_take, rootsL_len]; omega) HO0.out ⟨wr.heap.size, 0, none⟩ 1 1 (ints [(k : Int)]) rfl rfl HX0.out (ints_oneCell _) (by omega) (by unfold maxLen; omega) (by omega) ?_
                      intro v' w7 h1 h2
                      obtain ⟨A7, c7, rfl, ho7, hk7, hb7, hs7⟩ := HFIN.out v' w7 h1 h2
                      have HO7 := hide ho7
                      have HK7' := hide hk7
                      have HB7' := hide hb7
                      clear h1 h2 ho7 hk7 hb7))
                    go_wp2
                    go_roundw
                    case rel => exact ⟨k + 1, _, A7, c7, _, hlt, by go_num, by rw [hdl2], HSC2.out, by rw [hdl2]; exact HO7.out, by rw [List.length_set]; exact HDL.out, HK7'.out, HDN.out, by rw [hdl2]; omega, HB7'.out, hs7⟩
                    case measure => simp [intOf]; omega
        · obtain rfl : k = e.length := by omega
          have HV := hide (validR_some (by omega) (by omega) HSC.out)
          by_cases hos : os.length = 1
          · obtain ⟨x, rfl⟩ : ∃ x, os = [x] := by
              match os, hos with
              | [x], _ => exact ⟨x, rfl⟩
            obtain ⟨m, hm'⟩ : ∃ m, e.length = m + 1 := ⟨e.length - 1, by omega⟩
            have hsc := HSC.out
            rw [hm'] at hsc
            have htop := (scan_top e m x [] hsc).1
            have z0 := HBK.out.int (k := m) (by rw [HDL.out]; omega)
            have e0 := (HDO.out x List.mem_cons_self).2
            rw [htop] at e0
            rw [e0] at z0
            have hmi : (e.length : Int) - 1 = (m : Int) := by omega
            have hml : m < e.length := by omega
            have HF : Hid (validL e = decide ((x.2 : Int) ≤ 40)) := by
              show _ = _
              rw [HV.out, decide_eq_true hos, Bool.true_and]
              show decide (x.2 ≤ 40) = _
              exact decide_eq_decide.2 (by omega)
            clear hsc htop e0 hm' hos
            cases hd : decide ((x.2 : Int) ≤ 40)
            all_goals
              rw [hd] at HF
              go_wp2
              go_ret
              exact ⟨by rw [HF.out]; rfl, HBR.out⟩
          · have hos' : ((os.length : Int) == 1) = false := beq_eq_false_iff_ne.2 (by omega)
            have HF : Hid (validL e = false) := by
              show _ = _
              rw [HV.out, decide_eq_false hos, Bool.false_and]
            clear hos
            go_wp2
            go_ret
            exact ⟨by rw [HF.out]; rfl, HBR.out⟩
end Go.Proofs.YtkomgidcgepknaaGreatDoor
