/-
  The reference of chapter 22: ranges that grow, products, quotients.
-/
import Derived.Test.YtnlcfbaaomdjdaaGreatDoorBndR
import Derived.Test.YtnlcfbaaomdjdaaGreatDoorBndW
import Derived.Test.YtnlcfbaaomdjdaaGreatDoorExpG
import Derived.Test.YtnlcfbaaomdjdaaGreatDoorBndX
set_option linter.unusedVariables false
set_option linter.unusedSimpArgs false
namespace Go.Proofs.YtnlcfbaaomdjdaaGreatDoor
open Go.RowKit Go.Deep

/-- A range of integers that grows. -/
structure Grow where
  lo : Int
  hi : Int
  some : Bool
def Grow.none_ : Grow := ⟨0, 0, false⟩
def Grow.add (s : Grow) (n : Int) : Grow := ⟨if s.some = false ∨ n < s.lo then n else s.lo, if s.some = false ∨ s.hi < n then n else s.hi, true⟩
def Grow.cells (s : Grow) : Array Value := #[.int .i64 s.lo, .int .i64 s.hi, .bool s.some]
def growL (l : List Int) : Grow := l.foldl Grow.add Grow.none_
theorem grow_fold : ∀ (l : List Int) (a b : Int), a ≤ b → l.foldl Grow.add ⟨a, b, true⟩ = ⟨(l.foldl (fun h n => (min h.1 n, max h.2 n)) (a, b)).1, (l.foldl (fun h n => (min h.1 n, max h.2 n)) (a, b)).2, true⟩
  | [], a, b, _ => rfl
  | x :: l, a, b, h => by
    show l.foldl Grow.add (Grow.add ⟨a, b, true⟩ x) = _
    have e : Grow.add ⟨a, b, true⟩ x = ⟨min a x, max b x, true⟩ := by
      unfold Grow.add
      dsimp only
      congr 1
      · by_cases h1 : x < a
        · rw [if_pos (.inr h1)]; omega
        · rw [if_neg (by simp [h1])]; omega
      · by_cases h1 : b < x
        · rw [if_pos (.inr h1)]; omega
        · rw [if_neg (by simp [h1])]; omega
    rw [e, grow_fold l _ _ (by omega)]
    rfl
theorem grow_hull {l : List Int} (h : l ≠ []) : growL l = ⟨(hullL l).1, (hullL l).2, true⟩ := by
  match l, h with
  | x :: l, _ =>
    show l.foldl Grow.add (Grow.add Grow.none_ x) = _
    have e : Grow.add Grow.none_ x = ⟨x, x, true⟩ := by
      unfold Grow.add Grow.none_
      simp
    rw [e, grow_fold l x x (Int.le_refl _)]
    rfl

theorem ite_eq_or {b : Bool} {p : Prop} [Decidable p] (x y : Int) : (if b = false ∨ p then x else y) = (if (!b || decide p) = true then x else y) := by
  cases b <;> simp

set_option maxHeartbeats 2000000 in
set_option maxRecDepth 20000 in
theorem refAdd_any (s : Grow) (n : Int) (g : Nat) (w : World) (h : Blk w g 52 s.cells) :
    Calls Tryz.prog 37 #[.pointer (some ⟨g, 0, none⟩), .int .i64 n] w fun e w' => e = .returned (.tuple #[]) ∧ Blk w' g 52 (s.add n).cells ∧ KeptBut g w w' := by
  obtain ⟨lo, hi, b⟩ := s
  unfold Grow.cells at h
  dsimp only at h
  have c0 : w.cell? ⟨g, 0, none⟩ = some (.int .i64 lo) := h.cell 0
  have c1 : w.cell? ⟨g, 1, none⟩ = some (.int .i64 hi) := h.cell 1
  have c2 : w.cell? ⟨g, 2, none⟩ = some (.bool b) := h.cell 2
  have f0 := h.frozen 0
  have f1 := h.frozen 1
  have f2 := h.frozen 2
  have HB := hide h
  have HS : Hid (Grow.add ⟨lo, hi, b⟩ n = ⟨if (!b || decide (n < lo)) = true then n else lo, if (!b || decide (hi < n)) = true then n else hi, true⟩) := by
    show _ = _
    unfold Grow.add
    dsimp only
    rw [ite_eq_or, ite_eq_or]
  clear h
  cases b
  · have R := hide (((HB.out.set_ 0 (.int .i64 n)).set_ 1 (.int .i64 n)).set_ 2 (.bool true))
    have K := hide ((((KeptBut.refl g w).set 0 (.int .i64 n)).set 1 (.int .i64 n)).set 2 (.bool true))
    go_enter Tryz.func37, Tryz.ntmps37
    go_wp2
    go_end0
    exact ⟨rfl, by rw [HS.out]; exact R.out, K.out⟩
  · cases d1 : decide (n < lo)
    · cases d2 : decide (hi < n)
      · rw [d1, d2] at HS
        have R := hide (HB.out.set_ 2 (.bool true))
        have K := hide ((KeptBut.refl g w).set 2 (.bool true))
        go_enter Tryz.func37, Tryz.ntmps37
        go_wp2
        go_end0
        exact ⟨rfl, by rw [HS.out]; exact R.out, K.out⟩
      · rw [d1, d2] at HS
        have R := hide ((HB.out.set_ 1 (.int .i64 n)).set_ 2 (.bool true))
        have K := hide (((KeptBut.refl g w).set 1 (.int .i64 n)).set 2 (.bool true))
        go_enter Tryz.func37, Tryz.ntmps37
        go_wp2
        go_end0
        exact ⟨rfl, by rw [HS.out]; exact R.out, K.out⟩
    · cases d2 : decide (hi < n)
      · rw [d1, d2] at HS
        have R := hide ((HB.out.set_ 0 (.int .i64 n)).set_ 2 (.bool true))
        have K := hide (((KeptBut.refl g w).set 0 (.int .i64 n)).set 2 (.bool true))
        go_enter Tryz.func37, Tryz.ntmps37
        go_wp2
        go_end0
        exact ⟨rfl, by rw [HS.out]; exact R.out, K.out⟩
      · rw [d1, d2] at HS
        have R := hide (((HB.out.set_ 0 (.int .i64 n)).set_ 1 (.int .i64 n)).set_ 2 (.bool true))
        have K := hide ((((KeptBut.refl g w).set 0 (.int .i64 n)).set 1 (.int .i64 n)).set 2 (.bool true))
        go_enter Tryz.func37, Tryz.ntmps37
        go_wp2
        go_end0
        exact ⟨rfl, by rw [HS.out]; exact R.out, K.out⟩

set_option maxHeartbeats 2000000 in
theorem refDiv_any (a b : Int) (w : World) (ha : -1000000000000 ≤ a ∧ a ≤ 1000000000000) : Calls Tryz.prog 53 #[.int .i64 a, .int .i64 b] w fun e w' => e = .returned (.int .i64 (divR a b)) ∧ w = w' := by
  have hd := tdiv_bd a b ha
  obtain ⟨ha1, ha2⟩ := ha
  by_cases hb : b = 0
  · subst hb
    go_enter Tryz.func53, Tryz.ntmps53
    go_wp2
    go_ret
    exact ⟨rfl, rfl⟩
  · have hb' : (b == 0) = false := beq_eq_false_iff_ne.2 hb
    have HO : Hid (divR a b = if a.tmod b ≠ 0 ∧ (decide (a < 0) ≠ decide (b < 0)) then a.tdiv b - 1 else a.tdiv b) := by
      show _ = _
      unfold divR
      rw [if_neg hb]
    by_cases hm : a.tmod b = 0
    · have hm' : (a.tmod b != 0) = false := bne_eq_false_iff_eq.2 hm
      rw [if_neg (fun h => h.1 hm)] at HO
      clear hm
      go_enter Tryz.func53, Tryz.ntmps53
      go_wp2
      go_ret
      exact ⟨by rw [HO.out]; rfl, rfl⟩
    · have hm' : (a.tmod b != 0) = true := bne_iff_ne.2 hm
      by_cases hs : decide (a < 0) = decide (b < 0)
      · rw [if_neg (fun h => h.2 hs)] at HO
        have hs' : (decide (a < 0) == decide (b < 0)) = true := beq_iff_eq.2 hs
        clear hm hs
        go_enter Tryz.func53, Tryz.ntmps53
        go_wp2
        go_ret
        exact ⟨by rw [HO.out]; rfl, rfl⟩
      · rw [if_pos ⟨hm, hs⟩] at HO
        have hs' : (decide (a < 0) == decide (b < 0)) = false := beq_eq_false_iff_ne.2 hs
        clear hm hs
        go_enter Tryz.func53, Tryz.ntmps53
        go_wp2
        go_ret
        exact ⟨by rw [HO.out]; rfl, rfl⟩
theorem prod_fitR {a b : Int} (h : ¬ (0 < max a (-a) ∧ 1000000000000 / (max a (-a)) < max b (-b))) : -1000000000000 ≤ a * b ∧ a * b ≤ 1000000000000 := by
  by_cases h0 : 0 < max a (-a)
  · have h1 : max b (-b) ≤ 1000000000000 / (max a (-a)) := by
      have : ¬ (1000000000000 / (max a (-a)) < max b (-b)) := fun x => h ⟨h0, x⟩
      omega
    have h2 : max b (-b) * max a (-a) ≤ 1000000000000 := (Int.le_ediv_iff_mul_le h0).1 h1
    rcases Int.le_total 0 a with ha | ha <;> rcases Int.le_total 0 b with hb | hb
    · rw [Int.max_eq_left (by omega), Int.max_eq_left (by omega)] at h2
      have := Int.mul_nonneg ha hb
      rw [Int.mul_comm] at h2
      omega
    · rw [Int.max_eq_right (by omega), Int.max_eq_left (by omega), Int.neg_mul, Int.mul_comm] at h2
      have := Int.mul_nonneg ha (show 0 ≤ -b by omega)
      rw [Int.mul_neg] at this
      omega
    · rw [Int.max_eq_left (by omega), Int.max_eq_right (by omega), Int.mul_neg, Int.mul_comm] at h2
      have := Int.mul_nonneg (show 0 ≤ -a by omega) hb
      rw [Int.neg_mul] at this
      omega
    · rw [Int.max_eq_right (by omega), Int.max_eq_right (by omega), Int.neg_mul_neg, Int.mul_comm] at h2
      have := Int.mul_nonneg (show 0 ≤ -a by omega) (show 0 ≤ -b by omega)
      rw [Int.neg_mul_neg] at this
      omega
  · have : a = 0 := by omega
    subst this
    rw [Int.zero_mul]
    decide

set_option maxHeartbeats 2000000 in
theorem refMul_any (a b : Int) (w : World) (ha : -1000000000000 ≤ a ∧ a ≤ 1000000000000) (hb : -1000000000000 ≤ b ∧ b ≤ 1000000000000) : Calls Tryz.prog 38 #[.int .i64 a, .int .i64 b] w fun e w' => e = .returned (.int .i64 (mulR a b)) ∧ w = w' := by
  have HO : Hid (mulR a b = if absL a = 0 ∨ absL b ≤ (1000000000000 : Int).tdiv (absL a) then a * b else if decide (a < 0) ≠ decide (b < 0) then -1000000000001 else 1000000000001) := rfl
  have hA : absL a = max a (-a) := by unfold absL; omega
  have hB : absL b = max b (-b) := by unfold absL; omega
  have hA2 : absL a ≤ 1000000000000 ∧ 0 ≤ absL a := by unfold absL; omega
  have hB2 : absL b ≤ 1000000000000 ∧ 0 ≤ absL b := by unfold absL; omega
  have hA' : max a (-a) = absL a := hA.symm
  have hB' : max b (-b) = absL b := hB.symm
  have hfit : (absL a = 0 ∨ absL b ≤ (1000000000000 : Int).tdiv (absL a)) → -1000000000000 ≤ a * b ∧ a * b ≤ 1000000000000 := by
    intro h
    rcases h with h | h
    · have : a = 0 := by unfold absL at h; omega
      subst this
      simp
    · by_cases h0 : absL a = 0
      · have : a = 0 := by unfold absL at h0; omega
        subst this
        simp
      · refine prod_fitR (fun hh => ?_)
        rw [← hA, ← hB] at hh
        rw [Int.tdiv_eq_ediv_of_nonneg (by omega)] at h
        omega
  have htd : (1000000000000 : Int).tdiv (absL a) = 1000000000000 / absL a := Int.tdiv_eq_ediv_of_nonneg (by omega)
  rw [htd] at HO hfit
  have HFIT := hide hfit
  clear hfit hA hB htd
  by_cases h0 : absL a = 0
  · have h0' : (absL a == 0) = true := beq_iff_eq.2 h0
    rw [if_pos (.inl h0)] at HO
    have hf := HFIT.out (.inl h0)
    have hw : wrap64 (a * b) = a * b := W_in (by omega)
    clear h0
    go_enter Tryz.func38, Tryz.ntmps38
    go_wp2
    go_ret
    exact ⟨by rw [HO.out]; rfl, rfl⟩
  · have h0' : (absL a == 0) = false := beq_eq_false_iff_ne.2 h0
    by_cases h1 : absL b ≤ 1000000000000 / absL a
    · have h1' : decide (absL b ≤ 1000000000000 / absL a) = true := decide_eq_true h1
      rw [if_pos (.inr h1)] at HO
      have hf := HFIT.out (.inr h1)
      have hw : wrap64 (a * b) = a * b := W_in (by omega)
      clear h1
      go_enter Tryz.func38, Tryz.ntmps38
      go_wp2
      go_ret
      exact ⟨by rw [HO.out]; rfl, rfl⟩
    · have h1' : decide (absL b ≤ 1000000000000 / absL a) = false := decide_eq_false h1
      rw [if_neg (fun h => h.elim h0 h1)] at HO
      clear h1
      by_cases hs : decide (a < 0) = decide (b < 0)
      · rw [if_neg (fun h => h hs)] at HO
        have hs' : (decide (a < 0) == decide (b < 0)) = true := beq_iff_eq.2 hs
        clear hs
        go_enter Tryz.func38, Tryz.ntmps38
        go_wp2
        go_ret
        exact ⟨by rw [HO.out]; rfl, rfl⟩
      · rw [if_pos hs] at HO
        have hs' : (decide (a < 0) == decide (b < 0)) = false := beq_eq_false_iff_ne.2 hs
        clear hs
        go_enter Tryz.func38, Tryz.ntmps38
        go_wp2
        go_ret
        exact ⟨by rw [HO.out]; rfl, rfl⟩
end Go.Proofs.YtnlcfbaaomdjdaaGreatDoor

/-
  The reference of chapter 22: the bounds of a node.
-/
set_option linter.unusedVariables false
set_option linter.unusedSimpArgs false
namespace Go.Proofs.YtnlcfbaaomdjdaaGreatDoor
open Go.RowKit Go.Deep

set_option maxHeartbeats 2000000 in
set_option maxRecDepth 20000 in
theorem refDivide_any (s : Grow) (x1 x2 y : Int) (g : Nat) (w : World) (h : Blk w g 52 s.cells) (h1 : inB x1) (h2 : inB x2) :
    Calls Tryz.prog 39 #[.pointer (some ⟨g, 0, none⟩), .agg #[.int .i64 x1, .int .i64 x2], .int .i64 y] w fun e w' => e = .returned (.tuple #[]) ∧ Blk w' g 52 ((s.add (divR x1 y)).add (divR x2 y)).cells ∧ KeptBut g w w' := by
  have hg := h.lt
  have hB1 : Blk (w.alloc (Obj.cells #[.int .i64 x1, .int .i64 x2] 43)) w.heap.size 43 #[.int .i64 x1, .int .i64 x2] := Blk.new _ _ _
  have hk1 : KeptBut g w (w.alloc (Obj.cells #[.int .i64 x1, .int .i64 x2] 43)) := KeptBut.of_below ((Below.refl _ _).alloc (Nat.le_refl _) _)
  have hG := hide (h.alloc (Obj.cells #[.int .i64 x1, .int .i64 x2] 43))
  clear h
  go_enter Tryz.func39, Tryz.ntmps39
  go_upto_region 1 with (fail)
  generalize w.alloc (Obj.cells #[.int .i64 x1, .int .i64 x2] 43) = w1 at hB1 hk1 hG ⊢
  have c0 : w1.cell? ⟨w.heap.size, 0, none⟩ = some (.int .i64 x1) := hB1.cell 0
  have HB1 := hide hB1
  have HK1 := hide hk1
  clear hB1 hk1
  go_wp2_with fail
  refine (refDiv_any x1 y w1 h1).mono ?_
  rintro en w2 ⟨rfl, rfl⟩
  go_wp2_with fail
  refine (refAdd_any s (divR x1 y) g w1 hG.out).mono ?_
  rintro en w2 ⟨rfl, hb2, hk2⟩
  have HB2 := hide (hk2.blk HB1.out (by omega))
  have HG2 := hide hb2
  have HK2 := hide (HK1.out.trans hk2)
  have c1 : w2.cell? ⟨w.heap.size, 1, none⟩ = some (.int .i64 x2) := HB2.out.cell 1
  clear hb2 hk2 c0
  go_wp2_with fail
  refine (refDiv_any x2 y w2 h2).mono ?_
  rintro en w3 ⟨rfl, rfl⟩
  go_wp2_with fail
  refine (refAdd_any (s.add (divR x1 y)) (divR x2 y) g w2 HG2.out).mono ?_
  rintro en w3 ⟨rfl, hb3, hk3⟩
  have HG3 := hide hb3
  have HK3 := hide (HK2.out.trans hk3)
  clear hb3 hk3
  go_wp2
  go_end0
  exact ⟨rfl, HG3.out, HK3.out⟩

/-- What a range that grew reads as. -/
def growV (s : Grow) : Value := .agg s.cells

/-- The state of the reference's node: the range so far, and the result's cells. -/
structure NodeSt (w : World) (s : Grow) (w' : World) : Prop where
  own : Blk w' (w.heap.size + 1) 52 s.cells
  res : Blk w' w.heap.size 52 Grow.none_.cells
  bel : Below w.heap.size w w'
theorem NodeSt.step {w w1 w2 : World} {s s' : Grow} (h : NodeSt w s w1) (hb : Blk w2 (w.heap.size + 1) 52 s'.cells) (hk : KeptBut (w.heap.size + 1) w1 w2) : NodeSt w s' w2 :=
  ⟨hb, hk.blk h.res (by omega), h.bel.trans (hk.below (B := w.heap.size) (by omega) h.bel.size)⟩
theorem NodeSt.drewN {w w1 : World} {s : Grow} (h : NodeSt w s w1) (n : Nat) : NodeSt w s (w1.drewN n) := ⟨h.own, h.res, below_drewN h.bel n⟩
theorem NodeSt.drew {w w1 : World} {s : Grow} (h : NodeSt w s w1) : NodeSt w s w1.drew := ⟨h.own, h.res, h.bel.drew⟩
theorem NodeSt.more {w w1 w2 : World} {s : Grow} (h : NodeSt w s w1) (hb : Below w1.heap.size w1 w2) : NodeSt w s w2 := ⟨h.own.below hb h.own.lt, h.res.below hb h.res.lt, h.bel.trans (hb.mono h.bel.size)⟩
theorem NodeSt.start (w : World) : NodeSt w Grow.none_ ((w.alloc (Obj.cells #[.int .i64 0, .int .i64 0, .bool false] 52)).alloc (Obj.cells #[.int .i64 0, .int .i64 0, .bool false] 52)) := by
  refine ⟨?_, ?_, ?_⟩
  · have := Blk.new (w.alloc (Obj.cells #[.int .i64 0, .int .i64 0, .bool false] 52)) 52 #[.int .i64 0, .int .i64 0, .bool false]
    rw [World.size_alloc] at this
    exact this
  · exact (Blk.new w 52 #[.int .i64 0, .int .i64 0, .bool false]).alloc _
  · exact ((Below.refl _ _).alloc (Nat.le_refl _) _).alloc (by rw [World.size_alloc]; omega) _
theorem NodeSt.put {w w1 : World} {a b : Int} {c : Bool} (h : NodeSt w ⟨a, b, c⟩ w1) :
    Blk (((w1.setCell ⟨w.heap.size, 0, none⟩ (.int .i64 a)).setCell ⟨w.heap.size, 1, none⟩ (.int .i64 b)).setCell ⟨w.heap.size, 2, none⟩ (.bool c)) w.heap.size 52 #[.int .i64 a, .int .i64 b, .bool c] ∧
    Below w.heap.size w (((w1.setCell ⟨w.heap.size, 0, none⟩ (.int .i64 a)).setCell ⟨w.heap.size, 1, none⟩ (.int .i64 b)).setCell ⟨w.heap.size, 2, none⟩ (.bool c)) :=
  ⟨((h.res.set_ 0 (.int .i64 a)).set_ 1 (.int .i64 b)).set_ 2 (.bool c), ((h.bel.setCell (p := ⟨w.heap.size, 0, none⟩) (Nat.le_refl _) _).setCell (p := ⟨w.heap.size, 1, none⟩) (Nat.le_refl _) _).setCell (p := ⟨w.heap.size, 2, none⟩) (Nat.le_refl _) _⟩
theorem refMul_still (a b : Int) (w : World) (ha : -1000000000000 ≤ a ∧ a ≤ 1000000000000) (hb : -1000000000000 ≤ b ∧ b ≤ 1000000000000) :
    Calls Tryz.prog 38 #[.int .i64 a, .int .i64 b] w fun e w' => e = .returned (.int .i64 (mulR a b)) ∧ w' = w := (refMul_any a b w ha hb).mono fun _ _ h => ⟨h.1, h.2.symm⟩
end Go.Proofs.YtnlcfbaaomdjdaaGreatDoor
