/-
  bound's operators on the bounds of operands: div.
-/
import Derived.Test.YtmelebfpkjnfdaaGreatDoorBndX
import Derived.Test.YtmelebfpkjnfdaaGreatDoorExpL
set_option linter.unusedVariables false
set_option linter.unusedSimpArgs false
namespace Go.Proofs.YtmelebfpkjnfdaaGreatDoor
open Go.RowKit Go.Deep Go.Maps

/-- The quotients of both ends by the first divisors. -/
def quos (x : Int × Int) (D : List Int) : List Int := D.flatMap fun b => [overL x.1 b, overL x.2 b]
theorem quos_len (x : Int × Int) : ∀ D : List Int, (quos x D).length = 2 * D.length
  | [] => rfl
  | b :: D => by
    have := quos_len x D
    unfold quos at this ⊢
    rw [List.flatMap_cons, List.length_append, this]
    simp
    omega
theorem quos_snoc (x : Int × Int) (D : List Int) (b : Int) : quos x (D ++ [b]) = quos x D ++ [overL x.1 b, overL x.2 b] := by simp [quos]
theorem drop_one {w : World} {base : Nat} {A : Option Addr} {n c : Nat} {xs : List Int} (h : Own w base 3 1 A n c (ints xs)) : ∀ u ∈ ints xs, u.oneCell' = true := ints_oneCell xs

set_option maxHeartbeats 4000000 in
set_option maxRecDepth 20000 in
theorem div_any (A : Option Addr) (n c : Nat) (x y : Int × Int) (w : World) (h : RSp w w.heap.size A n [x, y]) (hx : inS x) :
    Calls Tryz.prog 47 #[.slice A n c] w fun e w' => e = .returned (spanV (nodeB 6 x y (0, 0))) ∧ Below w.heap.size w w' := by
  obtain rfl : 2 = n := h.len
  obtain ⟨b, off, rfl, hb, a0, a1, a2, _, a3⟩ := h.two
  obtain ⟨x1, x2⟩ := x
  obtain ⟨y1, y2⟩ := y
  obtain ⟨hx1, hx2⟩ := hx
  dsimp only at a0 a1 a2 a3 hx1 hx2 ⊢
  obtain ⟨res, hres⟩ : ∃ res, nodeB 6 (x1, x2) (y1, y2) (0, 0) = res := ⟨_, rfl⟩
  rw [hres]
  have HR : Hid (hullL (quos (x1, x2) (divBy (y1, y2))) = res) := hres
  clear hres
  have hb0 : Below w.heap.size w (w.alloc (Obj.cells #[.int .i64 0, .int .i64 0] 88)) := (Below.refl _ _).alloc (Nat.le_refl _) _
  have n0 := Blk.new w 88 #[.int .i64 0, .int .i64 0]
  have HX1 := hide hx1
  have HX2 := hide hx2
  clear hx1 hx2
  go_enter Tryz.func47, Tryz.ntmps47
  go_upto_region 1 with (fail)
  generalize w.alloc (Obj.cells #[.int .i64 0, .int .i64 0] 88) = w0 at hb0 n0 ⊢
  have e2 : w0.cell? ⟨b, off + 2, none⟩ = some (.int .i64 y1) := (hb0.cell (p := ⟨b, off + 2, none⟩) hb).trans a2
  have e3 : w0.cell? ⟨b, off + 3, none⟩ = some (.int .i64 y2) := (hb0.cell (p := ⟨b, off + 3, none⟩) hb).trans a3
  go_still_tail 8, (by kernel_rfl)
  change wpList _ _ _ _ _ w0.drew
  clear e2 e3
  have hb1 : Below w.heap.size w w0.drew := hb0.drew
  have N1 : Hid (Blk w0.drew w.heap.size 88 #[.int .i64 0, .int .i64 0]) := hide n0.drew
  have hg1 : w.heap.size < w0.drew.heap.size := n0.lt
  clear n0 hb0
  generalize w0.drew = w1 at hb1 N1 hg1 ⊢
  have hbl : b < w1.heap.size := Nat.lt_trans hb hg1
  have OWN : Hid (Own (w1.alloc (Obj.cells #[.int .i64 y1, .int .i64 y2] 3)) w.heap.size 3 1 (some ⟨w1.heap.size, 0, none⟩) 2 2 (ints [y1, y2])) := hide (Own.of_lit w1 #[.int .i64 y1, .int .i64 y2] 2 hb1.size (by unfold maxLen; omega) rfl)
  have hb2 : Below w.heap.size w (w1.alloc (Obj.cells #[.int .i64 y1, .int .i64 y2] 3)) := hb1.alloc hb1.size _
  have N2 : Hid (Blk (w1.alloc (Obj.cells #[.int .i64 y1, .int .i64 y2] 3)) w.heap.size 88 #[.int .i64 0, .int .i64 0]) := hide (N1.out.alloc _)
  have hg2 : w.heap.size < (w1.alloc (Obj.cells #[.int .i64 y1, .int .i64 y2] 3)).heap.size := by simp; omega
  go_upto_region 2 with (fail)
  generalize w1.alloc (Obj.cells #[.int .i64 y1, .int .i64 y2] 3) = w2 at OWN hb2 N2 hg2 ⊢
  generalize w1.heap.size = g1 at OWN ⊢
  have e2 : w2.cell? ⟨b, off + 2, none⟩ = some (.int .i64 y1) := (hb2.cell (p := ⟨b, off + 2, none⟩) hb).trans a2
  have e3 : w2.cell? ⟨b, off + 3, none⟩ = some (.int .i64 y2) := (hb2.cell (p := ⟨b, off + 3, none⟩) hb).trans a3
  clear hb1 N1 hg1 hbl
  by_cases c1 : y1 ≤ 0
  · have c1' : decide (y1 ≤ 0) = true := decide_eq_true c1
    by_cases c2 : 0 ≤ y2
    · have c2' : decide (0 ≤ y2) = true := decide_eq_true c2
      have HDD : Hid (divBy (y1, y2) = [y1, y2, 0, max (-1) y1, min 1 y2]) := by
        show _ = _
        unfold divBy
        rw [if_pos ⟨c1, c2⟩]
      go_upto_region 3 with (fail)
      have RR : Hid (Reads (w2.alloc (Obj.cells #[.int .i64 0, .int .i64 (max (-1) y1), .int .i64 (min 1 y2)] 3)).drew (w2.heap.size + 1) 1 (some ⟨w2.heap.size, 0, none⟩) 3 (ints [0, max (-1) y1, min 1 y2])) := hide (reads_new w2 #[.int .i64 0, .int .i64 (max (-1) y1), .int .i64 (min 1 y2)] 3 1 3 rfl)
      have HO5 : Hid (Own (w2.alloc (Obj.cells #[.int .i64 0, .int .i64 (max (-1) y1), .int .i64 (min 1 y2)] 3)).drew w.heap.size 3 1 (some ⟨g1, 0, none⟩) 2 2 (ints [y1, y2])) := hide ((OWN.out.alloc _).below (Below.drew (Below.refl _ _)))
      have HB5 : Hid (Below w.heap.size w (w2.alloc (Obj.cells #[.int .i64 0, .int .i64 (max (-1) y1), .int .i64 (min 1 y2)] 3)).drew) := hide (hb2.alloc hb2.size _).drew
      have HN5 : Hid (Blk (w2.alloc (Obj.cells #[.int .i64 0, .int .i64 (max (-1) y1), .int .i64 (min 1 y2)] 3)).drew w.heap.size 88 #[.int .i64 0, .int .i64 0]) := hide (N2.out.alloc _).drew
      go_region_law ((refine step_appG (by rfl) _ _ _ (by rfl) w.heap.size 3 (.int .i64 0) 1 8 Tryz.underlying61 int_info rfl (by omega) (some ⟨g1, 0, none⟩) 2 2 (ints [y1, y2]) (by rfl) (by exact HO5.out) _ _ 3 _ _ (by rfl) (by exact RR.out) (ints_oneCell _) (by unfold maxLen; omega) (by omega) (by exact HB5.out.size) ?_; intro A3 c3 w3 hown3 hgr3 _; have OWN3 : Hid (Own w3 w.heap.size 3 1 A3 5 c3 (ints (divBy (y1, y2)))) := hide (by rw [HDD.out]; exact hown3); have HB3 : Hid (Below w.heap.size w w3) := hide (HB5.out.trans ((Below.refl _ _).grown hgr3 HB5.out.size (fun k hk => (World.ownsRow.lt HO5.out k hk).1))); have N3 := hide (HN5.out.grown hgr3 (fun e => HO5.out.ne_blk HN5.out (by decide) e.symm)); clear hown3 hgr3))
      all_goals
        clear RR HO5 HB5 HN5 HDD e2 e3 OWN hb2 N2 hg2
        have hb3 := HB3.out
        have hg3 := N3.out.lt
        clear HB3
        obtain ⟨D, hD⟩ : ∃ D, divBy (y1, y2) = D := ⟨_, rfl⟩
        rw [hD] at HR OWN3
        have HLD : Hid (D.length = 5) := by
          have := OWN3.out.1
          simp at this
          exact this
        clear hD
        go_wp2
        go_loopw [4, 43] (fun v i wr => ∃ (k : Nat) (A : Option Addr) (c : Nat), k ≤ 5 ∧ i = .int .i64 k ∧ v = .slice A (2 * k) c ∧ Own wr w3.heap.size 3 1 A (2 * k) c (ints (quos (x1, x2) (D.take k))) ∧ Below w3.heap.size w3 wr) (fun _ i _ => 5 - (intOf i).toNat)
        case atStart => exact ⟨0, none, 0, Nat.zero_le _, rfl, rfl, Own.nil _ _ _ _, Below.refl _ _⟩
        case round =>
          obtain ⟨k, A, c', hk, rfl, rfl, hown, hbr⟩ := hrel
          have l3 := hbr.size
          have hkb := hb3.trans (hbr.mono hb3.size)
          by_cases hlt : k < 5
          · obtain ⟨bd, offd, rfl, hbd, gd⟩ := (OWN3.out.below hbr).ri.at_ (k := k) hlt
            have e0 : wr.cell? ⟨b, off, none⟩ = some (.int .i64 x1) := (hkb.cell (p := ⟨b, off, none⟩) hb).trans a0
            have e1 : wr.cell? ⟨b, off + 1, none⟩ = some (.int .i64 x2) := (hkb.cell (p := ⟨b, off + 1, none⟩) hb).trans a1
            have HOW := hide hown
            have hlt' : decide ((k : Int) < 5) = true := decide_eq_true (by omega)
            have HTK := hide (nth_take (xs := D) (k := k) (by rw [HLD.out]; exact hlt))
            clear hown
            go_upto_region 8 with (fail)
            have RR : Hid (Reads (wr.alloc (Obj.cells #[.int .i64 (overL x1 (nth D k)), .int .i64 (overL x2 (nth D k))] 3)).drew (wr.heap.size + 1) 1 (some ⟨wr.heap.size, 0, none⟩) 2 (ints [overL x1 (nth D k), overL x2 (nth D k)])) := hide (reads_new wr #[.int .i64 (overL x1 (nth D k)), .int .i64 (overL x2 (nth D k))] 3 1 2 rfl)
            have HO7 : Hid (Own (wr.alloc (Obj.cells #[.int .i64 (overL x1 (nth D k)), .int .i64 (overL x2 (nth D k))] 3)).drew w3.heap.size 3 1 A (2 * k) c' (ints (quos (x1, x2) (D.take k)))) := hide ((HOW.out.alloc _).below (Below.drew (Below.refl _ _)))
            have HB7 : Hid (Below w3.heap.size w3 (wr.alloc (Obj.cells #[.int .i64 (overL x1 (nth D k)), .int .i64 (overL x2 (nth D k))] 3)).drew) := hide (hbr.alloc l3 _).drew
            have HQ := hide (quos_snoc (x1, x2) (D.take k) (nth D k))
            dsimp only at HQ
            go_region_law ((first
              | (refine step_appG (by rfl) _ _ _ (by rfl) w3.heap.size 3 (.int .i64 0) 1 8 Tryz.underlying61 int_info rfl (by omega) A (2 * k) c' _ (by rfl) (by exact HO7.out) _ _ 2 _ _ (by rfl) (by exact RR.out) (ints_oneCell _) (by unfold maxLen; omega) (by omega) (by exact HB7.out.size) ?_; intro A8 c8 w8 hown8 hgr8 _; have HO8 := hide hown8; have HB8 : Hid (Below w3.heap.size w3 w8) := hide (HB7.out.trans ((Below.refl _ _).grown hgr8 HB7.out.size (fun g hg => (World.ownsRow.lt HO7.out g hg).1))); clear hown8 hgr8)
              | (rw [if_pos (by rfl)]; go_simp; go_at_call 90; refine (over_any _ _ _ (by first | exact HX1.out | exact HX2.out)).mono ?_; rintro e w9 ⟨rfl, rfl⟩)))
            all_goals
              clear RR HO7 HB7 e0 e1 gd HOW hbr hkb l3 hbd
              go_wp2
              go_roundw
              case rel => exact ⟨k + 1, A8, c8, by omega, by go_num, by rw [show 2 * (k + 1) = 2 * k + 2 from by omega], by rw [HTK.out, HQ.out, ints_append, show 2 * (k + 1) = 2 * k + 2 from by omega]; exact HO8.out, HB8.out⟩
              case measure => simp [intOf]; omega
          · have hlt' : decide ((k : Int) < 5) = false := decide_eq_false (by omega)
            have hq : quos (x1, x2) (D.take k) = quos (x1, x2) D := by rw [List.take_of_length_le (by rw [HLD.out]; omega)]
            rw [hq] at hown
            have hri := hown.ri
            have kb := hkb
            have KN : Hid (Blk wr w.heap.size 88 #[.int .i64 0, .int .i64 0]) := hide (N3.out.below hbr hg3)
            have hg1 : w.heap.size < wr.heap.size := KN.out.lt
            have HRI := hide hri
            clear hown hq hri hbr hkb
            go_wp2_with fail
            refine (hull_any A _ c' (quos (x1, x2) D) wr HRI.out (by omega) (by unfold maxLen; omega)).mono ?_
            rintro e w2 ⟨rfl, hb2⟩
            rw [HR.out]
            clear HRI
            have HB3 : Below w.heap.size w w2 := kb.trans (hb2.mono kb.size)
            have n2 := KN.out.below hb2 hg1
            have c0' : w2.cell? ⟨w.heap.size, 0, none⟩ = some (.int .i64 0) := n2.cell 0
            have c1' : w2.cell? ⟨w.heap.size, 1, none⟩ = some (.int .i64 0) := n2.cell 1
            have f0' := n2.frozen 0
            have f1' := n2.frozen 1
            have N2 := hide n2
            clear n2 hb2
            go_wp2
            obtain ⟨r2, rb⟩ := span_put (a := res.1) (b := res.2) N2.out HB3 (Nat.le_refl _)
            generalize (w2.setCell ⟨w.heap.size, 0, none⟩ (.int .i64 res.1)).setCell ⟨w.heap.size, 1, none⟩ (.int .i64 res.2) = w5 at r2 rb ⊢
            have d0 : w5.cell? ⟨w.heap.size, 0, none⟩ = some (.int .i64 res.1) := r2.cell 0
            have d1 : w5.cell? ⟨w.heap.size, 1, none⟩ = some (.int .i64 res.2) := r2.cell 1
            exact bodyPost_ret (v := spanV res) (by simp [results, Tryz.results47, go_sem, d0, d1]) rfl ⟨rfl, rb⟩
    · have c2' : decide (0 ≤ y2) = false := decide_eq_false c2
      have OWN3 : Hid (Own w2 w.heap.size 3 1 (some ⟨g1, 0, none⟩) 2 2 (ints (divBy (y1, y2)))) := by
        show Own _ _ _ _ _ _ _ _
        unfold divBy
        rw [if_neg (fun hh => c2 hh.2)]
        exact OWN.out
      have N3 := N2
      have hb3 := hb2
      have hg3 := hg2
      go_upto_region 4 with (fail)
      clear e2 e3 OWN hb2 N2 hg2
      generalize hA3 : (some ⟨g1, 0, none⟩ : Option Addr) = A3 at OWN3 ⊢
      have HA3 := hide hA3
      clear hA3
      generalize w2 = w3 at OWN3 hb3 N3 hg3 ⊢
      obtain ⟨D, hD⟩ : ∃ D, divBy (y1, y2) = D := ⟨_, rfl⟩
      rw [hD] at HR OWN3
      have HLD : Hid (D.length = 2) := by
        have := OWN3.out.1
        simp at this
        exact this
      clear hD
      go_wp2
      go_loopw [4, 43] (fun v i wr => ∃ (k : Nat) (A : Option Addr) (c : Nat), k ≤ 2 ∧ i = .int .i64 k ∧ v = .slice A (2 * k) c ∧ Own wr w3.heap.size 3 1 A (2 * k) c (ints (quos (x1, x2) (D.take k))) ∧ Below w3.heap.size w3 wr) (fun _ i _ => 2 - (intOf i).toNat)
      case atStart => exact ⟨0, none, 0, Nat.zero_le _, rfl, rfl, Own.nil _ _ _ _, Below.refl _ _⟩
      case round =>
        obtain ⟨k, A, c', hk, rfl, rfl, hown, hbr⟩ := hrel
        have l3 := hbr.size
        have hkb := hb3.trans (hbr.mono hb3.size)
        by_cases hlt : k < 2
        · obtain ⟨bd, offd, rfl, hbd, gd⟩ := (OWN3.out.below hbr).ri.at_ (k := k) hlt
          have e0 : wr.cell? ⟨b, off, none⟩ = some (.int .i64 x1) := (hkb.cell (p := ⟨b, off, none⟩) hb).trans a0
          have e1 : wr.cell? ⟨b, off + 1, none⟩ = some (.int .i64 x2) := (hkb.cell (p := ⟨b, off + 1, none⟩) hb).trans a1
          have HOW := hide hown
          have hlt' : decide ((k : Int) < 2) = true := decide_eq_true (by omega)
          have HTK := hide (nth_take (xs := D) (k := k) (by rw [HLD.out]; exact hlt))
          clear hown
          go_upto_region 8 with (fail)
          have RR : Hid (Reads (wr.alloc (Obj.cells #[.int .i64 (overL x1 (nth D k)), .int .i64 (overL x2 (nth D k))] 3)).drew (wr.heap.size + 1) 1 (some ⟨wr.heap.size, 0, none⟩) 2 (ints [overL x1 (nth D k), overL x2 (nth D k)])) := hide (reads_new wr #[.int .i64 (overL x1 (nth D k)), .int .i64 (overL x2 (nth D k))] 3 1 2 rfl)
          have HO7 : Hid (Own (wr.alloc (Obj.cells #[.int .i64 (overL x1 (nth D k)), .int .i64 (overL x2 (nth D k))] 3)).drew w3.heap.size 3 1 A (2 * k) c' (ints (quos (x1, x2) (D.take k)))) := hide ((HOW.out.alloc _).below (Below.drew (Below.refl _ _)))
          have HB7 : Hid (Below w3.heap.size w3 (wr.alloc (Obj.cells #[.int .i64 (overL x1 (nth D k)), .int .i64 (overL x2 (nth D k))] 3)).drew) := hide (hbr.alloc l3 _).drew
          have HQ := hide (quos_snoc (x1, x2) (D.take k) (nth D k))
          dsimp only at HQ
          go_region_law ((first
            | (refine step_appG (by rfl) _ _ _ (by rfl) w3.heap.size 3 (.int .i64 0) 1 8 Tryz.underlying61 int_info rfl (by omega) A (2 * k) c' _ (by rfl) (by exact HO7.out) _ _ 2 _ _ (by rfl) (by exact RR.out) (ints_oneCell _) (by unfold maxLen; omega) (by omega) (by exact HB7.out.size) ?_; intro A8 c8 w8 hown8 hgr8 _; have HO8 := hide hown8; have HB8 : Hid (Below w3.heap.size w3 w8) := hide (HB7.out.trans ((Below.refl _ _).grown hgr8 HB7.out.size (fun g hg => (World.ownsRow.lt HO7.out g hg).1))); clear hown8 hgr8)
            | (rw [if_pos (by rfl)]; go_simp; go_at_call 90; refine (over_any _ _ _ (by first | exact HX1.out | exact HX2.out)).mono ?_; rintro e w9 ⟨rfl, rfl⟩)))
          all_goals
            clear RR HO7 HB7 e0 e1 gd HOW hbr hkb l3 hbd
            go_wp2
            go_roundw
            case rel => exact ⟨k + 1, A8, c8, by omega, by go_num, by rw [show 2 * (k + 1) = 2 * k + 2 from by omega], by rw [HTK.out, HQ.out, ints_append, show 2 * (k + 1) = 2 * k + 2 from by omega]; exact HO8.out, HB8.out⟩
            case measure => simp [intOf]; omega
        · have hlt' : decide ((k : Int) < 2) = false := decide_eq_false (by omega)
          have hq : quos (x1, x2) (D.take k) = quos (x1, x2) D := by rw [List.take_of_length_le (by rw [HLD.out]; omega)]
          rw [hq] at hown
          have hri := hown.ri
          have kb := hkb
          have KN : Hid (Blk wr w.heap.size 88 #[.int .i64 0, .int .i64 0]) := hide (N3.out.below hbr hg3)
          have hg1 : w.heap.size < wr.heap.size := KN.out.lt
          have HRI := hide hri
          clear hown hq hri hbr hkb
          go_wp2_with fail
          refine (hull_any A _ c' (quos (x1, x2) D) wr HRI.out (by omega) (by unfold maxLen; omega)).mono ?_
          rintro e w2 ⟨rfl, hb2⟩
          rw [HR.out]
          clear HRI
          have HB3 : Below w.heap.size w w2 := kb.trans (hb2.mono kb.size)
          have n2 := KN.out.below hb2 hg1
          have c0' : w2.cell? ⟨w.heap.size, 0, none⟩ = some (.int .i64 0) := n2.cell 0
          have c1' : w2.cell? ⟨w.heap.size, 1, none⟩ = some (.int .i64 0) := n2.cell 1
          have f0' := n2.frozen 0
          have f1' := n2.frozen 1
          have N2 := hide n2
          clear n2 hb2
          go_wp2
          obtain ⟨r2, rb⟩ := span_put (a := res.1) (b := res.2) N2.out HB3 (Nat.le_refl _)
          generalize (w2.setCell ⟨w.heap.size, 0, none⟩ (.int .i64 res.1)).setCell ⟨w.heap.size, 1, none⟩ (.int .i64 res.2) = w5 at r2 rb ⊢
          have d0 : w5.cell? ⟨w.heap.size, 0, none⟩ = some (.int .i64 res.1) := r2.cell 0
          have d1 : w5.cell? ⟨w.heap.size, 1, none⟩ = some (.int .i64 res.2) := r2.cell 1
          exact bodyPost_ret (v := spanV res) (by simp [results, Tryz.results47, go_sem, d0, d1]) rfl ⟨rfl, rb⟩
  · have c1' : decide (y1 ≤ 0) = false := decide_eq_false c1
    have OWN3 : Hid (Own w2 w.heap.size 3 1 (some ⟨g1, 0, none⟩) 2 2 (ints (divBy (y1, y2)))) := by
      show Own _ _ _ _ _ _ _ _
      unfold divBy
      rw [if_neg (fun hh => c1 hh.1)]
      exact OWN.out
    have N3 := N2
    have hb3 := hb2
    have hg3 := hg2
    go_upto_region 4 with (fail)
    clear e2 e3 OWN hb2 N2 hg2
    generalize hA3 : (some ⟨g1, 0, none⟩ : Option Addr) = A3 at OWN3 ⊢
    have HA3 := hide hA3
    clear hA3
    generalize w2 = w3 at OWN3 hb3 N3 hg3 ⊢
    obtain ⟨D, hD⟩ : ∃ D, divBy (y1, y2) = D := ⟨_, rfl⟩
    rw [hD] at HR OWN3
    have HLD : Hid (D.length = 2) := by
      have := OWN3.out.1
      simp at this
      exact this
    clear hD
    go_wp2
    go_loopw [4, 43] (fun v i wr => ∃ (k : Nat) (A : Option Addr) (c : Nat), k ≤ 2 ∧ i = .int .i64 k ∧ v = .slice A (2 * k) c ∧ Own wr w3.heap.size 3 1 A (2 * k) c (ints (quos (x1, x2) (D.take k))) ∧ Below w3.heap.size w3 wr) (fun _ i _ => 2 - (intOf i).toNat)
    case atStart => exact ⟨0, none, 0, Nat.zero_le _, rfl, rfl, Own.nil _ _ _ _, Below.refl _ _⟩
    case round =>
      obtain ⟨k, A, c', hk, rfl, rfl, hown, hbr⟩ := hrel
      have l3 := hbr.size
      have hkb := hb3.trans (hbr.mono hb3.size)
      by_cases hlt : k < 2
      · obtain ⟨bd, offd, rfl, hbd, gd⟩ := (OWN3.out.below hbr).ri.at_ (k := k) hlt
        have e0 : wr.cell? ⟨b, off, none⟩ = some (.int .i64 x1) := (hkb.cell (p := ⟨b, off, none⟩) hb).trans a0
        have e1 : wr.cell? ⟨b, off + 1, none⟩ = some (.int .i64 x2) := (hkb.cell (p := ⟨b, off + 1, none⟩) hb).trans a1
        have HOW := hide hown
        have hlt' : decide ((k : Int) < 2) = true := decide_eq_true (by omega)
        have HTK := hide (nth_take (xs := D) (k := k) (by rw [HLD.out]; exact hlt))
        clear hown
        go_upto_region 8 with (fail)
        have RR : Hid (Reads (wr.alloc (Obj.cells #[.int .i64 (overL x1 (nth D k)), .int .i64 (overL x2 (nth D k))] 3)).drew (wr.heap.size + 1) 1 (some ⟨wr.heap.size, 0, none⟩) 2 (ints [overL x1 (nth D k), overL x2 (nth D k)])) := hide (reads_new wr #[.int .i64 (overL x1 (nth D k)), .int .i64 (overL x2 (nth D k))] 3 1 2 rfl)
        have HO7 : Hid (Own (wr.alloc (Obj.cells #[.int .i64 (overL x1 (nth D k)), .int .i64 (overL x2 (nth D k))] 3)).drew w3.heap.size 3 1 A (2 * k) c' (ints (quos (x1, x2) (D.take k)))) := hide ((HOW.out.alloc _).below (Below.drew (Below.refl _ _)))
        have HB7 : Hid (Below w3.heap.size w3 (wr.alloc (Obj.cells #[.int .i64 (overL x1 (nth D k)), .int .i64 (overL x2 (nth D k))] 3)).drew) := hide (hbr.alloc l3 _).drew
        have HQ := hide (quos_snoc (x1, x2) (D.take k) (nth D k))
        dsimp only at HQ
        go_region_law ((first
          | (refine step_appG (by rfl) _ _ _ (by rfl) w3.heap.size 3 (.int .i64 0) 1 8 Tryz.underlying61 int_info rfl (by omega) A (2 * k) c' _ (by rfl) (by exact HO7.out) _ _ 2 _ _ (by rfl) (by exact RR.out) (ints_oneCell _) (by unfold maxLen; omega) (by omega) (by exact HB7.out.size) ?_; intro A8 c8 w8 hown8 hgr8 _; have HO8 := hide hown8; have HB8 : Hid (Below w3.heap.size w3 w8) := hide (HB7.out.trans ((Below.refl _ _).grown hgr8 HB7.out.size (fun g hg => (World.ownsRow.lt HO7.out g hg).1))); clear hown8 hgr8)
          | (rw [if_pos (by rfl)]; go_simp; go_at_call 90; refine (over_any _ _ _ (by first | exact HX1.out | exact HX2.out)).mono ?_; rintro e w9 ⟨rfl, rfl⟩)))
        all_goals
          clear RR HO7 HB7 e0 e1 gd HOW hbr hkb l3 hbd
          go_wp2
          go_roundw
          case rel => exact ⟨k + 1, A8, c8, by omega, by go_num, by rw [show 2 * (k + 1) = 2 * k + 2 from by omega], by rw [HTK.out, HQ.out, ints_append, show 2 * (k + 1) = 2 * k + 2 from by omega]; exact HO8.out, HB8.out⟩
          case measure => simp [intOf]; omega
      · have hlt' : decide ((k : Int) < 2) = false := decide_eq_false (by omega)
        have hq : quos (x1, x2) (D.take k) = quos (x1, x2) D := by rw [List.take_of_length_le (by rw [HLD.out]; omega)]
        rw [hq] at hown
        have hri := hown.ri
        have kb := hkb
        have KN : Hid (Blk wr w.heap.size 88 #[.int .i64 0, .int .i64 0]) := hide (N3.out.below hbr hg3)
        have hg1 : w.heap.size < wr.heap.size := KN.out.lt
        have HRI := hide hri
        clear hown hq hri hbr hkb
        go_wp2_with fail
        refine (hull_any A _ c' (quos (x1, x2) D) wr HRI.out (by omega) (by unfold maxLen; omega)).mono ?_
        rintro e w2 ⟨rfl, hb2⟩
        rw [HR.out]
        clear HRI
        have HB3 : Below w.heap.size w w2 := kb.trans (hb2.mono kb.size)
        have n2 := KN.out.below hb2 hg1
        have c0' : w2.cell? ⟨w.heap.size, 0, none⟩ = some (.int .i64 0) := n2.cell 0
        have c1' : w2.cell? ⟨w.heap.size, 1, none⟩ = some (.int .i64 0) := n2.cell 1
        have f0' := n2.frozen 0
        have f1' := n2.frozen 1
        have N2 := hide n2
        clear n2 hb2
        go_wp2
        obtain ⟨r2, rb⟩ := span_put (a := res.1) (b := res.2) N2.out HB3 (Nat.le_refl _)
        generalize (w2.setCell ⟨w.heap.size, 0, none⟩ (.int .i64 res.1)).setCell ⟨w.heap.size, 1, none⟩ (.int .i64 res.2) = w5 at r2 rb ⊢
        have d0 : w5.cell? ⟨w.heap.size, 0, none⟩ = some (.int .i64 res.1) := r2.cell 0
        have d1 : w5.cell? ⟨w.heap.size, 1, none⟩ = some (.int .i64 res.2) := r2.cell 1
        exact bodyPost_ret (v := spanV res) (by simp [results, Tryz.results47, go_sem, d0, d1]) rfl ⟨rfl, rb⟩
end Go.Proofs.YtmelebfpkjnfdaaGreatDoor
