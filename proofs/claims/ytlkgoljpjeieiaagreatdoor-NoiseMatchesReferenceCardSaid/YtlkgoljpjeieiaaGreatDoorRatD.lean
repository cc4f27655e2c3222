/-
  Chapter 4, rational: Compare, where the first number is not greater.
-/
import Derived.Test.YtlkgoljpjeieiaaGreatDoorRatC
import Derived.Test.YtlkgoljpjeieiaaGreatDoorDigP
set_option linter.unusedVariables false
set_option linter.unusedSimpArgs false
namespace Go.Proofs.YtlkgoljpjeieiaaGreatDoor
open Go.RowKit Go.Deep Go.Maps

/-- The number that a cell's string spells. -/
def cnum (w : World) (a : Addr) : Nat := match w.cell? a with
  | some (.string s) => valF 0 s.data.toList
  | _ => 0
theorem cnum_ns {w : World} {a : Addr} {n : Nat} (h : w.cell? a = some (.string (NS n))) : cnum w a = n := by
  unfold cnum
  rw [h]
  exact dec_val n
theorem two_rats (w : World) (t : TypeId) (cs ds : Array Value) : Below w.heap.size w ((w.alloc (Obj.cells cs t)).alloc (Obj.cells ds t)) ∧ Blk ((w.alloc (Obj.cells cs t)).alloc (Obj.cells ds t)) w.heap.size t cs ∧ Blk ((w.alloc (Obj.cells cs t)).alloc (Obj.cells ds t)) (w.heap.size + 1) t ds := by
  refine ⟨((Below.refl _ _).alloc (Nat.le_refl _) _).alloc (by simp) _, (Blk.new w t cs).alloc _, ?_⟩
  have := Blk.new (w.alloc (Obj.cells cs t)) t ds
  simpa using this
theorem set2 {w : World} {g : Nat} {t : TypeId} {a b : Value} (h : Blk w g t #[a, b]) (v0 v1 : Value) : Blk ((w.setCell ⟨g, 0, none⟩ v0).setCell ⟨g, 1, none⟩ v1) g t #[v0, v1] := by
  have h1 := (h.set_ 0 v0).set_ 1 v1
  simpa using h1
/-- What the loop's end leaves. -/
theorem set4 {w : World} {g2 g3 : Nat} {t : TypeId} {a b c d : Value} (h2 : Blk w g2 t #[a, b]) (h3 : Blk w g3 t #[c, d]) (hne : g2 ≠ g3) (v0 v1 u0 u1 : Value) :
    Blk ((((w.setCell ⟨g2, 0, none⟩ v0).setCell ⟨g2, 1, none⟩ v1).setCell ⟨g3, 0, none⟩ u0).setCell ⟨g3, 1, none⟩ u1) g2 t #[v0, v1] ∧ Blk ((((w.setCell ⟨g2, 0, none⟩ v0).setCell ⟨g2, 1, none⟩ v1).setCell ⟨g3, 0, none⟩ u0).setCell ⟨g3, 1, none⟩ u1) g3 t #[u0, u1] :=
  ⟨((set2 h2 v0 v1).far (p := ⟨g3, 0, none⟩) hne u0).far (p := ⟨g3, 1, none⟩) hne u1, set2 ((h3.far (p := ⟨g2, 0, none⟩) (Ne.symm hne) v0).far (p := ⟨g2, 1, none⟩) (Ne.symm hne) v1) u0 u1⟩
theorem below4 {B : Nat} {w0 w : World} (hb : Below B w0 w) {g2 g3 : Nat} (h2 : B ≤ g2) (h3 : B ≤ g3) (v0 v1 u0 u1 : Value) : Below B w0 ((((w.setCell ⟨g2, 0, none⟩ v0).setCell ⟨g2, 1, none⟩ v1).setCell ⟨g3, 0, none⟩ u0).setCell ⟨g3, 1, none⟩ u1) :=
  (((hb.setCell (p := ⟨g2, 0, none⟩) h2 v0).setCell (p := ⟨g2, 1, none⟩) h2 v1).setCell (p := ⟨g3, 0, none⟩) h3 u0).setCell (p := ⟨g3, 1, none⟩) h3 u1
set_option maxHeartbeats 2000000 in
set_option maxRecDepth 100000 in
theorem rcmp_eq (x y : Nat) (w : World) (h1 : Good (x, y)) (hp : Pow w) :
    Calls Tryz.prog 21 #[RV false (x, y), RV false (x, y)] w fun en w' => en = .returned (.int .i64 0) ∧ Below w.heap.size w w' := by
  have HP := hide hp
  have H1 := hide h1
  obtain ⟨b0, k1, k2⟩ := two_rats w 31 #[.bool false, .string (NS x), .string (NS y)] #[.bool false, .string (NS x), .string (NS y)]
  have HB := hide b0
  have K1 := hide k1
  have K2 := hide k2
  clear hp h1 b0 k1 k2
  have HV := hide (fun W (hb : Below w.heap.size w W) => rvalid_any (x, y) W H1.out (HP.out.below hb HP.out.lt))
  unfold RV at HV ⊢
  go_enter Tryz.func21, Tryz.ntmps21
  go_wp2_with fail
  generalize (w.alloc (Obj.cells #[.bool false, .string (NS x), .string (NS y)] 31)).alloc (Obj.cells #[.bool false, .string (NS x), .string (NS y)] 31) = w1 at HB K1 K2 ⊢
  refine (HV.out w1 HB.out).mono ?_
  rintro en w2 ⟨rfl, hb2⟩
  have HB2 := hide (HB.out.trans (hb2.mono HB.out.size))
  have J1 := hide (K1.out.below hb2 K1.out.lt)
  have J2 := hide (K2.out.below hb2 K2.out.lt)
  clear hb2 HB K1 K2
  have c0 := J2.out.cell 0
  have c1 := J2.out.cell 1
  have c2 := J2.out.cell 2
  have hk2 : w2.heap[w.heap.size + 1]? = some (.cells #[.bool false, .string (NS x), .string (NS y)] 31 (0, 0)) := J2.out
  go_wp2_with fail
  refine (HV.out w2 HB2.out).mono ?_
  rintro en w3 ⟨rfl, hb3⟩
  have HB3 := hide (HB2.out.trans (hb3.mono HB2.out.size))
  have L1 := J1.out.below hb3 J1.out.lt
  have L2 := J2.out.below hb3 J2.out.lt
  clear hb3 HB2 J1 J2 c0 c1 c2 hk2
  have hk1 : w3.heap[w.heap.size]? = some (.cells #[.bool false, .string (NS x), .string (NS y)] 31 (0, 0)) := L1
  have hk2 : w3.heap[w.heap.size + 1]? = some (.cells #[.bool false, .string (NS x), .string (NS y)] 31 (0, 0)) := L2
  have a0 := L1.cell 0
  have a1 := L1.cell 1
  have a2 := L1.cell 2
  have b0 := L2.cell 0
  have b1 := L2.cell 1
  have b2 := L2.cell 2
  clear L1 L2
  have e1 : ((NS x).toList == (NS x).toList) = true := by rw [ns_eq]; simp
  have e2 : ((NS y).toList == (NS y).toList) = true := by rw [ns_eq]; simp
  go_wp2
  go_ret
  exact ⟨rfl, HB3.out⟩
set_option maxHeartbeats 2000000 in
set_option maxRecDepth 100000 in
theorem rcmp_lt (x y u v : Nat) (w : World) (h1 : Good (x, y)) (h2 : Good (u, v)) (hlt : x * v < u * y) (hp : Pow w) :
    Calls Tryz.prog 21 #[RV false (x, y), RV false (u, v)] w fun en w' => en = .returned (.int .i64 (-1)) ∧ Below w.heap.size w w' := by
  have HP := hide hp
  have H1 := hide h1
  have H2 := hide h2
  have HLT := hide hlt
  obtain ⟨b0, k1, k2⟩ := two_rats w 31 #[.bool false, .string (NS x), .string (NS y)] #[.bool false, .string (NS u), .string (NS v)]
  have HB := hide b0
  have K1 := hide k1
  have K2 := hide k2
  clear hp h1 h2 b0 k1 k2
  have HV1 := hide (fun W (hb : Below w.heap.size w W) => rvalid_any (x, y) W H1.out (HP.out.below hb HP.out.lt))
  have HV2 := hide (fun W (hb : Below w.heap.size w W) => rvalid_any (u, v) W H2.out (HP.out.below hb HP.out.lt))
  unfold RV at HV1 HV2 ⊢
  clear hlt
  go_enter Tryz.func21, Tryz.ntmps21
  go_wp2_with fail
  generalize (w.alloc (Obj.cells #[.bool false, .string (NS x), .string (NS y)] 31)).alloc (Obj.cells #[.bool false, .string (NS u), .string (NS v)] 31) = w1 at HB K1 K2 ⊢
  refine (HV1.out w1 HB.out).mono ?_
  rintro en w2 ⟨rfl, hb2⟩
  have HB2 := hide (HB.out.trans (hb2.mono HB.out.size))
  have J1 := hide (K1.out.below hb2 K1.out.lt)
  have J2 := hide (K2.out.below hb2 K2.out.lt)
  clear hb2 HB K1 K2
  have c0 := J2.out.cell 0
  have c1 := J2.out.cell 1
  have c2 := J2.out.cell 2
  have hk2 : w2.heap[w.heap.size + 1]? = some (.cells #[.bool false, .string (NS u), .string (NS v)] 31 (0, 0)) := J2.out
  go_wp2_with fail
  refine (HV2.out w2 HB2.out).mono ?_
  rintro en w3 ⟨rfl, hb3⟩
  have HB3 := hide (HB2.out.trans (hb3.mono HB2.out.size))
  have L1 := J1.out.below hb3 J1.out.lt
  have L2 := J2.out.below hb3 J2.out.lt
  clear hb3 HB2 J1 J2 c0 c1 c2 hk2 HV1 HV2
  have hk1 : w3.heap[w.heap.size]? = some (.cells #[.bool false, .string (NS x), .string (NS y)] 31 (0, 0)) := L1
  have hk2 : w3.heap[w.heap.size + 1]? = some (.cells #[.bool false, .string (NS u), .string (NS v)] 31 (0, 0)) := L2
  have a0 := L1.cell 0
  have a1 := L1.cell 1
  have a2 := L1.cell 2
  have b0 := L2.cell 0
  have b1 := L2.cell 1
  have b2 := L2.cell 2
  have hl1 : w.heap.size < w3.heap.size := L1.lt
  have hl2 : w.heap.size + 1 < w3.heap.size := L2.lt
  have hne : ¬(x = u ∧ y = v) := by
    rintro ⟨rfl, rfl⟩
    exact absurd HLT.out (Nat.lt_irrefl _)
  clear L1 L2
  have hc : ((NS x).toList = (NS u).toList ∧ ¬ (NS y).toList = (NS v).toList) ∨ ¬ (NS x).toList = (NS u).toList := by
    by_cases hx : x = u
    · have hy : y ≠ v := fun h => hne ⟨hx, h⟩
      refine .inl ⟨by rw [hx], fun h => hy ?_⟩
      rw [ns_bytes, ns_bytes] at h
      exact dec_inj h
    · refine .inr fun h => hx ?_
      rw [ns_bytes, ns_bytes] at h
      exact dec_inj h
  clear hne
  rcases hc with ⟨e1, e2⟩ | e1
  all_goals
    go_upto_region 9 with (fail)
  all_goals
    try clear e2
    clear e1 hk1 hk2 a0 b0
    go_cut [5, 6] (fun t5 t6 wx => ∃ g2 g3 : Nat, t5 = .pointer (some ⟨g2, 0, none⟩) ∧ t6 = .pointer (some ⟨g3, 0, none⟩) ∧ Blk wx g2 65 #[.string (NS x), .string (NS y)] ∧ Blk wx g3 65 #[.string (NS u), .string (NS v)] ∧ g2 ≠ g3 ∧ w.heap.size ≤ g2 ∧ w.heap.size ≤ g3 ∧ Below w.heap.size w wx)
    case first =>
      go_region_held3 (fun w' => w'.cell? ⟨w.heap.size, 1, none⟩ = some (.string (NS x)) ∧ w'.cell? ⟨w.heap.size, 2, none⟩ = some (.string (NS y)) ∧ w'.cell? ⟨w.heap.size + 1, 1, none⟩ = some (.string (NS u)) ∧ w'.cell? ⟨w.heap.size + 1, 2, none⟩ = some (.string (NS v)))
        (first | go_keep)
        (fail)
      all_goals
        go_wp2
        go_meet
        have T1 := two_rats w3 65 #[.string (NS x), .string (NS y)] #[.string (NS u), .string (NS v)]
        have T2 := two_rats w3 65 #[.string (NS u), .string (NS v)] #[.string (NS x), .string (NS y)]
        first
          | exact ⟨w3.heap.size, w3.heap.size + 1, rfl, rfl, T1.2.1.drew, T1.2.2.drew, by omega, Nat.le_of_lt hl1, by omega, (HB3.out.trans (T1.1.mono HB3.out.size)).drew⟩
          | exact ⟨w3.heap.size + 1, w3.heap.size, rfl, rfl, T2.2.2.drew, T2.2.1.drew, by omega, by omega, Nat.le_of_lt hl1, (HB3.out.trans (T2.1.mono HB3.out.size)).drew⟩
    case rest =>
      obtain ⟨g2, g3, rfl, rfl, k1, k2, hne, hg2, hg3, hb⟩ := hcut
      have K1 := hide k1
      have K2 := hide k2
      have HB := hide hb
      have HNE := hide hne
      clear k1 k2 hb hne a1 a2 b1 b2 hl1 hl2 HB3
      have GX : Hid (x < 1000000000 ∧ y < 1000000000 ∧ y ≠ 0) := hide ⟨H1.out.1, H1.out.2.1, H1.out.2.2.1⟩
      have GU : Hid (u < 1000000000 ∧ v < 1000000000 ∧ v ≠ 0) := hide ⟨H2.out.1, H2.out.2.1, H2.out.2.2.1⟩
      clear H1 H2
      go_wp2
      go_loopw [] (fun wr => ∃ a b c d : Nat, Blk wr g2 65 #[.string (NS a), .string (NS b)] ∧ Blk wr g3 65 #[.string (NS c), .string (NS d)] ∧ (a < 1000000000 ∧ b < 1000000000 ∧ b ≠ 0) ∧ (c < 1000000000 ∧ d < 1000000000 ∧ d ≠ 0) ∧ a * d < c * b ∧ Below w.heap.size w wr) (fun wr => cnum wr ⟨g2, 1, none⟩ + cnum wr ⟨g3, 1, none⟩)
      case atStart => exact ⟨x, y, u, v, K1.out, K2.out, GX.out, GU.out, HLT.out, HB.out⟩
      case round =>
        clear K1 K2 HB GX GU HLT
        obtain ⟨a, b, c, d, k1, k2, ⟨ha, hb, hb0⟩, ⟨hc, hd, hd0⟩, hlt, hbel⟩ := hrel
        have K1 := hide k1
        have K2 := hide k2
        have HLT := hide hlt
        have HB := hide hbel
        have HM0 : Hid (cnum wr ⟨g2, 1, none⟩ + cnum wr ⟨g3, 1, none⟩ = b + d) := hide (by rw [cnum_ns (n := b) (k1.cell 1), cnum_ns (n := d) (k2.cell 1)])
        have p0 : wr.cell? ⟨g2, 0, none⟩ = some (.string (NS a)) := k1.cell 0
        have p1 : wr.cell? ⟨g2, 1, none⟩ = some (.string (NS b)) := k1.cell 1
        have HD1 := hide (ndiv_any a b wr ha hb hb0 (HP.out.below hbel HP.out.lt))
        clear k1 k2 hlt hbel
        go_wp2_with fail
        refine HD1.out.mono ?_
        rintro en w4 ⟨rfl, hb4⟩
        have HB4 := hide (HB.out.trans (hb4.mono HB.out.size))
        have J1 := hide (K1.out.below hb4 K1.out.lt)
        have J2 := hide (K2.out.below hb4 K2.out.lt)
        have q0 : w4.cell? ⟨g3, 0, none⟩ = some (.string (NS c)) := J2.out.cell 0
        have q1 : w4.cell? ⟨g3, 1, none⟩ = some (.string (NS d)) := J2.out.cell 1
        have HD2 := hide (ndiv_any c d w4 hc hd hd0 (HP.out.below HB4.out HP.out.lt))
        clear hb4 HD1 p0 p1 K1 K2 HB
        go_wp2_with fail
        refine HD2.out.mono ?_
        rintro en w5 ⟨rfl, hb5⟩
        have HB5 := hide (HB4.out.trans (hb5.mono HB4.out.size))
        have L1 := hide (J1.out.below hb5 J1.out.lt)
        have L2 := hide (J2.out.below hb5 J2.out.lt)
        have HC := hide (ncmp_any (a / b) (c / d) w5 (Nat.lt_of_le_of_lt (Nat.div_le_self _ _) ha) (Nat.lt_of_le_of_lt (Nat.div_le_self _ _) hc))
        clear hb5 HD2 q0 q1 J1 J2 HB4
        have hrb : a % b < b := Nat.mod_lt _ (by omega)
        have hsd : c % d < d := Nat.mod_lt _ (by omega)
        have hra : a % b < 1000000000 := by omega
        have hsc : c % d < 1000000000 := by omega
        have HCASE : Hid ((cmpN (a / b) (c / d) = -1) ∨ (cmpN (a / b) (c / d) = 0 ∧ a % b * d < c % d * b)) := hide (by
          by_cases h1 : a / b < c / d
          · left; unfold cmpN; rw [if_pos h1]
          · by_cases h2 : a / b = c / d
            · right
              refine ⟨by unfold cmpN; rw [if_neg h1, if_pos h2], ?_⟩
              exact (frac_step (Nat.pos_of_ne_zero hb0) (Nat.pos_of_ne_zero hd0) h2).1.1 HLT.out
            · have h3 := frac_lt (Nat.pos_of_ne_zero hd0) (Nat.pos_of_ne_zero hb0) (show c / d < a / b by omega)
              exact absurd HLT.out (by omega))
        generalize cmpN (a / b) (c / d) = z at HC HCASE
        generalize a / b = qa at *
        generalize c / d = qc at *
        generalize a % b = r at *
        generalize c % d = sr at *
        clear HLT
        go_wp2_with fail
        refine HC.out.mono ?_
        rintro en w6 ⟨rfl, hb6⟩
        have HB6 := hide (HB5.out.trans (hb6.mono HB5.out.size))
        have M1 := hide (L1.out.below hb6 L1.out.lt)
        have M2 := hide (L2.out.below hb6 L2.out.lt)
        clear hb6 HC L1 L2 HB5
        rcases HCASE.out with hz | ⟨rfl, hrs⟩
        · have d1 : (z != 0) = true := bne_iff_ne.2 (by omega)
          have HZ := hide hz
          clear hz
          go_wp2
          go_ret
          exact ⟨by rw [HZ.out]; rfl, HB6.out⟩
        · have HRS := hide hrs
          by_cases hr0 : r = 0
          · subst hr0
            have e0 : ((NS 0).toList == [48]) = true := by rw [ns_is0]; rfl
            rw [ns_zero] at e0 ⊢
            clear hrs
            go_wp2
            go_ret
            exact ⟨rfl, HB6.out⟩
          · have hs0 : sr ≠ 0 := by
              rintro rfl
              rw [Nat.zero_mul] at hrs
              exact absurd hrs (Nat.not_lt_zero _)
            have e0 : ((NS r).toList == [48]) = false := by rw [ns_is0]; exact decide_eq_false hr0
            have e1 : ((NS sr).toList == [48]) = false := by rw [ns_is0]; exact decide_eq_false hs0
            have p0 : w6.cell? ⟨g2, 0, none⟩ = some (.string (NS a)) := M1.out.cell 0
            have p1 : w6.cell? ⟨g2, 1, none⟩ = some (.string (NS b)) := M1.out.cell 1
            have q0 : w6.cell? ⟨g3, 0, none⟩ = some (.string (NS c)) := M2.out.cell 0
            have q1 : w6.cell? ⟨g3, 1, none⟩ = some (.string (NS d)) := M2.out.cell 1
            have f0 := M1.out.frozen 0
            have f1 := M1.out.frozen 1
            have f2 := M2.out.frozen 0
            have f3 := M2.out.frozen 1
            have hk2 : w6.heap[g2]? = some (.cells #[.string (NS a), .string (NS b)] 65 (0, 0)) := M1.out
            have hk3 : w6.heap[g3]? = some (.cells #[.string (NS c), .string (NS d)] 65 (0, 0)) := M2.out
            have NX := hide (set4 M1.out M2.out HNE.out (.string (NS d)) (.string (NS sr)) (.string (NS b)) (.string (NS r)))
            have NB := hide (below4 HB6.out hg2 hg3 (.string (NS d)) (.string (NS sr)) (.string (NS b)) (.string (NS r)))
            have hne := HNE.out
            have hne' := Ne.symm HNE.out
            clear hrs M1 M2 HB6
            go_wp2
            go_roundw
            case rel => exact ⟨d, sr, b, r, NX.out.1, NX.out.2, ⟨hd, hsc, hs0⟩, ⟨hb, hra, hr0⟩, by have := HRS.out; rw [Nat.mul_comm d r, Nat.mul_comm b sr]; exact this, NB.out⟩
            case measure =>
              rw [HM0.out, cnum_ns (n := sr) (NX.out.1.cell 1), cnum_ns (n := r) (NX.out.2.cell 1)]
              omega
end Go.Proofs.YtlkgoljpjeieiaaGreatDoor
