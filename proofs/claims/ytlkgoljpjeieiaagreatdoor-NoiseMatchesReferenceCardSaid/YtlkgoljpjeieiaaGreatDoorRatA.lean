/-
  Chapter 4, rational: lowest, Make.
-/
import Derived.Test.YtlkgoljpjeieiaaGreatDoorNatI
import Derived.Test.YtlkgoljpjeieiaaGreatDoorRatP
set_option linter.unusedVariables false
set_option linter.unusedSimpArgs false
namespace Go.Proofs.YtlkgoljpjeieiaaGreatDoor
open Go.RowKit Go.Deep Go.Maps

/-- A rational number. -/
def RV (neg : Bool) (p : Nat × Nat) : Value := .agg #[.bool neg, .string (NS p.1), .string (NS p.2)]
theorem set3 {w : World} {g : Nat} {t : TypeId} {a b c : Value} (h : Blk w g t #[a, b, c]) (v0 v1 v2 : Value) :
    Blk (((w.setCell ⟨g, 0, none⟩ v0).setCell ⟨g, 1, none⟩ v1).setCell ⟨g, 2, none⟩ v2) g t #[v0, v1, v2] := by
  have h1 := ((h.set_ 0 v0).set_ 1 v1).set_ 2 v2
  simpa using h1
theorem below3 {B : Nat} {w0 w : World} (hb : Below B w0 w) {g : Nat} (hg : B ≤ g) (v0 v1 v2 : Value) : Below B w0 (((w.setCell ⟨g, 0, none⟩ v0).setCell ⟨g, 1, none⟩ v1).setCell ⟨g, 2, none⟩ v2) :=
  ((hb.setCell (p := ⟨g, 0, none⟩) hg v0).setCell (p := ⟨g, 1, none⟩) hg v1).setCell (p := ⟨g, 2, none⟩) hg v2
theorem results_cell1 {P : Program} {fn : Func} {p t : Tmp} {ty : TypeId} (h : fn.results = #[.cell p ty, .tmp t]) (tmps : Array Value) (w : World) (g : Nat) (T : TypeId) (cs : Array Value) (fr : Nat × Nat) (d : TypeDesc)
    (hp : tmps.getD p undef = .pointer (some ⟨g, 0, none⟩)) (hg : w.heap[g]? = some (.cells cs T fr))
    (hu : P.underlying ty = some d) (hd : (match d with | .struct _ | .array _ _ => true | _ => false) = true) (hi : (P.info? ty).map (·.size) = some cs.size) :
    (results fn tmps).run P w = .ok (.tuple #[.agg cs, tmps.getD t undef]) w := by
  have hp' : tmps[p]?.getD undef = .pointer (some ⟨g, 0, none⟩) := by simpa using hp
  simp [results, h, hp', asAddr, run_loadVar_row w g T ty cs fr d hg hu hd hi]
set_option maxHeartbeats 1000000 in
set_option maxRecDepth 100000 in
theorem lowest_any (s a : Nat) (w : World) (hs : s < 1000000000) (ha : a < 1000000000) (ha0 : a ≠ 0) (hp : Pow w) :
    Calls Tryz.prog 44 #[.bool false, .string (NS s), .string (NS a)] w fun en w' => en = .returned (RV false (low17 s a)) ∧ Below w.heap.size w w' := by
  have HP := hide hp
  clear hp
  by_cases h0 : s = 0
  · subst h0
    have e0 : ((NS 0).toList == [48]) = true := by rw [ns_is0]; rfl
    go_enter Tryz.func44, Tryz.ntmps44
    go_wp2
    refine bodyPost_ret (results_cell_row rfl _ _ w.heap.size 31 _ (0, 0) _ rfl (heap_alloc_new _ _) Tryz.underlying31 rfl (by kernel_rfl)) rfl ?_
    refine ⟨?_, (Below.refl _ _).alloc (Nat.le_refl _) _⟩
    have : low17 0 a = (0, 1) := by unfold low17; rw [if_pos rfl]
    unfold RV
    rw [this, ns_zero, ns_one]
  · have e0 : ((NS s).toList == [48]) = false := by rw [ns_is0]; exact decide_eq_false h0
    go_enter Tryz.func44, Tryz.ntmps44
    have hg : 0 < Nat.gcd s a := Nat.gcd_pos_of_pos_right _ (by omega)
    have hgl : Nat.gcd s a < 1000000000 := Nat.lt_of_le_of_lt (Nat.gcd_le_right _ (by omega)) ha
    have HL : Hid (low17 s a = (s / Nat.gcd s a, a / Nat.gcd s a)) := hide (by unfold low17; rw [if_neg h0])
    have hb1 : Below w.heap.size w (w.alloc (Obj.cells #[.bool false, .string ⟨#[]⟩, .string ⟨#[]⟩] 31)) := (Below.refl _ _).alloc (Nat.le_refl _) _
    have HB1 := hide hb1
    have HK1 := hide (Blk.new w 31 #[.bool false, .string ⟨#[]⟩, .string ⟨#[]⟩])
    go_wp2_with fail
    generalize w.alloc (Obj.cells #[.bool false, .string ⟨#[]⟩, .string ⟨#[]⟩] 31) = w1 at HB1 HK1 ⊢
    obtain ⟨g, hgq⟩ : ∃ g, g = w.heap.size := ⟨_, rfl⟩
    have HQ := hide hgq
    rw [← hgq] at HB1 HK1 ⊢
    clear hb1 hgq
    refine (ngcd_any s a w1 hs ha hgl (HP.out.below HB1.out (by rw [HQ.out]; exact HP.out.lt))).mono ?_
    rintro en w2 ⟨rfl, hb2⟩
    have HB2 := hide (HB1.out.trans (hb2.mono (Nat.le_of_lt HK1.out.lt)))
    have HK2 := hide (HK1.out.below hb2 HK1.out.lt)
    generalize Nat.gcd s a = q at hg hgl HL ⊢
    clear hb2 HB1 HK1
    have HD1 := hide (ndiv_any s q w2 hs hgl (by omega) (HP.out.below HB2.out (by rw [HQ.out]; exact HP.out.lt)))
    go_wp2_with fail
    refine HD1.out.mono ?_
    rintro en w3 ⟨rfl, hb3⟩
    have HB3 := hide (HB2.out.trans (hb3.mono (Nat.le_of_lt HK2.out.lt)))
    have HK3 := hide (HK2.out.below hb3 HK2.out.lt)
    have HD2 := hide (ndiv_any a q w3 ha hgl (by omega) (HP.out.below HB3.out (by rw [HQ.out]; exact HP.out.lt)))
    clear hb3 HB2 HK2 HD1
    go_wp2_with fail
    refine HD2.out.mono ?_
    rintro en w4 ⟨rfl, hb4⟩
    have HB4 := hide (HB3.out.trans (hb4.mono (Nat.le_of_lt HK3.out.lt)))
    have hk4 := HK3.out.below hb4 HK3.out.lt
    have c0 : w4.cell? ⟨g, 0, none⟩ = some (.bool false) := hk4.cell 0
    have c1 : w4.cell? ⟨g, 1, none⟩ = some (.string ⟨#[]⟩) := hk4.cell 1
    have c2 : w4.cell? ⟨g, 2, none⟩ = some (.string ⟨#[]⟩) := hk4.cell 2
    have f0 := hk4.frozen 0
    have f1 := hk4.frozen 1
    have f2 := hk4.frozen 2
    have hk4b : w4.heap[g]? = some (.cells #[.bool false, .string ⟨#[]⟩, .string ⟨#[]⟩] 31 (0, 0)) := hk4
    have SET := hide (set3 hk4 (.bool false) (.string (NS (s / q))) (.string (NS (a / q))))
    have HBS := hide (below3 HB4.out (g := g) (Nat.le_refl _) (.bool false) (.string (NS (s / q))) (.string (NS (a / q))))
    clear hb4 HB3 HK3 HD2 hk4
    go_wp2
    refine bodyPost_ret (results_cell_row rfl _ _ g 31 _ (0, 0) _ rfl SET.out Tryz.underlying31 rfl (by kernel_rfl)) rfl ?_
    exact ⟨by rw [HL.out]; rfl, by rw [← HQ.out]; exact HBS.out⟩
set_option maxHeartbeats 1000000 in
set_option maxRecDepth 100000 in
theorem make_any (s a : Nat) (w : World) (hs : s < 1000000000) (ha : a < 1000000000) (ha0 : a ≠ 0) (hp : Pow w) :
    Calls Tryz.prog 27 #[.bool false, .string (NS s), .string (NS a)] w fun en w' => en = .returned (.tuple #[RV false (low17 s a), .int .i64 0]) ∧ Below w.heap.size w w' := by
  have HP := hide hp
  clear hp
  have e0 : ((NS a).toList == [48]) = false := by rw [ns_is0]; exact decide_eq_false ha0
  have HB1 : Hid (Below w.heap.size w (w.alloc (Obj.cells #[.bool false, .string ⟨#[]⟩, .string ⟨#[]⟩] 31))) := hide ((Below.refl _ _).alloc (Nat.le_refl _) _)
  have HK1 := hide (Blk.new w 31 #[.bool false, .string ⟨#[]⟩, .string ⟨#[]⟩])
  go_enter Tryz.func27, Tryz.ntmps27
  go_wp2_with fail
  generalize w.alloc (Obj.cells #[.bool false, .string ⟨#[]⟩, .string ⟨#[]⟩] 31) = w1 at HB1 HK1 ⊢
  obtain ⟨g, hgq⟩ : ∃ g, g = w.heap.size := ⟨_, rfl⟩
  have HQ := hide hgq
  rw [← hgq] at HB1 HK1 ⊢
  clear hgq
  refine (nvalid_any s hs w1).mono ?_
  rintro en w2 ⟨rfl, hb2⟩
  have HB2 := hide (HB1.out.trans (hb2.mono (Nat.le_of_lt HK1.out.lt)))
  have HK2 := hide (HK1.out.below hb2 HK1.out.lt)
  clear hb2 HB1 HK1
  go_wp2_with fail
  refine (nvalid_any a ha w2).mono ?_
  rintro en w3 ⟨rfl, hb3⟩
  have HB3 := hide (HB2.out.trans (hb3.mono (Nat.le_of_lt HK2.out.lt)))
  have HK3 := hide (HK2.out.below hb3 HK2.out.lt)
  clear hb3 HB2 HK2
  have HLW := hide (lowest_any s a w3 hs ha ha0 (HP.out.below HB3.out (by rw [HQ.out]; exact HP.out.lt)))
  go_wp2_with fail
  refine HLW.out.mono ?_
  rintro en w4 ⟨rfl, hb4⟩
  have HB4 := hide (HB3.out.trans (hb4.mono (Nat.le_of_lt HK3.out.lt)))
  have hk4 := HK3.out.below hb4 HK3.out.lt
  have c0 : w4.cell? ⟨g, 0, none⟩ = some (.bool false) := hk4.cell 0
  have c1 : w4.cell? ⟨g, 1, none⟩ = some (.string ⟨#[]⟩) := hk4.cell 1
  have c2 : w4.cell? ⟨g, 2, none⟩ = some (.string ⟨#[]⟩) := hk4.cell 2
  have f0 := hk4.frozen 0
  have f1 := hk4.frozen 1
  have f2 := hk4.frozen 2
  have hk4b : w4.heap[g]? = some (.cells #[.bool false, .string ⟨#[]⟩, .string ⟨#[]⟩] 31 (0, 0)) := hk4
  have SET := hide (set3 hk4 (.bool false) (.string (NS (low17 s a).1)) (.string (NS (low17 s a).2)))
  have HBS := hide (below3 HB4.out (g := g) (Nat.le_refl _) (.bool false) (.string (NS (low17 s a).1)) (.string (NS (low17 s a).2)))
  clear hb4 HB3 HK3 HLW hk4
  unfold RV
  go_wp2
  refine bodyPost_ret (results_cell1 rfl _ _ g 31 _ (0, 0) _ rfl SET.out Tryz.underlying31 rfl (by kernel_rfl)) rfl ?_
  exact ⟨rfl, by rw [← HQ.out]; exact HBS.out⟩
end Go.Proofs.YtlkgoljpjeieiaaGreatDoor
