/-
  Chapter 54: the walk of NetMatchesReference.
-/
import Derived.Test.YtnoihbbfodkejaaRefDo
import Derived.Test.YtnoihbbfodkejaaL7
import Derived.Test.YtnoihbbfodkejaaPlain6
namespace Go.Proofs.Ytnoihbbfodkejaa
open Go.RowKit Go.Maps

/-- A network and a reference's network side by side. -/
structure Both (W : World) (p p' k k' : Nat) (s t : NS) (F F' : Nat → Prop) (w : World) : Prop where
  n1 : NetAt w p k s F
  n2 : RefAt w p' k' t F'
  l1 : ∀ k, F k → W.heap.size ≤ k
  l2 : ∀ k, F' k → W.heap.size ≤ k
  far : ∀ k, F k → ¬ F' k
  bel : Below W.heap.size W w
section
variable {W w w' : World} {p p' k k' j : Nat} {s s' t t' : NS} {F F' G : Nat → Prop}
theorem Both.step1 (h : Both W p p' k k' s t F F' w) (hn : NetAt w' p j s' G) (hg : NetGo F G w w') : Both W p p' j k' s' t G F' w' := by
  obtain ⟨hb, hl⟩ := hg.below h.bel.size h.l1
  refine ⟨hn, h.n2.moved hg.moved (fun j hj hf => h.far j hf hj), hl, h.l2, fun j hj hf => ?_, h.bel.trans hb⟩
  rcases hg.grow j hj with h1 | h1
  · exact h.far j h1 hf
  · have := h.n2.lt j hf; omega
theorem Both.step2 (h : Both W p p' k k' s t F F' w) (hn : RefAt w' p' j t' G) (hg : NetGo F' G w w') : Both W p p' k j s t' F G w' := by
  obtain ⟨hb, hl⟩ := hg.below h.bel.size h.l2
  refine ⟨h.n1.moved hg.moved (fun j hj hf => h.far j hj hf), hn, h.l1, hl, fun j hj hf => ?_, h.bel.trans hb⟩
  rcases hg.grow j hf with h1 | h1
  · exact h.far j hj h1
  · have := h.n1.lt j hj; omega
theorem Both.below (h : Both W p p' k k' s t F F' w) (hb : Below w.heap.size w w') : Both W p p' k k' s t F F' w' :=
  ⟨h.n1.below hb, h.n2.below hb, h.l1, h.l2, h.far, h.bel.trans (hb.mono h.bel.size)⟩
theorem Both.mono (h : Both W p p' k k' s t F F' w) {m m' : Nat} (hk : k ≤ m) (hk' : k' ≤ m') : Both W p p' m m' s t F F' w := ⟨h.n1.mono hk, h.n2.mono hk', h.l1, h.l2, h.far, h.bel⟩
end

set_option maxRecDepth 100000 in
set_option maxHeartbeats 8000000 in
theorem law4_walk (N : Int) (A0 : Option Addr) (n c0 : Nat) (l : List St) (a b : Int) (w : World)
    (hN : (Lit.int .i64 N).wf = true) (h0 : RSt w w.heap.size A0 n l) (hn : n ≤ maxLen) (hwf : ∀ s ∈ l, s.wf) (ha : (Lit.int .i64 a).wf = true) (hb : (Lit.int .i64 b).wf = true) :
    Calls Try.prog 6 #[.int .i64 N, .slice A0 n c0, .int .i64 a, .int .i64 b] w fun e w' => e = .returned (.bool true) ∧ Below w.heap.size w w' := by
  unfold maxLen at hn
  have HL : Hid (l.length = n) := h0.len
  have H0 := hide h0
  have HWF := hide hwf
  have HA := hide ha
  have HB := hide hb
  clear h0 hN hwf ha hb
  go_enter Try.func6, Try.ntmps6
  go_wp2_with fail
  refine (head_any w).mono ?_
  rintro e w0 ⟨rfl, bel0⟩
  have B0 := hide bel0
  clear bel0
  have HR0 : Hid (RSt w0 w0.heap.size A0 n l) := (H0.out.below B0.out).more B0.out.size
  go_wp2_with fail
  refine (few_any A0 n c0 l w0 HR0.out).mono ?_
  rintro e w3 ⟨rfl, rfl⟩
  clear HR0
  have hfew : fewL l = true → n ≤ 150 := by
    intro h
    unfold fewL at h
    simp only [Bool.and_eq_true, decide_eq_true_eq] at h
    have := HL.out
    omega
  cases hf : fewL l
  · go_wp2
    go_ret
    exact ⟨rfl, B0.out⟩
  have h150 := hfew hf
  clear hfew hf
  go_wp2_with fail
  by_cases hgood : ¬ (1 ≤ N ∧ N ≤ 8)
  · refine (new_bad N w0 hgood).mono ?_
    rintro e w1 ⟨rfl, b1⟩
    have B1 := hide (B0.out.trans (b1.mono B0.out.size))
    clear b1
    go_wp2_with fail
    refine (ref_new_bad N w1 hgood).mono ?_
    rintro e w2 ⟨rfl, b2⟩
    have B2 := hide (B1.out.trans (b2.mono B1.out.size))
    clear b2 B1
    by_cases hn0 : 0 < n
    · have hn0' : (0 : Int) < (n : Int) := by omega
      go_wp2
      go_loopw [14] (fun i wr => i = .int .i64 0 ∧ wr = w2) (fun _ _ => 0)
      case atStart => exact ⟨rfl, rfl⟩
      case round =>
        obtain ⟨rfl, rfl⟩ := hrel
        go_wp2
        go_ret
        exact ⟨rfl, B2.out⟩
    · have hn0' : ¬ (0 : Int) < (n : Int) := by omega
      go_wp2
      go_loopw [14] (fun i wr => i = .int .i64 0 ∧ wr = w2) (fun _ _ => 0)
      case atStart => exact ⟨rfl, rfl⟩
      case round =>
        obtain ⟨rfl, rfl⟩ := hrel
        go_wp2
        go_ret
        exact ⟨rfl, B2.out⟩
  have hg : 1 ≤ N ∧ N ≤ 8 := Decidable.not_not.1 hgood
  clear hgood
  refine (new_ok N w0 hg).mono ?_
  rintro e w1 ⟨p, F1, rfl, n1, l1, b1⟩
  have X1 := hide (And.intro n1 (And.intro (fun k (hk : F1 k) => Nat.le_trans B0.out.size (l1 k hk)) (B0.out.trans (b1.mono B0.out.size))))
  clear n1 l1 b1
  go_wp2_with fail
  refine (ref_new_ok N w1 hg).mono ?_
  rintro e w2 ⟨p', F2, rfl, n2, l2, b2⟩
  have T2 : Hid (Both w p p' 0 0 (NS.new N) (NS.new N) F1 F2 w2) :=
    ⟨X1.out.1.below b2, n2, X1.out.2.1, fun k hk => Nat.le_trans X1.out.2.2.size (l2 k hk), fun k hk hf => by have := l2 k hf; have := X1.out.1.lt k hk; omega, X1.out.2.2.trans (b2.mono X1.out.2.2.size)⟩
  clear n2 l2 b2 X1 B0 hg
  go_wp2
  go_loopw [14] (fun i wr => ∃ (k : Nat) (F F' : Nat → Prop), k ≤ n ∧ i = .int .i64 k ∧
      Both w p p' (8 * k) (8 * k) ((NS.new N).run (l.take k)) ((NS.new N).run (l.take k)) F F' wr) (fun i _ => n - (intOf i).toNat)
  case atStart => exact ⟨0, F1, F2, Nat.zero_le _, rfl, T2.out⟩
  case round =>
    obtain ⟨k, F, F', hk, rfl, ht⟩ := hrel
    have HT := hide ht
    clear ht
    by_cases hlt : k < n
    · have hkl : k < l.length := by rw [HL.out]; exact hlt
      have hwx : (stp l k).wf := by
        refine HWF.out _ ?_
        unfold stp
        rw [List.getD_eq_getElem?_getD, List.getElem?_eq_getElem hkl]
        exact List.getElem_mem _
      obtain ⟨bb, off, rfl, hb, hc⟩ := H0.out.at_ hlt
      have HRUN := hide (run_take (NS.new N) l k hkl)
      have HSM : Hid ((NS.new N).run (l.take k)).Small := run_small _ (NS.new_small N) _
      clear hkl
      generalize (NS.new N).run (l.take k) = s at HT HSM HRUN ⊢
      generalize hx : stp l k = x at hwx hc HRUN ⊢
      have HW := hide hwx
      clear hwx hx
      have HCELL : Hid (∀ w', Below w.heap.size w w' → w'.cell? ⟨bb, off + k * 7, none⟩ = some (.int .i64 x.kind) ∧ w'.cell? ⟨bb, off + k * 7 + 1, none⟩ = some (.int .i64 x.a) ∧ w'.cell? ⟨bb, off + k * 7 + 2, none⟩ = some (.int .i64 x.b) ∧
          w'.cell? ⟨bb, off + k * 7 + 3, none⟩ = some (.int .i64 x.n) ∧ w'.cell? ⟨bb, off + k * 7 + 4, none⟩ = some (.string x.text) ∧ w'.cell? ⟨bb, off + k * 7 + 5, none⟩ = some (.bool x.lost) ∧ w'.cell? ⟨bb, off + k * 7 + 6, none⟩ = some (.bool x.again)) := by
        intro w' hb'
        have hq : ∀ j, j < 7 → w'.cell? ⟨bb, off + k * 7 + j, none⟩ = x.cells[j]? := fun j hj => (hb'.cell (p := ⟨bb, off + k * 7 + j, none⟩) hb).trans (hc j hj)
        exact ⟨hq 0 (by omega), hq 1 (by omega), hq 2 (by omega), hq 3 (by omega), hq 4 (by omega), hq 5 (by omega), hq 6 (by omega)⟩
      clear hc hb
      have HSM2 : Hid (s.do_ x).Small := NS.do_small HSM.out x
      have hne := neq_res (s.res x)
      have WL : Hid (∀ a b, ((s.do_ x).waiting a b).length ≤ 100) := by
        intro a b
        unfold NS.waiting
        split
        · exact HSM2.out _
        · simp
      obtain ⟨q1, hq1⟩ : ∃ q, q = (s.do_ x).waiting x.a x.b := ⟨_, rfl⟩
      obtain ⟨q2, hq2⟩ : ∃ q, q = (s.do_ x).waiting a b := ⟨_, rfl⟩
      have L1 : Hid (q1.length ≤ 100) := by show _ ≤ _; rw [hq1]; exact WL.out _ _
      have L2 : Hid (q2.length ≤ 100) := by show _ ≤ _; rw [hq2]; exact WL.out _ _
      have HQ1 := hide hq1.symm
      have HQ2 := hide hq2.symm
      clear hq1 hq2 WL
      have SK0 := hide (HCELL.out wr HT.out.bel)
      have ii0 : (0 : Int) ≤ (k : Int) := by omega
      have ii1 : (k : Int) < (n : Int) := by omega
      go_wp2_with fail
      go_region_held3 (fun w' => (w'.cell? ⟨bb, off + k * 7, none⟩ = some (.int .i64 x.kind) ∧ w'.cell? ⟨bb, off + k * 7 + 1, none⟩ = some (.int .i64 x.a) ∧ w'.cell? ⟨bb, off + k * 7 + 2, none⟩ = some (.int .i64 x.b) ∧
          w'.cell? ⟨bb, off + k * 7 + 3, none⟩ = some (.int .i64 x.n) ∧ w'.cell? ⟨bb, off + k * 7 + 4, none⟩ = some (.string x.text) ∧ w'.cell? ⟨bb, off + k * 7 + 5, none⟩ = some (.bool x.lost) ∧ w'.cell? ⟨bb, off + k * 7 + 6, none⟩ = some (.bool x.again)))
        (first | exact SK0.out | exact SK3.out | exact SK4.out | exact SK5.out | exact SK6.out | exact SK7.out | exact SK8.out | exact SK9.out | exact SK10.out)
        (first
          | (go_at_call 18; refine (do_any p (8 * k) s F x _ (by exact HT.out.n1.drew) HW.out.2.1 HW.out.2.2.1 (by unfold maxLen; omega) HSM.out).mono ?_; rintro e w3 ⟨rfl, G, hn3, hg3'⟩; have hg3 := NetGo.undrew hg3'; have HT3 := hide (HT.out.step1 hn3 hg3); have SK3 := hide (HCELL.out w3 HT3.out.bel); clear hn3 hg3 hg3')
          | (go_at_call 19; refine (ref_do p' (8 * k) s F' x _ (by exact HT3.out.n2) (by omega)).mono ?_; rintro e w4 ⟨rfl, G2, hn4, hg4⟩; have HT4 := hide (HT3.out.step2 hn4 hg4); have SK4 := hide (HCELL.out w4 HT4.out.bel); clear hn4 hg4)
          | (go_at_call_of 15 (Value.int .i64 x.a); refine (waiting_any p (8 * k + 4) (s.do_ x) G x.a x.b _ (by exact HT4.out.n1) HW.out.2.1 HW.out.2.2.1 HSM2.out).mono ?_; rw [HQ1.out]; rintro e w5 ⟨A5, c5, rfl, o5, b5⟩; have HT5 := hide (HT4.out.below b5); have O5 := hide o5; have SK5 := hide (HCELL.out w5 HT5.out.bel); clear o5 b5)
          | (go_at_call_of 20 (Value.int .i64 x.a); refine (ref_waiting p' (8 * k + 4) (s.do_ x) G2 x.a x.b _ (by exact HT5.out.n2) (by omega)).mono ?_; rw [HQ1.out]; rintro e w6 ⟨A6, c6, rfl, o6, b6⟩; have HT6 := hide (HT5.out.below b6); have O56 : Hid (RS w6 w6.heap.size A5 q1.length q1) := Own.reads (Own.below O5.out b6); have O6 : Hid (RS w6 w6.heap.size A6 q1.length q1) := Own.reads o6; have SK6 := hide (HCELL.out w6 HT6.out.bel); clear o6 b6)
          | (go_at_call_of 14 (Value.slice A5 q1.length c5); refine (texts_any A5 q1.length c5 A6 q1.length c6 q1 q1 _ (by exact O56.out) (by exact O6.out) (by have := L1.out; unfold maxLen; omega)).mono ?_; rintro e w7 ⟨rfl, m7, hw7⟩; have hd : decide (q1 = q1) = true := (by simp); rw [hd]; have HT7 : Hid (Both w p p' (8 * k + 4) (8 * k + 4) (s.do_ x) (s.do_ x) G G2 w7) := (by show Both _ _ _ _ _ _ _ _ _ _; rw [hw7]; exact HT6.out.below (drewN_below _ _ m7)); have SK7 := hide (HCELL.out w7 HT7.out.bel); clear hd hw7)
          | (go_at_call_of 15 (Value.int .i64 a); refine (waiting_any p (8 * k + 4) (s.do_ x) G a b _ (by exact HT7.out.n1) HA.out HB.out HSM2.out).mono ?_; rw [HQ2.out]; rintro e w8 ⟨A8, c8, rfl, o8, b8⟩; have HT8 := hide (HT7.out.below b8); have O8 := hide o8; have SK8 := hide (HCELL.out w8 HT8.out.bel); clear o8 b8)
          | (go_at_call_of 20 (Value.int .i64 a); refine (ref_waiting p' (8 * k + 4) (s.do_ x) G2 a b _ (by exact HT8.out.n2) (by omega)).mono ?_; rw [HQ2.out]; rintro e w9 ⟨A9, c9, rfl, o9, b9⟩; have HT9 := hide (HT8.out.below b9); have O89 : Hid (RS w9 w9.heap.size A8 q2.length q2) := Own.reads (Own.below O8.out b9); have O9 : Hid (RS w9 w9.heap.size A9 q2.length q2) := Own.reads o9; have SK9 := hide (HCELL.out w9 HT9.out.bel); clear o9 b9)
          | (go_at_call_of 14 (Value.slice A8 q2.length c8); refine (texts_any A8 q2.length c8 A9 q2.length c9 q2 q2 _ (by exact O89.out) (by exact O9.out) (by have := L2.out; unfold maxLen; omega)).mono ?_; rintro e w10 ⟨rfl, m10, hw10⟩; have hd : decide (q2 = q2) = true := (by simp); rw [hd]; have HT10 : Hid (Both w p p' (8 * k + 4) (8 * k + 4) (s.do_ x) (s.do_ x) G G2 w10) := (by show Both _ _ _ _ _ _ _ _ _ _; rw [hw10]; exact HT9.out.below (drewN_below _ _ m10)); have SK10 := hide (HCELL.out w10 HT10.out.bel); clear hd hw10))
      go_wp2_with fail
      go_roundw
      case rel => exact ⟨k + 1, G, G2, by omega, by go_num, by rw [HRUN.out]; exact HT10.out.mono (by omega) (by omega)⟩
      case measure => simp [intOf]; omega
    · have hkn : k = n := by omega
      subst hkn
      go_wp2
      go_ret
      exact ⟨rfl, HT.out.bel⟩
end Go.Proofs.Ytnoihbbfodkejaa
