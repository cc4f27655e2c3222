/-
  Chapter 54: (*Net).turn, Cut, Heal; and all methods of a nil network.
-/
import Derived.Test.YtnoihbbfodkejaaSlices
import Derived.Deep.Cut
import Derived.StillTailTactics
namespace Go.Proofs.Ytnoihbbfodkejaa
open Go.RowKit Go.Maps

def turn1 (s : NS) (i : Int × Int) (cut : Bool) : NS := { s with c := upd s.c i cut, q := if cut = true then upd s.q i [] else s.q }
def turnTo (s : NS) (a b : Int) (cut : Bool) : Nat → NS
  | 0 => s
  | 1 => turn1 s (a, b) cut
  | _ => turn1 (turn1 s (a, b) cut) (b, a) cut
theorem turn_two (s : NS) (a b : Int) (cut : Bool) (h : s.turnErr a b cut = 0) : s.turn a b cut = turn1 (turn1 s (a, b) cut) (b, a) cut := by
  unfold NS.turn turn1
  rw [if_pos h]
  cases cut <;> simp

theorem index0 (a b : Int) (w : World) : (Instr.index 75 (.agg #[.int .i64 a, .int .i64 b, .int .i64 b, .int .i64 a]) (.int .i64 0)).run Try.prog w = .ok (.agg #[.int .i64 a, .int .i64 b]) w := by kernel_rfl
theorem index1 (a b : Int) (w : World) : (Instr.index 75 (.agg #[.int .i64 a, .int .i64 b, .int .i64 b, .int .i64 a]) (.int .i64 1)).run Try.prog w = .ok (.agg #[.int .i64 b, .int .i64 a]) w := by kernel_rfl

section
variable {w w' : World} {p bq bc n : Nat} {s : NS} {Vq : Int × Int → Value} {F : Nat → Prop}
theorem NetIn.same (h : NetIn w p bq bc n s Vq F) {F' : Nat → Prop} (hF : ∀ k, F' k ↔ F k) : NetIn w p bq bc n s Vq F' := by
  have : F' = F := funext fun k => propext (hF k)
  rw [this]
  exact h
/-- The line at way i cut, or not. -/
theorem NetIn.cutAt (h : NetIn w p bq bc n s Vq F) (i : Int × Int) (cut : Bool) (hg : w.grownBy w' (some bc))
    (hm : MapIs way w' Try.prog 59 (.bool false) bc (n + 1) (upd (fun j => .bool (s.c j)) i (.bool cut))) : NetIn w' p bq bc (n + 1) { s with c := upd s.c i cut } Vq F := by
  have hfr : ∀ k, F k → k ≠ bc → w'.heap[k]? = w.heap[k]? := fun k hf hne => hg.block k (h.lt k hf) (by simp [hne])
  obtain ⟨o1, o2, o3, o4⟩ := h.off
  refine ⟨(hfr p h.inF.1 o2).trans h.blk, (h.mq.kept (hfr bq h.inF.2.1 o3)).mono (by omega), hm.ext (fun j => ?_), fun j => ?_, h.far, h.inF, h.off, fun k hf => Nat.lt_of_lt_of_le (h.lt k hf) hg.size⟩
  · by_cases e : j = i
    · subst e; rw [upd_same]; show _ = Value.bool (upd s.c j cut j); rw [upd_same]
    · rw [upd_other _ _ _ _ e]; show _ = Value.bool (upd s.c i cut j); rw [upd_other _ _ _ _ e]
  · obtain ⟨A, c, hv, ho⟩ := h.row j
    exact ⟨A, c, hv, Own.kept ho (fun g hg' => hfr g (h.inF.2.2.2 j g (by rw [hv]; exact hg')) (o4 j g (by rw [hv]; exact hg')).2.2)⟩
theorem NetIn.clearAt (h : NetIn w p bq bc n s Vq F) (i : Int × Int) (hg : w.grownBy w' (some bq))
    (hm : MapIs way w' Try.prog 59 (.slice none 0 0) bq (n + 1) (upd Vq i (.slice none 0 0))) : NetIn w' p bq bc (n + 1) { s with q := upd s.q i [] } (upd Vq i (.slice none 0 0)) F := by
  refine (h.put (w' := w') i [] none 0 hg.size (fun k h1 h2 _ => hg.block k h1 (by simp [h2])) hm (Own.nil _ _ _ _) (fun g hg' => by cases hg')).same (fun k => ⟨.inl, fun h => ?_⟩)
  rcases h with h | h
  · exact h
  · cases h
end

set_option maxHeartbeats 4000000 in
theorem turn_any (p n : Nat) (s : NS) (F : Nat → Prop) (a b : Int) (cut : Bool) (w : World) (h : NetAt w p n s F) (ha : (Lit.int .i64 a).wf = true) (hb : (Lit.int .i64 b).wf = true) (hn : n + 4 < maxLen) :
    Calls Try.prog 33 #[.pointer (some ⟨p, 0, none⟩), .int .i64 a, .int .i64 b, .bool cut] w
      fun e w' => e = .returned (.int .i64 (s.turnErr a b cut)) ∧ NetAt w' p (n + 4) (s.turn a b cut) F ∧ Moved F w w' := by
  obtain ⟨bq, bc, Vq, h⟩ := h
  have hp : p < w.heap.size := h.lt p h.inF.1
  have c0 := h.c0
  have H := hide h
  clear h
  have NO : Hid (∀ k w2, k = s.turnErr a b cut → k ≠ 0 → Below w.heap.size w w2 → (Ending.returned (.int .i64 k) = .returned (.int .i64 (s.turnErr a b cut)) ∧ NetAt w2 p (n + 4) (s.turn a b cut) F ∧ Moved F w w2)) := by
    intro k w2 hk h0 hbw
    have e3 : s.turn a b cut = s := by unfold NS.turn; rw [if_neg (by rw [← hk]; exact h0)]
    rw [e3]
    exact ⟨by rw [hk], (NetAt.below ⟨bq, bc, Vq, H.out⟩ hbw).mono (by omega), Moved.of_below hbw⟩
  go_enter Try.func33, Try.ntmps33
  go_wp2_with fail
  refine (knows_any p s.N a b w c0).mono ?_
  rintro e w1 ⟨rfl, hb1⟩
  have K1 := hide (H.out.kept hb1.size (fun k hk => hb1.block k (H.out.lt k hk)))
  have B1 := hide hb1
  clear hb1 c0
  cases hk : knows s.N a b
  · have hr : s.turnErr a b cut = 1 := by unfold NS.turnErr; rw [if_pos hk]
    have HR := hide hr
    clear hr hk
    go_wp2
    go_ret
    exact NO.out 1 _ HR.out.symm (by decide) B1.out
  · have HKN := hide hk
    clear hk
    have d2 := K1.out.c2
    have hl := K1.out.lookC ha hb
    by_cases hc : s.c (a, b) = cut
    · have hr : s.turnErr a b cut = 11 := by unfold NS.turnErr; rw [if_neg (by rw [HKN.out]; simp), if_pos hc]
      have HR := hide hr
      have hcc : (s.c (a, b) == cut) = true := by simp [hc]
      clear hr hc
      go_wp2
      all_goals first | (exfalso; simp_all; done) | skip
      all_goals go_ret
      all_goals exact NO.out 11 _ HR.out.symm (by decide) B1.out
    · have hr : s.turnErr a b cut = 0 := by unfold NS.turnErr; rw [if_neg (by rw [HKN.out]; simp), if_neg hc]
      have HR := hide hr
      have hcc : (s.c (a, b) == cut) = false := by simp [hc]
      clear hr hc NO
      go_wp2
      clear hl d2 hcc
      go_loopw [34] (fun i wr => ∃ k : Nat, k ≤ 2 ∧ i = .int .i64 k ∧ ∃ Vq', NetIn wr p bq bc (n + 2 * k) (turnTo s a b cut k) Vq' F ∧ Moved F w wr) (fun i _ => 2 - (intOf i).toNat)
      case atStart => exact ⟨0, by omega, rfl, Vq, K1.out, Moved.of_below B1.out⟩
      case round =>
        obtain ⟨k, hk, rfl, Vq', hin, hm⟩ := hrel
        have KI := hide hin
        have KM := hide hm
        clear hin hm K1 B1
        have hx0 := index0
        have hx1 := index1
        rcases (by omega : k = 0 ∨ k = 1 ∨ k = 2) with rfl | rfl | rfl
        · cases cut
          · have K0 := hide (KI.out.kept (w' := (wr.alloc (.cells #[.int .i64 a, .int .i64 b] 59))) (by simp) (fun k hk => Below.heap_alloc _ _ _ (KI.out.lt k hk)))
            have m0 : (wr.alloc (.cells #[.int .i64 a, .int .i64 b] 59)).cell? ⟨wr.heap.size, 0, none⟩ = some (.int .i64 a) := by rw [World.cell?_alloc_at _ _ _ _ rfl]; rfl
            have m1 : (wr.alloc (.cells #[.int .i64 a, .int .i64 b] 59)).cell? ⟨wr.heap.size, 1, none⟩ = some (.int .i64 b) := by rw [World.cell?_alloc_at _ _ _ _ rfl]; rfl
            have M0 := hide m0
            have M1 := hide m1
            have BW : Hid (Below wr.heap.size wr (wr.alloc (.cells #[.int .i64 a, .int .i64 b] 59))) := hide ((Below.refl _ _).alloc (Nat.le_refl _) _)
            clear m0 m1
            go_wp2_with fail
            generalize wr.alloc (.cells #[.int .i64 a, .int .i64 b] 59) = w2 at K0 M0 M1 BW ⊢
            have f0 := M0.out
            have f1 := M1.out
            have f2 := K0.out.c2
            clear hx0 hx1
            go_still_tail 6, (by kernel_rfl)
            change wpList _ _ _ _ _ w2.drew
            have K0' : Hid (NetIn w2.drew p bq bc _ _ Vq' F) := hide (K0.out.kept (w' := w2.drew) (Nat.le_refl _) (fun _ _ => rfl))
            have g0 : w2.drew.cell? ⟨wr.heap.size, 0, none⟩ = some (.int .i64 a) := f0
            have g1 : w2.drew.cell? ⟨wr.heap.size, 1, none⟩ = some (.int .i64 b) := f1
            have BW' := hide (BW.out.drew)
            clear f0 f1 f2 M0 M1 K0 BW
            generalize w2.drew = w3 at K0' g0 g1 BW' ⊢
            go_wp2_with ((at_mapUpdate; refine wpList_update_is rfl _ _ _ 55 rfl _ keyed Try.underlying55 K0'.out.mc (by omega) way_inj rfl (a, b) rfl (key_some a b ha hb) (.bool false) rfl ?_; intro w4 hm4 hg4))
            have N4 := K0'.out.cutAt (a, b) false hg4 hm4
            have M4 := (KM.out.trans (Moved.of_below (F := F) BW'.out) (fun _ h => .inl h)).trans (Moved.of_grown (F := F) hg4 (fun g e => by cases e; exact KI.out.inF.2.2.1)) (fun _ h => .inl h)
            clear hm4 hg4
            refine ⟨⟨1, by omega, rfl, Vq', N4.mono (by omega), M4⟩, by simp [intOf]⟩
          · have K0 := hide (KI.out.kept (w' := (wr.alloc (.cells #[.int .i64 a, .int .i64 b] 59))) (by simp) (fun k hk => Below.heap_alloc _ _ _ (KI.out.lt k hk)))
            have m0 : (wr.alloc (.cells #[.int .i64 a, .int .i64 b] 59)).cell? ⟨wr.heap.size, 0, none⟩ = some (.int .i64 a) := by rw [World.cell?_alloc_at _ _ _ _ rfl]; rfl
            have m1 : (wr.alloc (.cells #[.int .i64 a, .int .i64 b] 59)).cell? ⟨wr.heap.size, 1, none⟩ = some (.int .i64 b) := by rw [World.cell?_alloc_at _ _ _ _ rfl]; rfl
            have M0 := hide m0
            have M1 := hide m1
            have BW : Hid (Below wr.heap.size wr (wr.alloc (.cells #[.int .i64 a, .int .i64 b] 59))) := hide ((Below.refl _ _).alloc (Nat.le_refl _) _)
            clear m0 m1
            go_wp2_with fail
            generalize wr.alloc (.cells #[.int .i64 a, .int .i64 b] 59) = w2 at K0 M0 M1 BW ⊢
            have f0 := M0.out
            have f1 := M1.out
            have f2 := K0.out.c2
            clear hx0 hx1
            go_still_tail 6, (by kernel_rfl)
            change wpList _ _ _ _ _ w2.drew
            have K0' : Hid (NetIn w2.drew p bq bc _ _ Vq' F) := hide (K0.out.kept (w' := w2.drew) (Nat.le_refl _) (fun _ _ => rfl))
            have g0 : w2.drew.cell? ⟨wr.heap.size, 0, none⟩ = some (.int .i64 a) := f0
            have g1 : w2.drew.cell? ⟨wr.heap.size, 1, none⟩ = some (.int .i64 b) := f1
            have BW' := hide (BW.out.drew)
            clear f0 f1 f2 M0 M1 K0 BW
            generalize w2.drew = w3 at K0' g0 g1 BW' ⊢
            go_wp2_with ((at_mapUpdate; refine wpList_update_is rfl _ _ _ 55 rfl _ keyed Try.underlying55 K0'.out.mc (by omega) way_inj rfl (a, b) rfl (key_some a b ha hb) (.bool true) rfl ?_; intro w4 hm4 hg4))
            have N4 := hide (K0'.out.cutAt (a, b) true hg4 hm4)
            have M4 := hide ((KM.out.trans (Moved.of_below (F := F) BW'.out) (fun _ h => .inl h)).trans (Moved.of_grown (F := F) hg4 (fun g e => by cases e; exact KI.out.inF.2.2.1)) (fun _ h => .inl h))
            have lb : wr.heap.size < w3.heap.size := World.block_lt_of_cell? w3 _ g0
            have h0 : wr.heap.size ≠ bc := fun e => by have := KI.out.lt bc KI.out.inF.2.2.1; omega
            have f0 := (World.cell?_of_block (a := ⟨wr.heap.size, 0, none⟩) (hg4.block wr.heap.size lb (by simp [h0]))).trans g0
            have f1 := (World.cell?_of_block (a := ⟨wr.heap.size, 1, none⟩) (hg4.block wr.heap.size lb (by simp [h0]))).trans g1
            have f2 := N4.out.c1
            clear hm4 hg4 lb h0 g0 g1
            go_still_tail 5, (by kernel_rfl)
            change wpList _ _ _ _ _ w4.drew
            have g0 : w4.drew.cell? ⟨wr.heap.size, 0, none⟩ = some (.int .i64 a) := f0
            have g1 : w4.drew.cell? ⟨wr.heap.size, 1, none⟩ = some (.int .i64 b) := f1
            have N5 : Hid (NetIn w4.drew p bq bc _ _ Vq' F) := hide (N4.out.kept (w' := w4.drew) (Nat.le_refl _) (fun _ _ => rfl))
            have M5 : Hid (Moved F w w4.drew) := M4.out.trans (Moved.of_below (F := F) (Below.refl _ _).drew) (fun _ h => .inl h)
            clear f0 f1 f2 N4 M4
            generalize w4.drew = w5 at N5 M5 g0 g1 ⊢
            go_wp2_with ((at_mapUpdate; refine wpList_update_is rfl _ _ _ 54 rfl _ keyed Try.underlying54 N5.out.mq (by omega) way_inj rfl (a, b) rfl (key_some a b ha hb) (.slice none 0 0) rfl ?_; intro w6 hm6 hg6))
            have N6 := N5.out.clearAt (a, b) hg6 hm6
            have M6 := M5.out.trans (Moved.of_grown (F := F) hg6 (fun g e => by cases e; exact N5.out.inF.2.1)) (fun _ h => .inl h)
            clear hm6 hg6
            refine ⟨⟨1, by omega, rfl, _, N6.mono (by omega), M6⟩, by simp [intOf]⟩
        · cases cut
          · have K0 := hide (KI.out.kept (w' := (wr.alloc (.cells #[.int .i64 b, .int .i64 a] 59))) (by simp) (fun k hk => Below.heap_alloc _ _ _ (KI.out.lt k hk)))
            have m0 : (wr.alloc (.cells #[.int .i64 b, .int .i64 a] 59)).cell? ⟨wr.heap.size, 0, none⟩ = some (.int .i64 b) := by rw [World.cell?_alloc_at _ _ _ _ rfl]; rfl
            have m1 : (wr.alloc (.cells #[.int .i64 b, .int .i64 a] 59)).cell? ⟨wr.heap.size, 1, none⟩ = some (.int .i64 a) := by rw [World.cell?_alloc_at _ _ _ _ rfl]; rfl
            have M0 := hide m0
            have M1 := hide m1
            have BW : Hid (Below wr.heap.size wr (wr.alloc (.cells #[.int .i64 b, .int .i64 a] 59))) := hide ((Below.refl _ _).alloc (Nat.le_refl _) _)
            clear m0 m1
            go_wp2_with fail
            generalize wr.alloc (.cells #[.int .i64 b, .int .i64 a] 59) = w2 at K0 M0 M1 BW ⊢
            have f0 := M0.out
            have f1 := M1.out
            have f2 := K0.out.c2
            clear hx0 hx1
            go_still_tail 6, (by kernel_rfl)
            change wpList _ _ _ _ _ w2.drew
            have K0' : Hid (NetIn w2.drew p bq bc _ _ Vq' F) := hide (K0.out.kept (w' := w2.drew) (Nat.le_refl _) (fun _ _ => rfl))
            have g0 : w2.drew.cell? ⟨wr.heap.size, 0, none⟩ = some (.int .i64 b) := f0
            have g1 : w2.drew.cell? ⟨wr.heap.size, 1, none⟩ = some (.int .i64 a) := f1
            have BW' := hide (BW.out.drew)
            clear f0 f1 f2 M0 M1 K0 BW
            generalize w2.drew = w3 at K0' g0 g1 BW' ⊢
            go_wp2_with ((at_mapUpdate; refine wpList_update_is rfl _ _ _ 55 rfl _ keyed Try.underlying55 K0'.out.mc (by omega) way_inj rfl (b, a) rfl (key_some b a hb ha) (.bool false) rfl ?_; intro w4 hm4 hg4))
            have N4 := K0'.out.cutAt (b, a) false hg4 hm4
            have M4 := (KM.out.trans (Moved.of_below (F := F) BW'.out) (fun _ h => .inl h)).trans (Moved.of_grown (F := F) hg4 (fun g e => by cases e; exact KI.out.inF.2.2.1)) (fun _ h => .inl h)
            clear hm4 hg4
            refine ⟨⟨2, by omega, rfl, Vq', N4.mono (by omega), M4⟩, by simp [intOf]⟩
          · have K0 := hide (KI.out.kept (w' := (wr.alloc (.cells #[.int .i64 b, .int .i64 a] 59))) (by simp) (fun k hk => Below.heap_alloc _ _ _ (KI.out.lt k hk)))
            have m0 : (wr.alloc (.cells #[.int .i64 b, .int .i64 a] 59)).cell? ⟨wr.heap.size, 0, none⟩ = some (.int .i64 b) := by rw [World.cell?_alloc_at _ _ _ _ rfl]; rfl
            have m1 : (wr.alloc (.cells #[.int .i64 b, .int .i64 a] 59)).cell? ⟨wr.heap.size, 1, none⟩ = some (.int .i64 a) := by rw [World.cell?_alloc_at _ _ _ _ rfl]; rfl
            have M0 := hide m0
            have M1 := hide m1
            have BW : Hid (Below wr.heap.size wr (wr.alloc (.cells #[.int .i64 b, .int .i64 a] 59))) := hide ((Below.refl _ _).alloc (Nat.le_refl _) _)
            clear m0 m1
            go_wp2_with fail
            generalize wr.alloc (.cells #[.int .i64 b, .int .i64 a] 59) = w2 at K0 M0 M1 BW ⊢
            have f0 := M0.out
            have f1 := M1.out
            have f2 := K0.out.c2
            clear hx0 hx1
            go_still_tail 6, (by kernel_rfl)
            change wpList _ _ _ _ _ w2.drew
            have K0' : Hid (NetIn w2.drew p bq bc _ _ Vq' F) := hide (K0.out.kept (w' := w2.drew) (Nat.le_refl _) (fun _ _ => rfl))
            have g0 : w2.drew.cell? ⟨wr.heap.size, 0, none⟩ = some (.int .i64 b) := f0
            have g1 : w2.drew.cell? ⟨wr.heap.size, 1, none⟩ = some (.int .i64 a) := f1
            have BW' := hide (BW.out.drew)
            clear f0 f1 f2 M0 M1 K0 BW
            generalize w2.drew = w3 at K0' g0 g1 BW' ⊢
            go_wp2_with ((at_mapUpdate; refine wpList_update_is rfl _ _ _ 55 rfl _ keyed Try.underlying55 K0'.out.mc (by omega) way_inj rfl (b, a) rfl (key_some b a hb ha) (.bool true) rfl ?_; intro w4 hm4 hg4))
            have N4 := hide (K0'.out.cutAt (b, a) true hg4 hm4)
            have M4 := hide ((KM.out.trans (Moved.of_below (F := F) BW'.out) (fun _ h => .inl h)).trans (Moved.of_grown (F := F) hg4 (fun g e => by cases e; exact KI.out.inF.2.2.1)) (fun _ h => .inl h))
            have lb : wr.heap.size < w3.heap.size := World.block_lt_of_cell? w3 _ g0
            have h0 : wr.heap.size ≠ bc := fun e => by have := KI.out.lt bc KI.out.inF.2.2.1; omega
            have f0 := (World.cell?_of_block (a := ⟨wr.heap.size, 0, none⟩) (hg4.block wr.heap.size lb (by simp [h0]))).trans g0
            have f1 := (World.cell?_of_block (a := ⟨wr.heap.size, 1, none⟩) (hg4.block wr.heap.size lb (by simp [h0]))).trans g1
            have f2 := N4.out.c1
            clear hm4 hg4 lb h0 g0 g1
            go_still_tail 5, (by kernel_rfl)
            change wpList _ _ _ _ _ w4.drew
            have g0 : w4.drew.cell? ⟨wr.heap.size, 0, none⟩ = some (.int .i64 b) := f0
            have g1 : w4.drew.cell? ⟨wr.heap.size, 1, none⟩ = some (.int .i64 a) := f1
            have N5 : Hid (NetIn w4.drew p bq bc _ _ Vq' F) := hide (N4.out.kept (w' := w4.drew) (Nat.le_refl _) (fun _ _ => rfl))
            have M5 : Hid (Moved F w w4.drew) := M4.out.trans (Moved.of_below (F := F) (Below.refl _ _).drew) (fun _ h => .inl h)
            clear f0 f1 f2 N4 M4
            generalize w4.drew = w5 at N5 M5 g0 g1 ⊢
            go_wp2_with ((at_mapUpdate; refine wpList_update_is rfl _ _ _ 54 rfl _ keyed Try.underlying54 N5.out.mq (by omega) way_inj rfl (b, a) rfl (key_some b a hb ha) (.slice none 0 0) rfl ?_; intro w6 hm6 hg6))
            have N6 := N5.out.clearAt (b, a) hg6 hm6
            have M6 := M5.out.trans (Moved.of_grown (F := F) hg6 (fun g e => by cases e; exact N5.out.inF.2.1)) (fun _ h => .inl h)
            clear hm6 hg6
            refine ⟨⟨2, by omega, rfl, _, N6.mono (by omega), M6⟩, by simp [intOf]⟩
        · go_wp2
          go_ret
          refine ⟨by rw [HR.out]; rfl, ⟨bq, bc, Vq', ?_⟩, KM.out⟩
          rw [turn_two s a b cut HR.out]
          exact KI.out

set_option maxHeartbeats 1000000 in
theorem cut_any (p n : Nat) (s : NS) (F : Nat → Prop) (a b : Int) (w : World) (h : NetAt w p n s F) (ha : (Lit.int .i64 a).wf = true) (hb : (Lit.int .i64 b).wf = true) (hn : n + 4 < maxLen) :
    Calls Try.prog 21 #[.pointer (some ⟨p, 0, none⟩), .int .i64 a, .int .i64 b] w
      fun e w' => e = .returned (.int .i64 (s.turnErr a b true)) ∧ NetAt w' p (n + 4) (s.turn a b true) F ∧ Moved F w w' := by
  have H := hide h
  clear h
  go_enter Try.func21, Try.ntmps21
  go_wp2_with fail
  refine (turn_any p n s F a b true w H.out ha hb hn).mono ?_
  rintro e w' ⟨rfl, h1, h2⟩
  have H1 := hide h1
  clear h1
  go_wp2
  go_ret
  exact ⟨rfl, H1.out, h2⟩

set_option maxHeartbeats 1000000 in
theorem heal_any (p n : Nat) (s : NS) (F : Nat → Prop) (a b : Int) (w : World) (h : NetAt w p n s F) (ha : (Lit.int .i64 a).wf = true) (hb : (Lit.int .i64 b).wf = true) (hn : n + 4 < maxLen) :
    Calls Try.prog 22 #[.pointer (some ⟨p, 0, none⟩), .int .i64 a, .int .i64 b] w
      fun e w' => e = .returned (.int .i64 (s.turnErr a b false)) ∧ NetAt w' p (n + 4) (s.turn a b false) F ∧ Moved F w w' := by
  have H := hide h
  clear h
  go_enter Try.func22, Try.ntmps22
  go_wp2_with fail
  refine (turn_any p n s F a b false w H.out ha hb hn).mono ?_
  rintro e w' ⟨rfl, h1, h2⟩
  have H1 := hide h1
  clear h1
  go_wp2
  go_ret
  exact ⟨rfl, H1.out, h2⟩

theorem turn_nil (a b : Int) (cut : Bool) (w : World) : Calls Try.prog 33 #[.pointer none, .int .i64 a, .int .i64 b, .bool cut] w fun e w' => e = .returned (.int .i64 1) ∧ Below w.heap.size w w' := by
  go_enter Try.func33, Try.ntmps33
  go_wp2_with fail
  refine (knows_nil a b w).mono ?_
  rintro e w1 ⟨rfl, hb1⟩
  have B1 := hide hb1
  clear hb1
  go_wp2
  go_ret
  exact ⟨rfl, B1.out⟩
theorem cut_nil (a b : Int) (w : World) : Calls Try.prog 21 #[.pointer none, .int .i64 a, .int .i64 b] w fun e w' => e = .returned (.int .i64 1) ∧ Below w.heap.size w w' := by
  go_enter Try.func21, Try.ntmps21
  go_wp2_with fail
  refine (turn_nil a b true w).mono ?_
  rintro e w1 ⟨rfl, hb1⟩
  have B1 := hide hb1
  clear hb1
  go_wp2
  go_ret
  exact ⟨rfl, B1.out⟩
theorem heal_nil (a b : Int) (w : World) : Calls Try.prog 22 #[.pointer none, .int .i64 a, .int .i64 b] w fun e w' => e = .returned (.int .i64 1) ∧ Below w.heap.size w w' := by
  go_enter Try.func22, Try.ntmps22
  go_wp2_with fail
  refine (turn_nil a b false w).mono ?_
  rintro e w1 ⟨rfl, hb1⟩
  have B1 := hide hb1
  clear hb1
  go_wp2
  go_ret
  exact ⟨rfl, B1.out⟩
theorem send_nil (a b : Int) (t : ByteArray) (w : World) : Calls Try.prog 12 #[.pointer none, .int .i64 a, .int .i64 b, .string t] w fun e w' => e = .returned (.int .i64 1) ∧ Below w.heap.size w w' := by
  have hb0 : Below w.heap.size w (w.alloc (.cells #[.int .i64 a, .int .i64 b] 59)) := (Below.refl _ _).alloc (Nat.le_refl _) _
  have B0 := hide hb0
  clear hb0
  go_enter Try.func12, Try.ntmps12
  go_wp2_with fail
  refine (knows_nil a b _).mono ?_
  rintro e w1 ⟨rfl, hb1⟩
  have B1 := hide (B0.out.trans (hb1.mono (by simp)))
  clear hb1 B0
  go_wp2
  go_ret
  exact ⟨rfl, B1.out⟩
end Go.Proofs.Ytnoihbbfodkejaa
