/-
  Chapter 54: (*Net).Send.
-/
import Derived.Test.YtnoihbbfodkejaaSlices
import Derived.Deep.RegionHeld3
import Derived.Deep.AppendLies
import Derived.Deep.Cut
import Derived.Deep.RegionLaw
namespace Go.Proofs.Ytnoihbbfodkejaa
open Go.RowKit Go.Maps

set_option maxHeartbeats 4000000 in
theorem send_any (p n : Nat) (s : NS) (F : Nat → Prop) (a b : Int) (t : ByteArray) (w : World) (h : NetAt w p n s F) (ha : (Lit.int .i64 a).wf = true) (hb : (Lit.int .i64 b).wf = true) (hn : n + 1 < maxLen) :
    Calls Try.prog 12 #[.pointer (some ⟨p, 0, none⟩), .int .i64 a, .int .i64 b, .string t] w
      fun e w' => e = .returned (.int .i64 (s.sendErr a b t)) ∧ ∃ F', NetAt w' p (n + 1) (s.send a b t) F' ∧ NetGo F F' w w' := by
  obtain ⟨bq, bc, Vq, h⟩ := h
  have hp : p < w.heap.size := h.lt p h.inF.1
  have hin0 := h.kept (w' := w.alloc (.cells #[.int .i64 a, .int .i64 b] 59)) (by simp) (fun k hk => Below.heap_alloc _ _ _ (h.lt k hk))
  have HK := hide hin0
  have HB : Hid (Below w.heap.size w (w.alloc (.cells #[.int .i64 a, .int .i64 b] 59))) := hide ((Below.refl _ _).alloc (Nat.le_refl _) _)
  have m0 : (w.alloc (.cells #[.int .i64 a, .int .i64 b] 59)).cell? ⟨w.heap.size, 0, none⟩ = some (.int .i64 a) := by rw [World.cell?_alloc_at _ _ _ _ rfl]; rfl
  have m1 : (w.alloc (.cells #[.int .i64 a, .int .i64 b] 59)).cell? ⟨w.heap.size, 1, none⟩ = some (.int .i64 b) := by rw [World.cell?_alloc_at _ _ _ _ rfl]; rfl
  have hsz : (w.alloc (.cells #[.int .i64 a, .int .i64 b] 59)).heap.size = w.heap.size + 1 := by simp
  have M0 := hide m0
  have M1 := hide m1
  have HS := hide hsz
  have H := hide h
  clear m0 m1 hsz h hin0
  go_enter Try.func12, Try.ntmps12
  go_wp2_with fail
  generalize hW : w.alloc (.cells #[.int .i64 a, .int .i64 b] 59) = w0 at HK HB M0 M1 HS ⊢
  clear hW
  refine (knows_any p s.N a b w0 HK.out.c0).mono ?_
  rintro e w1 ⟨rfl, hb1⟩
  have k1 := HK.out.kept hb1.size (fun k hk => hb1.block k (HK.out.lt k hk))
  have e0 := (hb1.cell (p := ⟨w.heap.size, 0, none⟩) (by rw [HS.out]; exact Nat.lt_succ_self _)).trans M0.out
  have e1 := (hb1.cell (p := ⟨w.heap.size, 1, none⟩) (by rw [HS.out]; exact Nat.lt_succ_self _)).trans M1.out
  have B1 := hide (HB.out.trans (hb1.mono (by rw [HS.out]; omega)))
  have S1 : Hid (w.heap.size < w1.heap.size) := hide (by have := hb1.size; rw [HS.out] at this; exact this)
  have K1 := hide k1
  clear hb1 HK HB M0 M1 HS k1
  have E : ∀ k, k = s.sendErr a b t → k ≠ 0 → ∀ w2, Below w.heap.size w w2 → (Ending.returned (.int .i64 k) = .returned (.int .i64 (s.sendErr a b t)) ∧ ∃ F', NetAt w2 p (n + 1) (s.send a b t) F' ∧ NetGo F F' w w2) := by
    intro k hk h0 w2 hbw
    refine ⟨by rw [hk], F, ?_, NetGo.of_below hbw⟩
    have : s.send a b t = s := by unfold NS.send; rw [if_neg (by rw [← hk]; exact h0)]
    rw [this]
    exact (NetAt.below ⟨bq, bc, Vq, H.out⟩ hbw).mono (by omega)
  have EE := hide E
  clear E
  cases hk : knows s.N a b
  · have hr : s.sendErr a b t = 1 := by simp [NS.sendErr, hk]
    have HR := hide hr
    clear hr hk
    go_wp2
    go_ret
    exact EE.out 1 HR.out.symm (by decide) _ B1.out
  · by_cases ht : (20000 : Int) < (t.size : Int)
    · have hr : s.sendErr a b t = 1 := by
        unfold NS.sendErr
        rw [if_pos (Or.inr (by omega))]
      have HR := hide hr
      clear hr hk
      go_wp2
      go_ret
      exact EE.out 1 HR.out.symm (by decide) _ B1.out
    · have d1 := K1.out.c1
      have d2 := K1.out.c2
      have hl2 : ∀ nq, (Instr.lookup 55 (.map (some bc)) (.agg #[.int .i64 a, .int .i64 b]) false).run Try.prog (w1.drewN nq) = .ok (.bool (s.c (a, b))) (w1.drewN nq) := fun nq =>
        (K1.out.kept (w' := w1.drewN nq) (Nat.le_refl _) (fun _ _ => rfl)).lookC ha hb
      have H2 := hide hl2
      clear hl2
      have HT : Hid (¬ 20000 < t.size) := hide (by omega)
      have HKN := hide hk
      clear hk
      go_wp2_with fail
      have hl2 := H2.out
      cases hc : s.c (a, b)
      · rw [hc] at hl2
        go_quiet (fail)
        clear hl2 H2
        have f0 : (w1.drewN nq).cell? ⟨w.heap.size, 0, none⟩ = some (.int .i64 a) := e0
        have f1 : (w1.drewN nq).cell? ⟨w.heap.size, 1, none⟩ = some (.int .i64 b) := e1
        have K2 := hide (K1.out.kept (w' := w1.drewN nq) (Nat.le_refl _) (fun _ _ => rfl))
        have B2 := hide (below_drewN B1.out nq)
        have S2 : Hid (w.heap.size < (w1.drewN nq).heap.size) := S1
        clear d1 d2 e0 e1
        generalize w1.drewN nq = w2 at f0 f1 K2 B2 S2 ⊢
        clear K1 B1 S1
        have HC := hide hc
        clear hc
        obtain ⟨A, c, hv, hown⟩ := K2.out.row (a, b)
        have d1 := K2.out.c1
        have hl1 : ∀ nq, (Instr.lookup 54 (.map (some bq)) (.agg #[.int .i64 a, .int .i64 b]) false).run Try.prog (w2.drewN nq) = .ok (.slice A (s.q (a, b)).length c) (w2.drewN nq) := fun nq => by
          rw [← hv]
          exact (K2.out.kept (w' := w2.drewN nq) (Nat.le_refl _) (fun _ _ => rfl)).lookQ ha hb
        have HV := hide hv
        have HO := hide hown
        have HL := hide hl1
        clear hv hown hl1
        go_wp2_with fail
        have hl1 := HL.out
        by_cases hfull : (100 : Int) ≤ ((s.q (a, b)).length : Int)
        · have hr : s.sendErr a b t = 29 := by
            unfold NS.sendErr
            rw [if_neg (by rw [HKN.out]; simp [HT.out]), if_neg (by rw [HC.out]; simp), if_pos (by omega)]
          have HR := hide hr
          clear hr
          go_quiet (fail)
          clear hl1 HL
          go_wp2
          go_ret
          exact EE.out 29 HR.out.symm (by decide) _ (below_drewN B2.out _)
        · have hfull' : ((s.q (a, b)).length : Int) < 100 := by omega
          have hr : s.sendErr a b t = 0 := by
            unfold NS.sendErr
            rw [if_neg (by rw [HKN.out]; simp [HT.out]), if_neg (by rw [HC.out]; simp), if_neg (by omega)]
          have HR := hide hr
          clear hr
          go_quiet (fail)
          clear hl1 HL d1
          have K3 := hide (K2.out.kept (w' := w2.drewN nq) (Nat.le_refl _) (fun _ _ => rfl))
          have B3 := hide (below_drewN B2.out nq)
          have S3 : Hid (w.heap.size < (w2.drewN nq).heap.size) := S2
          have f0' : (w2.drewN nq).cell? ⟨w.heap.size, 0, none⟩ = some (.int .i64 a) := f0
          have f1' : (w2.drewN nq).cell? ⟨w.heap.size, 1, none⟩ = some (.int .i64 b) := f1
          have HO3 : Hid (Own (w2.drewN nq) 0 9 1 A (s.q (a, b)).length c (strs (s.q (a, b)))) := HO
          clear f0 f1
          generalize w2.drewN nq = w3 at f0' f1' K3 B3 S3 HO3 ⊢
          clear K2 B2 S2 HO
          obtain ⟨i0, hi0, hz0, hz1, hz2⟩ := info_parts str_info
          obtain ⟨kl, hkl⟩ := Option.isSome_iff_exists.1 (key_some a b ha hb)
          obtain ⟨st, es1, clock1, hme, hst⟩ := K3.out.mq.entry (deep_law_laid (of_decide_eq_true (by kernel_rfl)) (m := 2) (by omega) (of_decide_eq_true (by kernel_rfl)) (by kernel_rfl) (by rw [Try.underlying59]))
            Try.underlying54 (by omega) zero_strs way_inj (a, b) hkl
          have hbq : bq < w3.heap.size := K3.out.lt bq K3.out.inF.2.1
          obtain ⟨W1, hW1⟩ : ∃ W, W = ChangeMaps.setBlock w3 bq (.map es1 clock1) := ⟨_, rfl⟩
          have hS1 : W1.heap.size = w3.heap.size := by rw [hW1]; exact setBlock_size _ _ _
          have hme0 : (Instr.mapEntry 54 (.map (some bq)) (.agg #[.int .i64 a, .int .i64 b])).run Try.prog w3.drew = .ok (.tuple #[.slice A (s.q (a, b)).length c, .int .i64 (st : Int)]) W1.drew := by
            have := hme w3.drew rfl
            rw [HV.out] at this
            rw [hW1]
            exact this
          have hme1 : ∀ o, (Instr.mapEntry 54 (.map (some bq)) (.agg #[.int .i64 a, .int .i64 b])).run Try.prog (w3.alloc o).drew = .ok (.tuple #[.slice A (s.q (a, b)).length c, .int .i64 (st : Int)]) (W1.alloc o).drew := fun o => by
            have := hme (w3.alloc o).drew (Below.heap_alloc w3 o bq hbq)
            rw [HV.out] at this
            rw [hW1, ← setBlock_alloc _ _ _ _ hbq]
            exact this
          have HST : Hid (∀ val, ∃ (es' : Array MapEntry) (clock' : Nat), (∀ u : World, u.heap[bq]? = some (.map es1 clock1) → (Instr.entryStore 54 (.map (some bq)) (.int .i64 (st : Int)) val).run Try.prog u = .ok () (ChangeMaps.setBlock u bq (.map es' clock'))) ∧
              ∀ u : World, u.heap[bq]? = some (.map es' clock') → MapIs way u Try.prog 59 (.slice none 0 0) bq (n + 1) (upd Vq (a, b) val)) := hst
          have hoff : ∀ g, (Value.slice A (s.q (a, b)).length c).ownBlock = some g → g ≠ bq ∧ g < w3.heap.size := fun g hg => by
            have : (Vq (a, b)).ownBlock = some g := by rw [HV.out]; exact hg
            exact ⟨(K3.out.off.2.2.2 _ g this).2.1, K3.out.lt g (K3.out.inF.2.2.2 _ g this)⟩
          have HO1 : Hid (Own W1 0 9 1 A (s.q (a, b)).length c (strs (s.q (a, b)))) := Own.kept HO3.out (fun g hg => by rw [hW1]; exact setBlock_far _ _ _ _ (hoff g hg).1)
          have HB1 : Hid (W1.heap[bq]? = some (.map es1 clock1)) := by rw [hW1]; exact setBlock_same _ _ _ hbq
          have HF1 : Hid (∀ k, k ≠ bq → W1.heap[k]? = w3.heap[k]?) := fun k hk => by rw [hW1]; exact setBlock_far _ _ _ _ hk
          have HN1 : Hid ((W1.alloc (.cells #[.string t] 9)).heap[w3.heap.size]? = some (.cells #[.string t] 9)) := by rw [← hS1]; exact heap_alloc_new W1 _
          have HOF : Hid (∀ g, (Value.slice A (s.q (a, b)).length c).ownBlock = some g → g ≠ bq ∧ g < w3.heap.size) := hoff
          have g0 : ∀ o, (w3.alloc o).cell? ⟨w.heap.size, 0, none⟩ = some (.int .i64 a) := fun o => (World.cell?_alloc_lt _ _ _ (by exact S3.out)).trans f0'
          have g1 : ∀ o, (w3.alloc o).cell? ⟨w.heap.size, 1, none⟩ = some (.int .i64 b) := fun o => (World.cell?_alloc_lt _ _ _ (by exact S3.out)).trans f1'
          have d1 := K3.out.c1
          have d1' : ∀ o, (w3.alloc o).cell? ⟨p, 1, none⟩ = some (.map (some bq)) := fun o => (World.cell?_alloc_lt _ _ _ (by exact K3.out.lt p K3.out.inF.1)).trans d1
          have HSW : Hid (W1.heap.size = w3.heap.size) := hS1
          have FIN : Hid (∀ (g cap : Nat) (w4 w5 : World) (es' : Array MapEntry) (clock' : Nat), Own w4 0 9 1 (some ⟨g, 0, none⟩) ((s.q (a, b)).length + 1) cap (strs (s.q (a, b)) ++ [.string t]) →
              (W1.alloc (.cells #[.string t] 9)).drew.grownBy w4 (Value.slice A (s.q (a, b)).length c).ownBlock → ((Value.slice A (s.q (a, b)).length c).ownBlock = some g ∨ g = w3.heap.size + 1) → w5 = ChangeMaps.setBlock w4 bq (.map es' clock') →
              (∀ u : World, u.heap[bq]? = some (.map es' clock') → MapIs way u Try.prog 59 (.slice none 0 0) bq (n + 1) (upd Vq (a, b) (.slice (some ⟨g, 0, none⟩) ((s.q (a, b)).length + 1) cap))) →
              Ending.returned (.int .i64 0) = .returned (.int .i64 (s.sendErr a b t)) ∧ ∃ F', NetAt w5 p (n + 1) (s.send a b t) F' ∧ NetGo F F' w w5) := by
            intro g cap w4 w5 es' clock' hown4 hgrow4 hat4 hw5 hmap
            have sz4 : w3.heap.size + 1 ≤ w4.heap.size := by
              have := hgrow4.size
              have e : (W1.alloc (.cells #[.string t] 9)).drew.heap.size = w3.heap.size + 1 := by rw [← hS1]; simp [World.drew]
              rw [e] at this
              exact this
            have hb4 : ∀ k, k < w3.heap.size → k ≠ bq → some k ≠ (Value.slice A (s.q (a, b)).length c).ownBlock → w4.heap[k]? = w3.heap[k]? := fun k h1 h2 h3 =>
              ((hgrow4.block k (by show k < (W1.alloc _).heap.size; simp; omega) h3).trans (Below.heap_alloc W1 _ k (by omega))).trans (HF1.out k h2)
            have hgbq : g ≠ bq := by
              rcases hat4 with h1 | h1
              · exact (hoff g h1).1
              · omega
            have hown5 : Own w5 0 9 1 (some ⟨g, 0, none⟩) (s.q (a, b) ++ [t]).length cap (strs (s.q (a, b) ++ [t])) := by
              rw [strs_append, List.length_append]
              refine Own.kept hown4 (fun g' hg' => ?_)
              have : g' = g := by simpa [Value.ownBlock] using hg'.symm
              rw [hw5, this]
              exact setBlock_far _ _ _ _ hgbq
            have hs : s.send a b t = { s with q := upd s.q (a, b) (s.q (a, b) ++ [t]) } := by unfold NS.send; rw [if_pos HR.out]
            have hbq4 : bq < w4.heap.size := by omega
            have hnet := K3.out.put (w' := w5) (a, b) (s.q (a, b) ++ [t]) (some ⟨g, 0, none⟩) cap (by rw [hw5, setBlock_size]; omega)
              (fun k h1 h2 h3 => by rw [hw5, setBlock_far _ _ _ _ h2]; exact hb4 k h1 h2 (by rw [← HV.out]; exact h3))
              (by rw [List.length_append]; exact hmap w5 (by rw [hw5]; exact setBlock_same _ _ _ hbq4)) hown5
              (fun g' hg' => by
                have : g' = g := by simpa [Value.ownBlock] using hg'.symm
                rw [this, HV.out]
                rcases hat4 with h1 | h1
                · exact .inl h1
                · exact .inr (by omega))
            refine ⟨by rw [HR.out], _, by rw [hs]; exact ⟨bq, bc, _, hnet⟩, ?_, ?_⟩
            · intro k hk
              rcases hk with hk | hk
              · exact .inl hk
              · have : k = g := by simpa [Value.ownBlock] using hk.symm
                rcases hat4 with h1 | h1
                · left
                  rw [this]
                  exact K3.out.inF.2.2.2 (a, b) g (by rw [HV.out]; exact h1)
                · right
                  have := S3.out
                  omega
            · have hm : Moved F w3 w5 := by
                refine ⟨?_, ?_, ?_, by rw [hw5, setBlock_size]; omega, fun k hk hf => ?_⟩
                · rw [hw5]
                  exact hgrow4.os.trans (by show W1.os = _; rw [hW1]; rfl)
                · rw [hw5]
                  exact hgrow4.tape.trans (by show W1.tape = _; rw [hW1]; rfl)
                · rw [hw5]
                  exact hgrow4.output.trans (by show W1.output = _; rw [hW1]; rfl)
                · have h1 : k ≠ bq := fun e => hf (by rw [e]; exact K3.out.inF.2.1)
                  rw [hw5, setBlock_far _ _ _ _ h1]
                  exact hb4 k hk h1 (fun e => hf (K3.out.inF.2.2.2 (a, b) k (by rw [HV.out]; exact e.symm)))
              exact (Moved.of_below B3.out).trans hm (fun _ h => .inl h)
          clear hW1 hme hst hoff EE
          go_wp2_with fail
          go_region_law ((refine step_append_lies _ (by rfl) _ _ _ (by rfl) 0 9 i0 _ 1 16 Try.underlying22 hi0 hz0 hz1 hz2 rfl (by omega) (.slice A (s.q (a, b)).length c) (s.q (a, b)).length (strs (s.q (a, b))) (by rfl) (Own.alloc HO1.out _) ⟨w3.heap.size, 0, none⟩ 1 1 [.string t] (by rfl) (by rfl) (World.news_of_block (cs := #[.string t]) (t := 9) (fr := (0, 0)) HN1.out) (by simp [Value.oneCell']) (by omega) (by unfold maxLen; omega) (by omega) (Nat.zero_le _) (w3.heap.size + 1) (by simp [HSW.out]) ?_; intro g cap w4 hown4 hgrow4 hat4 hlt4; obtain ⟨es', clock', hse0, hmap⟩ := HST.out (.slice (some ⟨g, 0, none⟩) ((s.q (a, b)).length + 1) cap); have hse := hse0 w4 ((hgrow4.block bq (by show bq < (W1.alloc _).heap.size; simp; have := HSW.out; omega) (fun e => (HOF.out bq e.symm).1 rfl)).trans ((Below.heap_alloc W1 _ bq (by have := HSW.out; omega)).trans HB1.out)); clear hse0))
          all_goals (clear hse; have RES := hide (FIN.out g cap w4 _ es' clock' hown4 hgrow4 hat4 rfl hmap); clear hmap hown4 hgrow4 FIN; generalize ChangeMaps.setBlock w4 bq (.map es' clock') = w5 at RES ⊢; go_wp2; go_ret; exact RES.out)
      · have hr : s.sendErr a b t = 18 := by
          unfold NS.sendErr
          rw [if_neg (by rw [HKN.out]; simp [HT.out]), if_pos hc]
        have HR := hide hr
        rw [hc] at hl2
        clear hr hc
        go_quiet (fail)
        clear hl2 H2
        go_wp2
        go_ret
        exact EE.out 18 HR.out.symm (by decide) _ (below_drewN B1.out _)
end Go.Proofs.Ytnoihbbfodkejaa
