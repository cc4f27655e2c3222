/-
  Chapter 54: (*Net).Waiting.
-/
import Derived.Test.YtnoihbbfodkejaaSlices
import Derived.StillTailTactics
namespace Go.Proofs.Ytnoihbbfodkejaa
open Go.RowKit Go.Maps

/-- What a function that returns texts, of its own memory, leaves. -/
def RetS (w : World) (xs : List ByteArray) (e : Ending) (w' : World) : Prop :=
  ∃ A c, e = .returned (.slice A xs.length c) ∧ Own w' w.heap.size 9 1 A xs.length c (strs xs) ∧ Below w.heap.size w w'

set_option maxHeartbeats 1000000 in
theorem waiting_nil (a b : Int) (w : World) : Calls Try.prog 15 #[.pointer none, .int .i64 a, .int .i64 b] w (RetS w []) := by
  go_enter Try.func15, Try.ntmps15
  go_wp2_with fail
  have hb0 : Below w.heap.size w (w.alloc (.cells #[.int .i64 a, .int .i64 b] 59)) := (Below.refl _ _).alloc (Nat.le_refl _) _
  refine (knows_nil a b _).mono ?_
  rintro e w1 ⟨rfl, hb1⟩
  have hb := hide (hb0.trans (hb1.mono (by simp)))
  clear hb0 hb1
  go_wp2
  go_ret
  exact ⟨none, 0, rfl, Own.nil _ _ _ _, hb.out⟩

set_option maxHeartbeats 2000000 in
theorem waiting_any (p n : Nat) (s : NS) (F : Nat → Prop) (a b : Int) (w : World) (h : NetAt w p n s F) (ha : (Lit.int .i64 a).wf = true) (hb : (Lit.int .i64 b).wf = true) (hq : s.Small) :
    Calls Try.prog 15 #[.pointer (some ⟨p, 0, none⟩), .int .i64 a, .int .i64 b] w (RetS w (s.waiting a b)) := by
  obtain ⟨bq, bc, Vq, h⟩ := h
  have hp : p < w.heap.size := h.lt p h.inF.1
  have hin0 := h.kept (w' := w.alloc (.cells #[.int .i64 a, .int .i64 b] 59)) (by simp) (fun k hk => Below.heap_alloc _ _ _ (h.lt k hk))
  have HK := hide hin0
  have HB : Hid (Below w.heap.size w (w.alloc (.cells #[.int .i64 a, .int .i64 b] 59))) := hide ((Below.refl _ _).alloc (Nat.le_refl _) _)
  have m0 : (w.alloc (.cells #[.int .i64 a, .int .i64 b] 59)).cell? ⟨w.heap.size, 0, none⟩ = some (.int .i64 a) := by rw [World.cell?_alloc_at _ _ _ _ rfl]; rfl
  have m1 : (w.alloc (.cells #[.int .i64 a, .int .i64 b] 59)).cell? ⟨w.heap.size, 1, none⟩ = some (.int .i64 b) := by rw [World.cell?_alloc_at _ _ _ _ rfl]; rfl
  have hsz : (w.alloc (.cells #[.int .i64 a, .int .i64 b] 59)).heap.size = w.heap.size + 1 := by simp
  have M0 := hide m0
  have M1 := hide m1
  have HS := hide hsz
  have HQ := hide (hq (a, b))
  clear m0 m1 hsz h hin0 hq
  go_enter Try.func15, Try.ntmps15
  go_wp2_with fail
  generalize hW : w.alloc (.cells #[.int .i64 a, .int .i64 b] 59) = w0 at HK HB M0 M1 HS ⊢
  clear hW
  refine (knows_any p s.N a b w0 HK.out.c0).mono ?_
  rintro e w1 ⟨rfl, hb1⟩
  have k1 := HK.out.kept hb1.size (fun k hk => hb1.block k (HK.out.lt k hk))
  have e0 := (hb1.cell (p := ⟨w.heap.size, 0, none⟩) (by rw [HS.out]; exact Nat.lt_succ_self _)).trans M0.out
  have e1 := (hb1.cell (p := ⟨w.heap.size, 1, none⟩) (by rw [HS.out]; exact Nat.lt_succ_self _)).trans M1.out
  have B1 := hide (HB.out.trans (hb1.mono (by rw [HS.out]; omega)))
  have K1 := hide k1
  clear hb1 HK HB M0 M1 HS k1
  cases hk : knows s.N a b
  · have hr : s.waiting a b = [] := by unfold NS.waiting; rw [hk]; rfl
    have HR := hide hr
    clear hr hk
    go_wp2
    go_ret
    rw [HR.out]
    exact ⟨none, 0, rfl, Own.nil _ _ _ _, B1.out⟩
  · have hr : s.waiting a b = s.q (a, b) := by unfold NS.waiting; rw [hk]; rfl
    have HR := hide hr
    clear hr hk
    obtain ⟨A, c, hv, hown⟩ := K1.out.row (a, b)
    have d1 := K1.out.c1
    have hl1 : ∀ nq, (Instr.lookup 54 (.map (some bq)) (.agg #[.int .i64 a, .int .i64 b]) false).run Try.prog (w1.drewN nq) = .ok (.slice A (s.q (a, b)).length c) (w1.drewN nq) := fun nq => by
      rw [← hv]
      exact (K1.out.kept (w' := w1.drewN nq) (Nat.le_refl _) (fun _ _ => rfl)).lookQ ha hb
    have hl2 : (Instr.lookup 54 (.map (some bq)) (.agg #[.int .i64 a, .int .i64 b]) false).run Try.prog w1.drew = .ok (.slice A (s.q (a, b)).length c) w1.drew := hl1 1
    have HO := hide hown
    clear hv hown hl1
    go_wp2_with fail
    go_still_tail 6, (by kernel_rfl)
    change wpList _ _ _ _ _ w1.drew
    have HO2 : Hid (Own w1.drew 0 9 1 A (s.q (a, b)).length c (strs (s.q (a, b)))) := HO
    have B2 := hide (B1.out.drew)
    clear hl2 d1 e0 e1 HO
    generalize w1.drew = w2 at HO2 B2 ⊢
    have HQ2 := HQ.out
    have hm1 : (s.q (a, b)).length ≤ maxLen := by unfold maxLen; omega
    have hm2 : (s.q (a, b)).length * 16 ≤ 140737488355328 := by omega
    have HM1 := hide hm1
    have HM2 := hide hm2
    clear hm1 hm2 HQ2
    go_wp2_with fail
    refine (clone_any A (s.q (a, b)).length c (s.q (a, b)) w2 (Own.reads HO2.out) HM1.out HM2.out).mono ?_
    rintro e w3 ⟨A', c', rfl, hown', hb3⟩
    have HO3 := hide hown'
    have HB3 := hide hb3
    clear hown' hb3
    go_wp2
    go_ret
    rw [HR.out]
    refine ⟨A', c', rfl, ?_, B2.out.trans (HB3.out.mono B2.out.size)⟩
    exact Own.base HO3.out B2.out.size
end Go.Proofs.Ytnoihbbfodkejaa
