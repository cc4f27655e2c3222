/-
  Chapter 54: (*Net).Deliver and the call that it defers.
-/
import Derived.Test.YtnoihbbfodkejaaWait
import Derived.Deep.RegionHeld3
import Derived.Shelf.SlSortCmp.QuietGrown
import Derived.BigQuiet
import Derived.Defers
import Derived.IntWalk
import Derived.WalkSpells
import Derived.StillTactics
import Derived.Laws.Pointers
namespace Go.Proofs.Ytnoihbbfodkejaa
open Go.RowKit Go.Maps

theorem delete_one (base g n c i : Nat) (xs : List ByteArray) (w : World) (h : Own w base 9 1 (some ⟨g, 0, none⟩) n c (strs xs)) (hi : i < n) :
    Calls Try.prog 25 #[.slice (some ⟨g, 0, none⟩) n c, .int .i64 (i : Int), .int .i64 ((i : Int) + 1)] w
      fun e w' => e = .returned (.slice (some ⟨g, 0, none⟩) (xs.eraseIdx i).length c) ∧ Own w' base 9 1 (some ⟨g, 0, none⟩) (xs.eraseIdx i).length c (strs (xs.eraseIdx i)) ∧ Moved (fun k => k = g) w w' := by
  have hlen : xs.length = n := by have := h.1; simpa [strs_length] using this
  have h1 := delete_any base g n c i (i + 1) xs w h (by omega) (by omega)
  rw [← List.eraseIdx_eq_take_drop_succ] at h1
  have e1 : (((i + 1 : Nat) : Int)) = (i : Int) + 1 := by omega
  have e2 : i + (n - (i + 1)) = (xs.eraseIdx i).length := by rw [List.length_eraseIdx, hlen, if_pos hi]; omega
  rw [e1, e2] at h1
  exact h1

set_option maxHeartbeats 4000000 in
theorem closure_d (p n nb wb ib i : Nat) (s : NS) (F : Nat → Prop) (a b : Int) (w : World) (h : NetAt w p n s F) (ha : (Lit.int .i64 a).wf = true) (hb : (Lit.int .i64 b).wf = true) (hn : n + 1 < maxLen) (hq : s.Small)
    (hi : i < (s.q (a, b)).length) (hnb : ¬ F nb) (hwb : ¬ F wb) (hib : ¬ F ib)
    (c0 : w.cell? ⟨nb, 0, none⟩ = some (.pointer (some ⟨p, 0, none⟩))) (c1 : w.cell? ⟨wb, 0, none⟩ = some (.int .i64 a)) (c2 : w.cell? ⟨wb, 1, none⟩ = some (.int .i64 b)) (c3 : w.cell? ⟨ib, 0, none⟩ = some (.int .i64 (i : Int))) :
    CallsD Try.prog 24 #[.pointer (some ⟨nb, 0, none⟩), .pointer (some ⟨wb, 0, none⟩), .pointer (some ⟨ib, 0, none⟩)] .returning w
      fun e u' w' => u' = .returning ∧ e = .returned (.tuple #[]) ∧ ∃ F', NetAt w' p (n + 1) { s with q := upd s.q (a, b) ((s.q (a, b)).eraseIdx i) } F' ∧ NetGo F F' w w' := by
  obtain ⟨bq, bc, Vq, h⟩ := h
  obtain ⟨A, c, hv, hown⟩ := h.row (a, b)
  have d1 := h.c1
  have hl : (Instr.lookup 54 (.map (some bq)) (.agg #[.int .i64 a, .int .i64 b]) false).run Try.prog w.drew = .ok (.slice A (s.q (a, b)).length c) w.drew := by
    rw [← hv]
    exact (h.kept (w' := w.drew) (Nat.le_refl _) (fun _ _ => rfl)).lookQ ha hb
  have hq1 := hq (a, b)
  have hw1 : IntKind.i64.wrap ((i : Int) + 1) = (i : Int) + 1 := by exact IntWalk.i64_in _ (by omega)
  have HH := hide h
  have HV := hide hv
  have HO := hide hown
  have HQ := hide hq1
  clear h hv hown hq hq1
  obtain ⟨S, hS⟩ : ∃ S : World → Prop, S = fun w' => w'.cell? ⟨nb, 0, none⟩ = some (.pointer (some ⟨p, 0, none⟩)) ∧ w'.cell? ⟨wb, 0, none⟩ = some (.int .i64 a) ∧ w'.cell? ⟨wb, 1, none⟩ = some (.int .i64 b) ∧
    w'.cell? ⟨ib, 0, none⟩ = some (.int .i64 (i : Int)) ∧ w'.cell? ⟨p, 1, none⟩ = some (.map (some bq)) := ⟨_, rfl⟩
  have bn : nb < w.heap.size := World.block_lt_of_cell? w _ c0
  have bw : wb < w.heap.size := World.block_lt_of_cell? w _ c1
  have bi : ib < w.heap.size := World.block_lt_of_cell? w _ c3
  have hp : p < w.heap.size := HH.out.lt p HH.out.inF.1
  have hbq : bq < w.heap.size := HH.out.lt bq HH.out.inF.2.1
  have S0 : S w := by rw [hS]; exact ⟨c0, c1, c2, c3, d1⟩
  have SS : ∀ w', (∀ k, k < w.heap.size → k ≠ bq → w'.heap[k]? = w.heap[k]?) → S w' := by
    intro w' hw
    rw [hS]
    have fb : ∀ k, ¬ F k → k ≠ bq := fun k hk e => hk (e ▸ HH.out.inF.2.1)
    exact ⟨(World.cell?_of_block (hw nb bn (fb nb hnb))).trans c0, (World.cell?_of_block (hw wb bw (fb wb hwb))).trans c1, (World.cell?_of_block (hw wb bw (fb wb hwb))).trans c2,
      (World.cell?_of_block (hw ib bi (fb ib hib))).trans c3, (World.cell?_of_block (hw p hp HH.out.off.1)).trans d1⟩
  have FIN : Hid (∀ (g c' : Nat) (w2 w3 : World), w.drew.heap.size ≤ g → Below w.drew.heap.size w.drew w2 → Own w3 w.drew.heap.size 9 1 (some ⟨g, 0, none⟩) ((s.q (a, b)).eraseIdx i).length c' (strs ((s.q (a, b)).eraseIdx i)) →
      Moved (fun k => k = g) w2 w3 → ∃ w4, (Instr.mapUpdate 54 (.map (some bq)) (.agg #[.int .i64 a, .int .i64 b]) (.slice (some ⟨g, 0, none⟩) ((s.q (a, b)).eraseIdx i).length c')).run Try.prog w3 = .ok () w4 ∧ S w4 ∧
        ∃ F', NetAt w4 p (n + 1) { s with q := upd s.q (a, b) ((s.q (a, b)).eraseIdx i) } F' ∧ NetGo F F' w w4) := by
    intro g c' w2 w3 hg hb2 hown3 hm3
    have hg' : w.heap.size ≤ g := hg
    obtain ⟨kl, hkl⟩ := Option.isSome_iff_exists.1 (key_some a b ha hb)
    have h3 : ∀ k, k < w.heap.size → w3.heap[k]? = w.heap[k]? := fun k hk => (hm3.block k (Nat.lt_of_lt_of_le hk hb2.size) (by omega)).trans (hb2.block k hk)
    have hs3 : w.heap.size ≤ w3.heap.size := Nat.le_trans hb2.size hm3.size
    obtain ⟨w4, hrun, hmap, hgr⟩ := (HH.out.mq.kept (h3 bq hbq)).update keyed Try.underlying54 (by omega) way_inj (a, b) (.slice (some ⟨g, 0, none⟩) ((s.q (a, b)).eraseIdx i).length c') hkl
    have h4 : ∀ k, k < w.heap.size → k ≠ bq → w4.heap[k]? = w.heap[k]? := fun k hk hne => (hgr.block k (Nat.lt_of_lt_of_le hk hs3) (by simp [hne])).trans (h3 k hk)
    refine ⟨w4, hrun, SS w4 h4, _, ⟨bq, bc, _, HH.out.put (w' := w4) (a, b) ((s.q (a, b)).eraseIdx i) (some ⟨g, 0, none⟩) c' (Nat.le_trans hs3 hgr.size) (fun k h1 h2 _ => h4 k h1 h2) hmap ?_ ?_⟩, ?_, ?_⟩
    · refine Own.base (Own.kept hown3 (fun g' hg2 => ?_)) (Nat.zero_le _)
      have e : g' = g := by simpa [Value.ownBlock] using hg2.symm
      have : g' < w3.heap.size := by rw [e]; exact (hown3.lt g rfl).2
      exact hgr.block g' this (by simp; omega)
    · intro g' hg2
      have e : g' = g := by simpa [Value.ownBlock] using hg2.symm
      exact .inr (by omega)
    · intro k hk
      rcases hk with hk | hk
      · exact .inl hk
      · have e : k = g := by simpa [Value.ownBlock] using hk.symm
        exact .inr (by omega)
    · exact ⟨hgr.os.trans (hm3.os.trans hb2.os), hgr.tape.trans (hm3.tape.trans hb2.tape), hgr.output.trans (hm3.output.trans hb2.output), Nat.le_trans hs3 hgr.size, fun k hk hf => h4 k hk (fun e => hf (e ▸ HH.out.inF.2.1))⟩
  have SB : Hid (∀ w2, Below w.drew.heap.size w.drew w2 → S w2) := fun w2 hb2 => SS w2 (fun k hk _ => hb2.block k hk)
  have SM : Hid (∀ g w2 w3, w.drew.heap.size ≤ g → Below w.drew.heap.size w.drew w2 → Moved (fun k => k = g) w2 w3 → S w3) := fun g w2 w3 hg hb2 hm3 => SS w3 (fun k hk _ => (hm3.block k (Nat.lt_of_lt_of_le hk hb2.size) (by have : w.heap.size ≤ g := hg; omega)).trans (hb2.block k hk))
  have HR2 : Hid (Reads w.drew w.drew.heap.size 1 A (s.q (a, b)).length (strs (s.q (a, b)))) := Own.reads HO.out
  have HM1 : Hid ((s.q (a, b)).length ≤ maxLen) := by have := HQ.out; show _ ≤ maxLen; unfold maxLen; omega
  have HM2 : Hid ((s.q (a, b)).length * 16 ≤ 140737488355328) := by have := HQ.out; show _ ≤ _; omega
  have HI := hide hi
  have SD : Hid (S w.drew) := SS w.drew (fun _ _ _ => rfl)
  subst hS
  clear S0 SS hi c0 c1 c2 c3 d1
  go_enter_d Try.func24, Try.ntmps24
  go_wp2_with fail
  go_region_held3 (fun w' => w'.cell? ⟨nb, 0, none⟩ = some (.pointer (some ⟨p, 0, none⟩)) ∧ w'.cell? ⟨wb, 0, none⟩ = some (.int .i64 a) ∧ w'.cell? ⟨wb, 1, none⟩ = some (.int .i64 b) ∧ w'.cell? ⟨ib, 0, none⟩ = some (.int .i64 (i : Int)) ∧ w'.cell? ⟨p, 1, none⟩ = some (.map (some bq)))
    (first | exact SD.out | exact SK4.out | exact SK3.out | exact SK2.out)
    (first
      | (go_at_call 26; refine (clone_any A (s.q (a, b)).length c (s.q (a, b)) w.drew HR2.out HM1.out HM2.out).mono ?_; rintro e w2 ⟨A', c', rfl, hown2, hb2⟩; obtain ⟨g, rfl, hg2, _, _, _⟩ := Own.at_ hown2 HI.out; have SK2 := hide (SB.out w2 hb2); have HOWN2 := hide hown2; have HB2 := hide hb2; have HG2 := hide hg2; clear hown2 hb2 hg2)
      | (go_at_call 25; refine (delete_one w.drew.heap.size g (s.q (a, b)).length c' i (s.q (a, b)) w2 HOWN2.out HI.out).mono ?_; rintro e w3 ⟨rfl, hown3, hm3⟩; have SK3 := hide (SM.out g w2 w3 HG2.out HB2.out hm3); obtain ⟨w4, hup, hsk4, hfin⟩ := FIN.out g c' w2 w3 HG2.out HB2.out hown3 hm3; have SK4 := hide hsk4; have HFIN := hide hfin; clear hown3 hm3 hsk4 hfin))
  clear hup hl
  go_wp2
  go_end0
  first | exact ⟨rfl, rfl, HFIN.out⟩ | exact ⟨rfl, HFIN.out⟩ | exact HFIN.out

set_option maxHeartbeats 4000000 in
theorem deliver_any (p n : Nat) (s : NS) (F : Nat → Prop) (a b i : Int) (lost again : Bool) (w : World) (h : NetAt w p n s F) (ha : (Lit.int .i64 a).wf = true) (hb : (Lit.int .i64 b).wf = true) (hn : n + 1 < maxLen) (hq : s.Small) :
    Calls Try.prog 13 #[.pointer (some ⟨p, 0, none⟩), .int .i64 a, .int .i64 b, .int .i64 i, .bool lost, .bool again] w
      fun e w' => e = .returned (.tuple #[.string (s.dText a b i lost), .bool (s.dOk a b i lost)]) ∧ ∃ F', NetAt w' p (n + 1) (s.deliver a b i lost again) F' ∧ NetGo F F' w w' := by
  obtain ⟨bq, bc, Vq, h⟩ := h
  have hp : p < w.heap.size := h.lt p h.inF.1
  have hW0 : Below w.heap.size w (((w.alloc (.cells #[.pointer (some ⟨p, 0, none⟩)] 25)).alloc (.cells #[.int .i64 i] 3)).alloc (.cells #[.int .i64 a, .int .i64 b] 59)) :=
    (((Below.refl _ _).alloc (Nat.le_refl _) _).alloc (by simp) _).alloc (by simp; omega) _
  have c0 : (((w.alloc (.cells #[.pointer (some ⟨p, 0, none⟩)] 25)).alloc (.cells #[.int .i64 i] 3)).alloc (.cells #[.int .i64 a, .int .i64 b] 59)).cell? ⟨w.heap.size, 0, none⟩ = some (.pointer (some ⟨p, 0, none⟩)) := by
    rw [World.cell?_alloc_lt _ _ _ (by simp; omega), World.cell?_alloc_lt _ _ _ (by simp), World.cell?_alloc_at _ _ _ _ rfl]; rfl
  have c3 : (((w.alloc (.cells #[.pointer (some ⟨p, 0, none⟩)] 25)).alloc (.cells #[.int .i64 i] 3)).alloc (.cells #[.int .i64 a, .int .i64 b] 59)).cell? ⟨w.heap.size + 1, 0, none⟩ = some (.int .i64 i) := by
    rw [World.cell?_alloc_lt _ _ _ (by simp), World.cell?_alloc_at _ _ _ _ (by simp)]; rfl
  have c1 : (((w.alloc (.cells #[.pointer (some ⟨p, 0, none⟩)] 25)).alloc (.cells #[.int .i64 i] 3)).alloc (.cells #[.int .i64 a, .int .i64 b] 59)).cell? ⟨w.heap.size + 1 + 1, 0, none⟩ = some (.int .i64 a) := by
    rw [World.cell?_alloc_at _ _ _ _ (by simp)]; rfl
  have c2 : (((w.alloc (.cells #[.pointer (some ⟨p, 0, none⟩)] 25)).alloc (.cells #[.int .i64 i] 3)).alloc (.cells #[.int .i64 a, .int .i64 b] 59)).cell? ⟨w.heap.size + 1 + 1, 1, none⟩ = some (.int .i64 b) := by
    rw [World.cell?_alloc_at _ _ _ _ (by simp)]; rfl
  have hsz : (((w.alloc (.cells #[.pointer (some ⟨p, 0, none⟩)] 25)).alloc (.cells #[.int .i64 i] 3)).alloc (.cells #[.int .i64 a, .int .i64 b] 59)).heap.size = w.heap.size + 3 := by simp
  have k0 := h.kept hW0.size (fun k hk => hW0.block k (h.lt k hk))
  have HB := hide hW0
  have C0 := hide c0
  have C1 := hide c1
  have C2 := hide c2
  have C3 := hide c3
  have HS := hide hsz
  have K0 := hide k0
  have H := hide h
  have HQ := hide hq
  clear hW0 c0 c1 c2 c3 hsz k0 h hq
  have NO : Hid (∀ w2, s.hit a b i = false → Below w.heap.size w w2 → (Ending.returned (.tuple #[.string ⟨#[]⟩, .bool false]) = .returned (.tuple #[.string (s.dText a b i lost), .bool (s.dOk a b i lost)]) ∧ ∃ F', NetAt w2 p (n + 1) (s.deliver a b i lost again) F' ∧ NetGo F F' w w2)) := by
    intro w2 hh hbw
    have e1 : s.dOk a b i lost = false := by unfold NS.dOk; rw [hh]; rfl
    have e2 : s.dText a b i lost = ByteArray.empty := by unfold NS.dText; rw [e1]; rfl
    have e3 : s.deliver a b i lost again = s := by unfold NS.deliver; rw [if_neg (by rw [hh]; simp)]
    rw [e1, e2, e3]
    exact ⟨rfl, F, (NetAt.below ⟨bq, bc, Vq, H.out⟩ hbw).mono (by omega), NetGo.of_below hbw⟩
  obtain ⟨A, c, hv, hown⟩ := K0.out.row (a, b)
  have HV := hide hv
  clear hv hown
  go_enter_defers Try.func13, Try.ntmps13
  go_wp2_with fail
  generalize hW : ((w.alloc (.cells #[.pointer (some ⟨p, 0, none⟩)] 25)).alloc (.cells #[.int .i64 i] 3)).alloc (.cells #[.int .i64 a, .int .i64 b] 59) = w1 at HB C0 C1 C2 C3 HS K0 ⊢
  clear hW
  have g0 : ∀ n os, (Sort.grow (w1.drewN n) os).cell? ⟨w.heap.size, 0, none⟩ = some (.pointer (some ⟨p, 0, none⟩)) := fun n os => cell_grown (by rw [HS.out]; show w.heap.size < _; omega) C0.out n os
  have g1 : ∀ n os, (Sort.grow (w1.drewN n) os).cell? ⟨w.heap.size + 1 + 1, 0, none⟩ = some (.int .i64 a) := fun n os => cell_grown (by rw [HS.out]; show w.heap.size + 1 + 1 < _; omega) C1.out n os
  have g2 : ∀ n os, (Sort.grow (w1.drewN n) os).cell? ⟨w.heap.size + 1 + 1, 1, none⟩ = some (.int .i64 b) := fun n os => cell_grown (by rw [HS.out]; show w.heap.size + 1 + 1 < _; omega) C2.out n os
  have g3 : ∀ n os, (Sort.grow (w1.drewN n) os).cell? ⟨w.heap.size + 1, 0, none⟩ = some (.int .i64 i) := fun n os => cell_grown (by rw [HS.out]; show w.heap.size + 1 < _; omega) C3.out n os
  have g4 : ∀ n os, (Sort.grow (w1.drewN n) os).cell? ⟨p, 1, none⟩ = some (.map (some bq)) := fun n os => cell_grown (by rw [HS.out]; show p < _; omega) K0.out.c1 n os
  have GB : Hid (∀ n os, Below w1.heap.size w1 (Sort.grow (w1.drewN n) os)) := fun n os => ⟨rfl, rfl, rfl, by simp, fun k hk => Sort.heap_grow_old (w1.drewN n) os hk⟩
  have gl : ∀ n os, (Instr.lookup 54 (.map (some bq)) (.agg #[.int .i64 a, .int .i64 b]) false).run Try.prog (Sort.grow (w1.drewN n) os) = .ok (.slice A (s.q (a, b)).length c) (Sort.grow (w1.drewN n) os) := by
    intro n os
    have := (K0.out.kept (w' := Sort.grow (w1.drewN n) os) (GB.out n os).size (fun k hk => (GB.out n os).block k (K0.out.lt k hk))).lookQ ha hb
    rw [HV.out] at this
    exact this
  have HKN0 : Hid (∀ n os, Calls Try.prog 23 #[.pointer (some ⟨p, 0, none⟩), .agg #[.int .i64 a, .int .i64 b]] (Sort.grow (w1.drewN n) os) fun e w'' => e = .returned (.bool (knows s.N a b)) ∧ ∃ q os', w'' = Sort.grow ((Sort.grow (w1.drewN n) os).drewN q) os') := fun n os =>
    (knows_lays p s.N a b _ (cell_grown (by rw [HS.out]; show p < _; omega) K0.out.c0 n os)).mono fun _ _ ⟨he, o1, o2, hw⟩ => ⟨he, 0, #[o1, o2], by rw [hw, Sort.alloc_eq_grow, Sort.alloc_eq_grow, Sort.grow_grow]; rfl⟩
  have G0 := hide g0
  have G1 := hide g1
  have G2 := hide g2
  have G3 := hide g3
  have G4 := hide g4
  have BB : Hid (∀ n os, Below w.heap.size w (Sort.grow (w1.drewN n) os)) := fun n os => HB.out.trans ((GB.out n os).mono (by rw [HS.out]; omega))
  cases hk : knows s.N a b
  · have hh : s.hit a b i = false := by unfold NS.hit; rw [hk]; rfl
    have HKN1 := HKN0.out
    rw [hk] at HKN1
    have HKN := hide HKN1
    have HH := hide hh
    clear hk hh HKN1
    refine wp_region_quiet_grown (by kernel_rfl) (by kernel_rfl) ?_
    repeat (go_big_quiet_step ((go_at_call 23; exact Calls.grown_of (HKN.out _ _))))
    refine wpQuiet_nil ?_
    intro _ hw'
    obtain ⟨⟨nq, osq⟩, hw''⟩ := hw'
    subst hw''
    clear g0 g1 g2 g3 g4 gl
    go_wp2
    refine ⟨_, results_tmp2 rfl _ _ _, ?_⟩
    exact NO.out _ HH.out (BB.out _ _)
  · have HKN1 := HKN0.out
    rw [hk] at HKN1
    have HKN := hide HKN1
    clear HKN1
    by_cases hi0 : i < 0
    · have hh : s.hit a b i = false := by
        unfold NS.hit
        rw [hk]
        simp
        omega
      have HH := hide hh
      clear hh hk
      refine wp_region_quiet_grown (by kernel_rfl) (by kernel_rfl) ?_
      repeat (go_big_quiet_step ((go_at_call 23; exact Calls.grown_of (HKN.out _ _))))
      refine wpQuiet_nil ?_
      intro _ hw'
      obtain ⟨⟨nq, osq⟩, hw''⟩ := hw'
      subst hw''
      clear g0 g1 g2 g3 g4 gl
      go_wp2
      refine ⟨_, results_tmp2 rfl _ _ _, ?_⟩
      exact NO.out _ HH.out (BB.out _ _)
    · have hi0' : 0 ≤ i := by omega
      by_cases hi1 : ((s.q (a, b)).length : Int) ≤ i
      · have hh : s.hit a b i = false := by
          unfold NS.hit
          rw [hk]
          simp
          omega
        have HH := hide hh
        clear hh hk
        refine wp_region_quiet_grown (by kernel_rfl) (by kernel_rfl) ?_
        repeat (go_big_quiet_step ((go_at_call 23; exact Calls.grown_of (HKN.out _ _))))
        refine wpQuiet_nil ?_
        intro _ hw'
        obtain ⟨⟨nq, osq⟩, hw''⟩ := hw'
        subst hw''
        clear g0 g1 g2 g3 g4 gl
        go_wp2
        refine ⟨_, results_tmp2 rfl _ _ _, ?_⟩
        exact NO.out _ HH.out (BB.out _ _)
      · have hi1' : i < ((s.q (a, b)).length : Int) := by omega
        have hh : s.hit a b i = true := by
          unfold NS.hit
          rw [hk]
          simp
          omega
        have HH := hide hh
        clear hh hk
        refine wp_region_quiet_grown (by kernel_rfl) (by kernel_rfl) ?_
        repeat (go_big_quiet_step ((go_at_call 23; exact Calls.grown_of (HKN.out _ _))))
        refine wpQuiet_nil ?_
        intro _ hw'
        obtain ⟨⟨nq, osq⟩, hw''⟩ := hw'
        subst hw''
        clear g0 g1 g2 g3 g4 gl
        obtain ⟨iN, hiN⟩ : ∃ iN : Nat, i = (iN : Int) := ⟨i.toNat, by omega⟩
        subst hiN
        have hlt : iN < (s.q (a, b)).length := by omega
        have K2 := hide (K0.out.kept (w' := Sort.grow (w1.drewN nq) osq) (GB.out nq osq).size (fun k hk => (GB.out nq osq).block k (K0.out.lt k hk)))
        have B2 := hide (BB.out nq osq)
        have D0 := hide (G0.out nq osq)
        have D1 := hide (G1.out nq osq)
        have D2 := hide (G2.out nq osq)
        have D3 := hide (G3.out nq osq)
        have D4 := hide (G4.out nq osq)
        have HLT := hide hlt
        clear G0 G1 G2 G3 G4 GB BB HKN HKN0 hlt
        generalize Sort.grow (w1.drewN nq) osq = w2 at K2 B2 D0 D1 D2 D3 D4 ⊢
        clear C0 C1 C2 C3 HS K0 HB
        -- the door, with the call that is deferred
        have DOOR : Hid (∀ w3, Below w2.heap.size w2 w3 → (lost = true ∨ again = false) → CallsD Try.prog 24 #[.pointer (some ⟨w.heap.size, 0, none⟩), .pointer (some ⟨w.heap.size + 1 + 1, 0, none⟩), .pointer (some ⟨w.heap.size + 1, 0, none⟩)] .returning w3
            fun e u' w' => u' = .returning ∧ e = .returned (.tuple #[]) ∧ ∃ F', NetAt w' p (n + 1) (s.deliver a b (iN : Int) lost again) F' ∧ NetGo F F' w w') := by
          intro w3 hb3 hl
          have l0 := World.block_lt_of_cell? w2 _ D0.out
          have l1 := World.block_lt_of_cell? w2 _ D1.out
          have l3 := World.block_lt_of_cell? w2 _ D3.out
          have nf : ∀ k, w.heap.size ≤ k → ¬ F k := fun k hk hf => by have := H.out.lt k hf; omega
          have hd : s.deliver a b (iN : Int) lost again = { s with q := upd s.q (a, b) ((s.q (a, b)).eraseIdx iN) } := by
            unfold NS.deliver
            rw [if_pos ⟨HH.out, hl⟩]
            rfl
          refine (closure_d p n w.heap.size (w.heap.size + 1 + 1) (w.heap.size + 1) iN s F a b w3 (NetAt.below ⟨bq, bc, Vq, K2.out⟩ hb3) ha hb hn HQ.out HLT.out (nf _ (by omega)) (nf _ (by omega)) (nf _ (by omega))
            ((hb3.cell l0).trans D0.out) ((hb3.cell l1).trans D1.out) ((hb3.cell (p := ⟨w.heap.size + 1 + 1, 1, none⟩) l1).trans D2.out) ((hb3.cell l3).trans D3.out)).mono ?_
          rintro e u' w' ⟨h1, h2, F', h3, h4⟩
          refine ⟨h1, h2, F', by rw [hd]; exact h3, (NetGo.of_below (B2.out.trans (hb3.mono B2.out.size))).trans h4⟩
        have hOK : s.dOk a b (iN : Int) lost = !lost := by unfold NS.dOk; rw [HH.out]; rfl
        have HOK := hide hOK
        clear hOK
        have hmf : ∀ (fn : Fn) (first cap : Array Value) (w : World), (Instr.makeFunc fn first cap).run Try.prog w = .ok (.func fn first cap) w := fun _ _ _ _ => rfl
        cases lost
        · have HTX : Hid (s.dText a b (iN : Int) false = (s.q (a, b)).getD iN ByteArray.empty) := by
            show s.dText a b (iN : Int) false = _
            unfold NS.dText
            rw [if_pos (by rw [HOK.out]; rfl)]
            rfl
          have hl1 : ∀ nq, (Instr.lookup 54 (.map (some bq)) (.agg #[.int .i64 a, .int .i64 b]) false).run Try.prog (w2.drewN nq) = .ok (.slice A (s.q (a, b)).length c) (w2.drewN nq) := fun nq => by
            have := (K2.out.kept (w' := w2.drewN nq) (Nat.le_refl _) (fun _ _ => rfl)).lookQ ha hb
            rw [HV.out] at this
            exact this
          obtain ⟨A', c', hv', ho'⟩ := K2.out.row (a, b)
          rw [HV.out] at hv'
          injection hv' with e1 _ e3
          subst e1; subst e3
          obtain ⟨g, rfl, _, _, hcell, _⟩ := Own.at_ ho' HLT.out
          have hcell' : w2.cell? ⟨g, iN, none⟩ = some (.string ((s.q (a, b)).getD iN ByteArray.empty)) := by
            rw [hcell]
            simp [strs, HLT.out]
          clear hcell ho'
          cases again
          · go_wp2_with fail
            have d0 := D0.out
            have d1 := D1.out
            have d2 := D2.out
            have d3 := D3.out
            have d4 := D4.out
            go_quiet (fail)
            clear d0 d1 d2 d3 d4 hl1
            have B3 := hide (B2.out.trans ((drewN_below w2.heap.size w2 nq).mono B2.out.size))
            have D3' := hide (DOOR.out (w2.drewN nq) (drewN_below _ _ _) (.inr (by simp)))
            clear DOOR
            go_wp2
            refine leaves_cons (f := 24) (args := #[.pointer (some ⟨w.heap.size, 0, none⟩), .pointer (some ⟨w.heap.size + 1 + 1, 0, none⟩), .pointer (some ⟨w.heap.size + 1, 0, none⟩)]) (by simp) (by simp [go_sem]) ?_
            refine D3'.out.mono ?_
            rintro e u' w'' ⟨rfl, rfl, hfin⟩
            refine ⟨_, results_tmp2 rfl _ _ _, ?_⟩
            rw [HTX.out, HOK.out]
            exact ⟨rfl, hfin⟩
          · go_wp2_with fail
            have d0 := D0.out
            have d1 := D1.out
            have d2 := D2.out
            have d3 := D3.out
            have d4 := D4.out
            go_quiet (fail)
            clear d0 d1 d2 d3 d4 hl1 DOOR
            have B3 := hide (B2.out.trans ((drewN_below w2.heap.size w2 nq).mono B2.out.size))
            go_wp2
            refine ⟨_, results_tmp2 rfl _ _ _, ?_⟩
            have hd : s.deliver a b (iN : Int) false true = s := by unfold NS.deliver; rw [if_neg (by simp)]
            rw [HTX.out, HOK.out, hd]
            exact ⟨rfl, F, (NetAt.below ⟨bq, bc, Vq, H.out⟩ B3.out).mono (by omega), NetGo.of_below B3.out⟩
        · have hT : s.dText a b (iN : Int) true = ⟨#[]⟩ := by unfold NS.dText; rw [HOK.out]; rfl
          have HTX := hide hT
          have D3' := hide (DOOR.out w2 (Below.refl _ _) (.inl (by simp)))
          clear hT DOOR
          go_wp2
          refine leaves_cons (f := 24) (args := #[.pointer (some ⟨w.heap.size, 0, none⟩), .pointer (some ⟨w.heap.size + 1 + 1, 0, none⟩), .pointer (some ⟨w.heap.size + 1, 0, none⟩)]) (by simp) (by simp [go_sem]) ?_
          refine D3'.out.mono ?_
          rintro e u' w'' ⟨rfl, rfl, hfin⟩
          refine ⟨_, results_tmp2 rfl _ _ _, ?_⟩
          rw [HTX.out, HOK.out]
          exact ⟨rfl, hfin⟩

set_option maxHeartbeats 4000000 in
theorem deliver_nil (a b i : Int) (lost again : Bool) (w : World) :
    Calls Try.prog 13 #[.pointer none, .int .i64 a, .int .i64 b, .int .i64 i, .bool lost, .bool again] w
      fun e w' => e = .returned (.tuple #[.string ⟨#[]⟩, .bool false]) ∧ Below w.heap.size w w' := by
  have hW0 : Below w.heap.size w (((w.alloc (.cells #[.pointer none] 25)).alloc (.cells #[.int .i64 i] 3)).alloc (.cells #[.int .i64 a, .int .i64 b] 59)) := (((Below.refl _ _).alloc (Nat.le_refl _) _).alloc (by simp) _).alloc (by simp; omega) _
  have c0 : (((w.alloc (.cells #[.pointer none] 25)).alloc (.cells #[.int .i64 i] 3)).alloc (.cells #[.int .i64 a, .int .i64 b] 59)).cell? ⟨w.heap.size, 0, none⟩ = some (.pointer none) := by
    rw [World.cell?_alloc_lt _ _ _ (by simp; omega), World.cell?_alloc_lt _ _ _ (by simp), World.cell?_alloc_at _ _ _ _ rfl]; rfl
  have c1 : (((w.alloc (.cells #[.pointer none] 25)).alloc (.cells #[.int .i64 i] 3)).alloc (.cells #[.int .i64 a, .int .i64 b] 59)).cell? ⟨w.heap.size + 1 + 1, 0, none⟩ = some (.int .i64 a) := by
    rw [World.cell?_alloc_at _ _ _ _ (by simp)]; rfl
  have c2 : (((w.alloc (.cells #[.pointer none] 25)).alloc (.cells #[.int .i64 i] 3)).alloc (.cells #[.int .i64 a, .int .i64 b] 59)).cell? ⟨w.heap.size + 1 + 1, 1, none⟩ = some (.int .i64 b) := by
    rw [World.cell?_alloc_at _ _ _ _ (by simp)]; rfl
  have hsz : (((w.alloc (.cells #[.pointer none] 25)).alloc (.cells #[.int .i64 i] 3)).alloc (.cells #[.int .i64 a, .int .i64 b] 59)).heap.size = w.heap.size + 3 := by simp
  have HB := hide hW0
  have C0 := hide c0
  have C1 := hide c1
  have C2 := hide c2
  have HS := hide hsz
  clear hW0 c0 c1 c2 hsz
  go_enter_defers Try.func13, Try.ntmps13
  go_wp2_with fail
  generalize (((w.alloc (.cells #[.pointer none] 25)).alloc (.cells #[.int .i64 i] 3)).alloc (.cells #[.int .i64 a, .int .i64 b] 59)) = w1 at HB C0 C1 C2 HS ⊢
  have g0 : ∀ n os, (Sort.grow (w1.drewN n) os).cell? ⟨w.heap.size, 0, none⟩ = some (.pointer none) := fun n os => cell_grown (by rw [HS.out]; show w.heap.size < _; omega) C0.out n os
  have g1 : ∀ n os, (Sort.grow (w1.drewN n) os).cell? ⟨w.heap.size + 1 + 1, 0, none⟩ = some (.int .i64 a) := fun n os => cell_grown (by rw [HS.out]; show w.heap.size + 1 + 1 < _; omega) C1.out n os
  have g2 : ∀ n os, (Sort.grow (w1.drewN n) os).cell? ⟨w.heap.size + 1 + 1, 1, none⟩ = some (.int .i64 b) := fun n os => cell_grown (by rw [HS.out]; show w.heap.size + 1 + 1 < _; omega) C2.out n os
  have GB : Hid (∀ n os, Below w1.heap.size w1 (Sort.grow (w1.drewN n) os)) := fun n os => ⟨rfl, rfl, rfl, by simp, fun k hk => Sort.heap_grow_old (w1.drewN n) os hk⟩
  have HKN : Hid (∀ n os, Calls Try.prog 23 #[.pointer none, .agg #[.int .i64 a, .int .i64 b]] (Sort.grow (w1.drewN n) os) fun e w'' => e = .returned (.bool false) ∧ ∃ q os', w'' = Sort.grow ((Sort.grow (w1.drewN n) os).drewN q) os') := fun n os =>
    (knows_nil_lays a b _).mono fun _ _ ⟨he, o1, o2, hw⟩ => ⟨he, 0, #[o1, o2], by rw [hw, Sort.alloc_eq_grow, Sort.alloc_eq_grow, Sort.grow_grow]; rfl⟩
  have BB : Hid (∀ n os, Below w.heap.size w (Sort.grow (w1.drewN n) os)) := fun n os => HB.out.trans ((GB.out n os).mono (by rw [HS.out]; omega))
  refine wp_region_quiet_grown (by kernel_rfl) (by kernel_rfl) ?_
  repeat (go_big_quiet_step ((go_at_call 23; exact Calls.grown_of (HKN.out _ _))))
  refine wpQuiet_nil ?_
  intro _ hw'
  obtain ⟨⟨nq, osq⟩, hw''⟩ := hw'
  subst hw''
  clear g0 g1 g2
  go_wp2
  refine ⟨_, results_tmp2 rfl _ _ _, ?_⟩
  exact ⟨rfl, BB.out _ _⟩
end Go.Proofs.Ytnoihbbfodkejaa
