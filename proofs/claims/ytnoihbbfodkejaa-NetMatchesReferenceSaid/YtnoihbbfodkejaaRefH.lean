/-
  Chapter 54: the reference's Heal.
-/
import Derived.Test.YtnoihbbfodkejaaRefS
import Derived.Deep.RegionLaw
import Derived.IntWalk
namespace Go.Proofs.Ytnoihbbfodkejaa
open Go.RowKit Go.Maps

set_option maxHeartbeats 8000000 in
theorem ref_heal (p n : Nat) (s : NS) (F : Nat → Prop) (a b : Int) (w : World) (h : RefAt w p n s F) (hn : n < 1000000) :
    Calls Try.prog 31 #[.pointer (some ⟨p, 0, none⟩), .int .i64 a, .int .i64 b] w
      fun e w' => e = .returned (.int .i64 (s.turnErr a b false)) ∧ ∃ F', RefAt w' p n (s.turn a b false) F' ∧ NetGo F F' w w' := by
  have hh := h
  obtain ⟨L, G, A, c, A', c', h, ha⟩ := h
  have hLn := h.few.2
  have H := hide h
  have HA := hide ha
  have HH := hide hh
  have d0 := h.c0
  clear h ha hh
  have EE : Hid (∀ e, s.turnErr a b false = e → e ≠ 0 → ∀ w', Below w.heap.size w w' → Ending.returned (.int .i64 e) = .returned (.int .i64 (s.turnErr a b false)) ∧ ∃ F', RefAt w' p n (s.turn a b false) F' ∧ NetGo F F' w w') := by
    intro e he hne w' hb
    have hs : s.turn a b false = s := by unfold NS.turn; rw [if_neg (by rw [he]; exact hne)]
    rw [he, hs]
    exact ⟨rfl, F, HH.out.below hb, NetGo.of_below hb⟩
  cases hkn : knows s.N a b
  · have HE : Hid (s.turnErr a b false = 1) := by show _ = _; unfold NS.turnErr; rw [if_pos hkn]
    have HK := hide hkn
    clear hkn
    go_enter Try.func31, Try.ntmps31
    go_wp2_with fail
    refine (pair_any p s.N a b _ d0).mono ?_
    rintro e w1 ⟨rfl, rfl⟩
    rw [HK.out]
    go_wp2
    go_ret
    exact EE.out 1 HE.out (by decide) _ (Below.refl _ _)
  · have HK := hide hkn
    clear hkn
    go_enter Try.func31, Try.ntmps31
    go_wp2_with fail
    refine (pair_any p s.N a b _ d0).mono ?_
    rintro e w1 ⟨rfl, rfl⟩
    rw [HK.out]
    go_wp2_with fail
    refine (cutIdx_any p n s.N L G A c A' c' F a b _ H.out (by unfold maxLen; omega)).mono ?_
    rintro e w3 ⟨rfl, b3⟩
    have B3 := hide b3
    clear b3
    cases hc : s.c (a, b)
    · have HE : Hid (s.turnErr a b false = 11) := by show _ = _; unfold NS.turnErr; rw [if_neg (by rw [HK.out]; decide), if_pos hc]
      rw [lineIdx_neg ((HA.out.c a b).symm.trans hc)]
      clear hc
      go_wp2
      go_ret
      exact EE.out 11 HE.out (by decide) _ B3.out
    · have he : s.turnErr a b false = 0 := by unfold NS.turnErr; rw [if_neg (by rw [HK.out]; decide), if_neg (by rw [hc]; decide)]
      obtain ⟨i, hl, hlt, hon⟩ := lineIdx_pos ((HA.out.c a b).symm.trans hc)
      have HAB := hide (HA.out.heal he i hlt hon)
      have HE := hide he
      rw [hl]
      clear hl hc he hon
      have W3 := hide (H.out.kept B3.out.size (fun j hj => B3.out.block j (H.out.lt j hj)))
      have ic : (i : Int) < (G.length : Int) := by omega
      have hcap : G.length ≤ c' := Own.cap W3.out.oG
      have hcL : (G.length : Int) ≤ (c' : Int) := by omega
      have hic : (i : Int) ≤ (c' : Int) := by omega
      have ki0 : (0 : Int) ≤ (i : Int) := by omega
      have ki1 : IntKind.i64.wrap ((i : Int) + 1) = (i : Int) + 1 := IntWalk.i64_in _ (by omega)
      have ki2 : (0 : Int) ≤ (i : Int) + 1 := by omega
      have ki3 : (i : Int) + 1 ≤ (G.length : Int) := by omega
      have ki4 : ((i : Int) + 1).toNat = i + 1 := by omega
      have kic : i ≤ c' := by omega
      obtain ⟨g, rfl, hg, _, _⟩ := W3.out.prAt hlt
      go_upto_region 6 with (fail)
      have f0 := W3.out.c2
      have P3 : Hid (p < w3.heap.size) := W3.out.lt p W3.out.inF.1
      have f1 : (w3.alloc (.cells #[] 58)).cell? ⟨p, 2, none⟩ = some (.slice (some ⟨g, 0, none⟩) G.length c') := (World.cell?_alloc_lt _ _ _ (by exact P3.out)).trans f0
      have R0 : Hid (Reads w3 w3.heap.size 2 (some ⟨g, 0, none⟩) i (prs (G.take i))) := by
        refine ⟨by unfold prs; rw [flat_length prCells 2 pr_len, List.length_take, Nat.min_eq_left (by omega)], fun hn => ?_⟩
        obtain ⟨ad, e, h1, h2⟩ := (Own.reads W3.out.oG).2 (by omega)
        refine ⟨ad, e, h1, fun j u hu => h2 j u ?_⟩
        have e1 : (prs G).take (i * 2) = prs (G.take i) := flat_take prCells 2 pr_len G i (by omega)
        rw [← e1, List.getElem?_take] at hu
        split at hu
        · exact hu
        · cases hu
      obtain ⟨AX, hAX, r1⟩ : ∃ AX, (if c' = i + 1 then some (⟨g, 0, none⟩ : Addr) else some ⟨g, (i + 1) * 2, none⟩) = AX ∧ Reads w3 w3.heap.size 2 AX (G.length - (i + 1)) (prs (G.drop (i + 1))) := by
        refine ⟨_, rfl, ?_⟩
        have q := Reads.cut (Own.reads W3.out.oG) (k := i + 1) (cap := c') (by omega) hcap
        simp only [Option.map_some, add_lit, Nat.zero_add] at q
        rw [show (prs G).drop ((i + 1) * 2) = prs (G.drop (i + 1)) from flat_drop prCells 2 pr_len G (i + 1) (by omega)] at q
        exact q
      have R1 := hide r1
      have HX0 : Hid (Own (w3.alloc (.cells #[] 58)) w3.heap.size 58 2 (some ⟨w3.heap.size, 0, none⟩) 0 0 []) := Own.of_lit w3 #[] 0 (Nat.le_refl _) (Nat.zero_le _) rfl
      have HBX : Hid (Below w3.heap.size w3 (w3.alloc (.cells #[] 58)).drew) := below_drewN (((Below.refl w3.heap.size w3).alloc (Nat.le_refl _) (.cells #[] 58))) 1
      have HSZ : Hid (w3.heap.size ≤ (w3.alloc (.cells #[] 58)).drew.heap.size) := HBX.out.size
      have HM : Hid (prs (G.take i) ++ prs (G.drop (i + 1)) = prs (G.take i ++ G.drop (i + 1))) := by show _ = _; simp [prs]
      have FIN : Hid (∀ A5 c5 w5, Own w5 w3.heap.size 58 2 A5 (i + (G.length - (i + 1))) c5 (prs (G.take i ++ G.drop (i + 1))) → Below w3.heap.size w3 w5 →
          w5.frozen? ⟨p, 2, none⟩ = false ∧ w5.cell? ⟨p, 2, none⟩ = some (.slice (some ⟨g, 0, none⟩) G.length c') ∧ ∀ v, v = .slice A5 (i + (G.length - (i + 1))) c5 →
            ∃ F', RefAt (w5.setCell ⟨p, 2, none⟩ v) p n (s.turn a b false) F' ∧ NetGo F F' w (w5.setCell ⟨p, 2, none⟩ v)) := by
        intro A5 c5 w5 ho hb5
        have hll : (G.take i ++ G.drop (i + 1)).length = i + (G.length - (i + 1)) := by simp; omega
        have hb5' : Blk w5 p 66 #[.int .i64 s.N, .slice A L.length c, .slice (some ⟨g, 0, none⟩) G.length c'] := (hb5.block p P3.out).trans W3.out.blk
        refine ⟨hb5'.frozen 2, (hb5'.cell 2).trans rfl, fun v hv => ?_⟩
        subst hv
        have hnew : ∀ k, (Value.slice A5 (G.take i ++ G.drop (i + 1)).length c5).ownBlock = some k → w3.heap.size ≤ k := fun k hk => by
          rw [hll] at hk
          exact (World.ownsRow.lt ho k hk).1
        have hk5 : ∀ k, k < w3.heap.size → k ≠ p → some k ≠ (Value.slice (some ⟨g, 0, none⟩) G.length c').ownBlock → (w5.setCell ⟨p, 2, none⟩ (.slice A5 (i + (G.length - (i + 1))) c5)).heap[k]? = w3.heap[k]? :=
          fun k h1 h2 _ => (Below.heap_setCell _ _ _ _ h2).trans (hb5.block k h1)
        have sz5 : w3.heap.size ≤ (w5.setCell ⟨p, 2, none⟩ (.slice A5 (i + (G.length - (i + 1))) c5)).heap.size := by simp [World.setCell]; exact hb5.size
        refine ⟨(fun k => F k ∨ (Value.slice A5 (G.take i ++ G.drop (i + 1)).length c5).ownBlock = some k), ⟨L, G.take i ++ G.drop (i + 1), A, c, A5, c5, ?_, HAB.out⟩, ?_⟩
        · rw [turn_N]
          refine W3.out.newG (n' := n) (A2 := A5) (c2 := c5) (G2 := G.take i ++ G.drop (i + 1)) sz5 ?_ ?_ hk5 (fun k hk => .inr (hnew k hk)) ⟨W3.out.few.1, by rw [hll]; omega⟩
          · rw [hll]; exact set_at2 hb5' _
          · rw [hll]
            refine Own.kept (Own.base ho (Nat.zero_le _)) (fun k hk => Below.heap_setCell _ _ _ _ (fun e => ?_))
            have := (World.ownsRow.lt ho k hk).1
            have := P3.out
            have e' : k = p := e
            omega
        · exact (NetGo.of_below (B3.out)).trans (W3.out.goG ⟨hb5.os, hb5.tape, hb5.output⟩ sz5 hk5 (fun k hk => .inr (hnew k hk)))
      clear r1
      go_region_law ((first
        | (refine step_app0 (by rfl) (.tmp 20) (.tmp 26) 64 rfl w3.heap.size 58 (.agg #[.int .i64 0, .int .i64 0]) 2 16 Try.underlying64 pr_info rfl (by omega) _ 0 (by rfl) HX0.out w3.heap.size _ i _ (prs (G.take i)) (by rfl) (R0.out.below HBX.out) (pr_one _) (by unfold maxLen; omega) (by omega) HSZ.out ?_; intro A4 c4 w4 hown4 hb4; have HB4 := hide (HBX.out.trans hb4); have HO4 := hide hown4; have f4 := (HB4.out.cell (p := ⟨p, 2, none⟩) P3.out).trans f0; clear hown4 hb4)
        | (refine step_app (by rfl) (.tmp 27) (.tmp 34) 64 rfl w3.heap.size 58 (.agg #[.int .i64 0, .int .i64 0]) 2 16 Try.underlying64 pr_info rfl (by omega) A4 i c4 _ (by rfl) HO4.out w3.heap.size _ _ _ (prs (G.drop (i + 1))) (by rfl) (R1.out.below HB4.out) (pr_one _) (by unfold maxLen; omega) (by omega) HB4.out.size ?_; intro A5 c5 w5 hown5 hb5; rw [HM.out] at hown5; obtain ⟨f5, f6, hfin⟩ := FIN.out A5 c5 w5 hown5 (HB4.out.trans hb5); have HFIN := hide hfin; clear hown5 hb5 hfin)))
      all_goals
        obtain ⟨F', hr, hgo⟩ := HFIN.out _ rfl
        have HR6 := hide hr
        have HG6 := hide hgo
        clear hr hgo HFIN FIN
        try go_wp2
        go_ret
        exact ⟨by rw [HE.out]; rfl, F', HR6.out, HG6.out⟩
end Go.Proofs.Ytnoihbbfodkejaa
