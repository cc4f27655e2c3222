/-
  Chapter 54: the reference's Cut.
-/
import Derived.Test.YtnoihbbfodkejaaRefS
import Derived.StillTailTactics
namespace Go.Proofs.Ytnoihbbfodkejaa
open Go.RowKit Go.Maps

theorem filter_next {α : Type} (P : α → Bool) (L : List α) (k : Nat) (hk : k < L.length) : (L.take (k + 1)).filter P = (L.take k).filter P ++ if P L[k] = true then [L[k]] else [] := by
  rw [List.take_succ_eq_append_getElem hk, List.filter_append]
  cases h : P L[k] <;> simp [h]

set_option maxHeartbeats 8000000 in
theorem ref_cut (p n : Nat) (s : NS) (F : Nat → Prop) (a b : Int) (w : World) (h : RefAt w p n s F) (hn : n < 1000000) :
    Calls Try.prog 30 #[.pointer (some ⟨p, 0, none⟩), .int .i64 a, .int .i64 b] w
      fun e w' => e = .returned (.int .i64 (s.turnErr a b true)) ∧ ∃ F', RefAt w' p (n + 1) (s.turn a b true) F' ∧ NetGo F F' w w' := by
  have hh := h
  obtain ⟨L, G, A, c, A', c', h, ha⟩ := h
  have hLn := h.few
  have H := hide h
  have HA := hide ha
  have HH := hide hh
  have d0 := h.c0
  clear h ha hh
  have EE : Hid (∀ e, s.turnErr a b true = e → e ≠ 0 → ∀ w', Below w.heap.size w w' → Ending.returned (.int .i64 e) = .returned (.int .i64 (s.turnErr a b true)) ∧ ∃ F', RefAt w' p (n + 1) (s.turn a b true) F' ∧ NetGo F F' w w') := by
    intro e he hne w' hb
    have hs : s.turn a b true = s := by unfold NS.turn; rw [if_neg (by rw [he]; exact hne)]
    rw [he, hs]
    exact ⟨rfl, F, (HH.out.below hb).mono (by omega), NetGo.of_below hb⟩
  cases hkn : knows s.N a b
  · have HE : Hid (s.turnErr a b true = 1) := by show _ = _; unfold NS.turnErr; rw [if_pos hkn]
    have HK := hide hkn
    clear hkn
    go_enter Try.func30, Try.ntmps30
    go_wp2_with fail
    refine (pair_any p s.N a b _ d0).mono ?_
    rintro e w1 ⟨rfl, rfl⟩
    rw [HK.out]
    go_wp2
    go_ret
    exact EE.out 1 HE.out (by decide) _ (Below.refl _ _)
  · have HK := hide hkn
    clear hkn
    go_enter Try.func30, Try.ntmps30
    go_wp2_with fail
    refine (pair_any p s.N a b _ d0).mono ?_
    rintro e w1 ⟨rfl, rfl⟩
    rw [HK.out]
    go_wp2_with fail
    refine (cutIdx_any p n s.N L G A c A' c' F a b _ H.out (by unfold maxLen; omega)).mono ?_
    rintro e w3 ⟨rfl, b3⟩
    have B3 := hide b3
    clear b3
    cases hc : s.c (a, b)
    · have he : s.turnErr a b true = 0 := by unfold NS.turnErr; rw [if_neg (by rw [HK.out]; decide), if_neg (by rw [hc]; decide)]
      have HAB := hide (HA.out.cut he)
      have HE := hide he
      rw [lineIdx_neg ((HA.out.c a b).symm.trans hc)]
      clear hc he
      have H3 := hide (H.out.kept B3.out.size (fun j hj => B3.out.block j (H.out.lt j hj)))
      have dd := H3.out.c2
      obtain ⟨G2, hG2⟩ : ∃ G2, G2 = G ++ [(a, b)] := ⟨_, rfl⟩
      have hgl : G2.length = G.length + 1 := by rw [hG2]; simp
      have HGL := hide hgl
      have HG2 := hide hG2
      rw [← hG2] at HAB
      clear hgl hG2
      have HW4 : Hid (Below w3.heap.size w3 (w3.alloc (.cells #[.int .i64 a, .int .i64 b] 58))) := (Below.refl _ _).alloc (Nat.le_refl _) _
      have RR : Hid (Reads (w3.alloc (.cells #[.int .i64 a, .int .i64 b] 58)) (w3.heap.size + 1) 2 (some ⟨w3.heap.size, 0, none⟩) 1 (prs [(a, b)])) := reads_new w3 #[.int .i64 a, .int .i64 b] 58 2 1 rfl
      have HO : Hid (Own (w3.alloc (.cells #[.int .i64 a, .int .i64 b] 58)) 0 58 2 A' G.length c' (prs G)) := Own.alloc H3.out.oG _
      have HM : Hid (prs G ++ prs [(a, b)] = prs G2) := by show _ = _; rw [HG2.out]; simp [prs]
      have FIN : Hid (∀ A4 c4 w4, Own w4 0 58 2 A4 (G.length + 1) c4 (prs G2) → (w3.alloc (.cells #[.int .i64 a, .int .i64 b] 58)).grownBy w4 (Value.slice A' G.length c').ownBlock →
          ((Value.slice A4 (G.length + 1) c4).ownBlock = (Value.slice A' G.length c').ownBlock ∨ (Value.slice A4 (G.length + 1) c4).ownBlock = some (w3.alloc (.cells #[.int .i64 a, .int .i64 b] 58)).heap.size) →
          w4.frozen? ⟨p, 2, none⟩ = false ∧ (∃ u, w4.cell? ⟨p, 2, none⟩ = some u) ∧ ∃ F', RefIn (w4.setCell ⟨p, 2, none⟩ (.slice A4 (G.length + 1) c4)) p (n + 1) s.N L G2 A c A4 c4 F' ∧ NetGo F F' w (w4.setCell ⟨p, 2, none⟩ (.slice A4 (G.length + 1) c4))) := by
        intro A4 c4 w4 ho hgr hat
        have sz : w3.heap.size < w4.heap.size := by
          have := hgr.size
          simp at this
          omega
        have hp3 := H3.out.lt p H3.out.inF.1
        have hpb : some p ≠ (Value.slice A' G.length c').ownBlock := fun e => (H3.out.inF.2.2 p e.symm).2 rfl
        have hk : ∀ k, k < w3.heap.size → some k ≠ (Value.slice A' G.length c').ownBlock → w4.heap[k]? = w3.heap[k]? := fun k h1 h2 => (hgr.block k (by simp; omega) h2).trans (HW4.out.block k h1)
        have hb4 : Blk w4 p 66 #[.int .i64 s.N, .slice A L.length c, .slice A' G.length c'] := (hk p hp3 hpb).trans H3.out.blk
        have hat2 : ∀ g, (Value.slice A4 G2.length c4).ownBlock = some g → (Value.slice A' G.length c').ownBlock = some g ∨ w3.heap.size ≤ g := by
          intro g hg
          rw [HGL.out] at hg
          rcases hat with h1 | h1
          · exact .inl (h1 ▸ hg)
          · rw [h1] at hg
            injection hg with hg
            simp at hg
            exact .inr (by omega)
        have hk5 : ∀ k, k < w3.heap.size → k ≠ p → some k ≠ (Value.slice A' G.length c').ownBlock → (w4.setCell ⟨p, 2, none⟩ (.slice A4 (G.length + 1) c4)).heap[k]? = w3.heap[k]? :=
          fun k h1 h2 h3 => (Below.heap_setCell _ _ _ _ h2).trans (hk k h1 h3)
        have sz5 : w3.heap.size ≤ (w4.setCell ⟨p, 2, none⟩ (.slice A4 (G.length + 1) c4)).heap.size := by simp [World.setCell]; omega
        refine ⟨hb4.frozen 2, ⟨_, (hb4.cell 2).trans rfl⟩, (fun k => F k ∨ (Value.slice A4 G2.length c4).ownBlock = some k), ?_, ?_⟩
        · refine H3.out.newG (n' := n + 1) (A2 := A4) (c2 := c4) (G2 := G2) sz5 ?_ ?_ hk5 hat2 ⟨by (have := hLn.1; omega), by (rw [HGL.out]; have := hLn.2; omega)⟩
          · rw [HGL.out]; exact set_at2 hb4 _
          · rw [HGL.out]
            refine Own.kept ho (fun g hg => Below.heap_setCell _ _ _ _ (fun e => ?_))
            have hgp : (Value.slice A4 (G.length + 1) c4).ownBlock = some p := by rw [hg]; exact congrArg some e
            rcases hat with h1 | h1
            · exact hpb (by rw [← h1, hgp])
            · rw [h1] at hgp
              injection hgp with hgp
              simp at hgp
              omega
        · exact (NetGo.of_below (B3.out.mono (Nat.le_refl _))).trans (H3.out.goG ⟨hgr.os, hgr.tape, hgr.output⟩ sz5 hk5 hat2)
      go_wp2_with (at_builtin; refine wpList_appH rfl (.tmp 23) (.tmp 27) 64 rfl 0 58 (.agg #[.int .i64 0, .int .i64 0]) 2 16 Try.underlying64 pr_info rfl (by omega) A' G.length c' (prs G) rfl HO.out _ _ 1 _ (prs [(a, b)]) rfl RR.out (pr_one _) (by unfold maxLen; omega) (by omega) (Nat.zero_le _) ?_; intro A4 c4 w4 hown4 hgr4 hat4; rw [HM.out] at hown4; obtain ⟨hf4, ⟨u4, hu4⟩, hfin⟩ := FIN.out A4 c4 w4 hown4 hgr4 hat4; have HF := hide hfin; clear hown4 hgr4 hat4 hfin)
      obtain ⟨F5, h5, g5⟩ := HF.out
      have H5 := hide h5
      have G5 := hide g5
      clear h5 g5 HF FIN hu4 hf4 dd
      generalize w4.setCell ⟨p, 2, none⟩ (.slice A4 (G.length + 1) c4) = w5 at H5 G5 ⊢
      obtain ⟨P, hP⟩ : ∃ P : Msg → Bool, P = fun m => !G2.any (line m.a m.b) := ⟨_, rfl⟩
      have HP := hide hP
      clear hP
      go_loopw [7, 8] (fun v iv wr => ∃ (i : Nat) (A6 : Option Addr) (c6 : Nat), i ≤ L.length ∧ iv = .int .i64 i ∧ v = .slice A6 ((L.take i).filter P).length c6 ∧
          Own wr w5.heap.size 69 3 A6 ((L.take i).filter P).length c6 (msgs ((L.take i).filter P)) ∧ Below w5.heap.size w5 wr) (fun _ iv _ => L.length - (intOf iv).toNat)
      case atStart => exact ⟨0, none, 0, Nat.zero_le _, rfl, rfl, Own.nil _ _ _ _, Below.refl _ _⟩
      case round =>
        obtain ⟨i, A6, c6, hi, rfl, rfl, ho, hb⟩ := hrel
        have HO6 := hide ho
        have HB6 := hide hb
        clear ho hb
        have HWr := hide (H5.out.kept HB6.out.size (fun j hj => HB6.out.block j (H5.out.lt j hj)))
        have d1 := HWr.out.c1
        by_cases hlt : i < L.length
        · obtain ⟨g, rfl, hg, e0, e1, e2⟩ := HWr.out.msgAt hlt
          have NX := hide (filter_next P L i hlt)
          have hlen : ((L.take i).filter P).length ≤ i := Nat.le_trans (List.length_filter_le _ _) (List.length_take_le _ _)
          generalize hx : L[i] = m at e0 e1 e2 NX ⊢
          have HX := hide hx
          clear hx
          generalize hl : (L.take i).filter P = l at HO6 NX hlen ⊢
          have HLL := hide hl
          clear hl
          have ii0 : (0 : Int) ≤ (i : Int) := by omega
          have ii1 : (i : Int) < (L.length : Int) := by omega
          go_wp2_with fail
          go_still_tail 17, (by kernel_rfl)
          change wpList _ _ _ _ _ wr.drew
          have HWd : Hid (RefIn wr.drew p (n + 1) s.N L G2 (some ⟨g, 0, none⟩) c A4 c4 F5) := HWr.out.kept (Nat.le_refl _) (fun _ _ => rfl)
          have HOd : Hid (Own wr.drew w5.heap.size 69 3 A6 l.length c6 (msgs l)) := HO6.out
          have HBd : Hid (Below w5.heap.size w5 wr.drew) := below_drewN HB6.out 1
          clear d1 e0 e1 e2 HWr HO6 HB6
          generalize wr.drew = wd at HWd HOd HBd ⊢
          go_wp2_with fail
          refine (cutIdx_any p (n + 1) s.N L G2 (some ⟨g, 0, none⟩) c A4 c4 F5 m.a m.b _ HWd.out (by unfold maxLen; omega)).mono ?_
          rintro e w7 ⟨rfl, b7⟩
          have HW7 := hide (HWd.out.kept b7.size (fun j hj => b7.block j (HWd.out.lt j hj)))
          have HO7 := hide (Own.below HOd.out b7)
          have HB7 := hide (HBd.out.trans (b7.mono HBd.out.size))
          clear b7 HWd HOd HBd
          cases hany : G2.any (line m.a m.b)
          · rw [lineIdx_neg hany]
            have hPm : P m = true := by rw [HP.out]; show (!G2.any (line m.a m.b)) = true; rw [hany]; rfl
            have HN : Hid ((L.take (i + 1)).filter P = l ++ [m]) := by show _ = _; rw [NX.out, if_pos hPm]
            have d1 := HW7.out.c1
            obtain ⟨g', hg', hgl', e0, e1, e2⟩ := HW7.out.msgAt hlt
            injection hg' with hg'
            injection hg' with hg'
            subst hg'
            rw [HX.out] at e0 e1 e2
            have HO8 : Hid (Own (w7.alloc (.cells #[.int .i64 m.a, .int .i64 m.b, .string m.t] 69)) w5.heap.size 69 3 A6 l.length c6 (msgs l)) := Own.alloc HO7.out _
            have HB8 : Hid (Below w5.heap.size w5 (w7.alloc (.cells #[.int .i64 m.a, .int .i64 m.b, .string m.t] 69))) := HB7.out.alloc HB7.out.size _
            have R8 : Hid (Reads (w7.alloc (.cells #[.int .i64 m.a, .int .i64 m.b, .string m.t] 69)) (w7.heap.size + 1) 3 (some ⟨w7.heap.size, 0, none⟩) 1 (msgs [m])) := reads_new w7 #[.int .i64 m.a, .int .i64 m.b, .string m.t] 69 3 1 rfl
            have HM8 : Hid (msgs l ++ msgs [m] = msgs (l ++ [m])) := by show _ = _; simp [msgs]
            clear hPm NX hany
            go_wp2_with (at_builtin; refine wpList_app rfl (.tmp 59) (.tmp 67) 63 rfl w5.heap.size 69 (.agg #[.int .i64 0, .int .i64 0, .string ByteArray.empty]) 3 32 Try.underlying63 msg_info rfl (by omega) A6 l.length c6 (msgs l) rfl HO8.out _ _ 1 _ (msgs [m]) rfl R8.out (msg_one _) (by unfold maxLen; omega) (by omega) HB8.out.size ?_; intro A9 c9 w9 hown9 hb9 _; rw [HM8.out] at hown9; have HO9 := hide hown9; have HB9 := hide (HB8.out.trans hb9); clear hown9 hb9)
            go_roundw
            case rel => exact ⟨i + 1, A9, c9, by omega, by go_num, by rw [HN.out, List.length_append]; rfl, by rw [HN.out, List.length_append]; exact HO9.out, HB9.out⟩
            case measure => simp [intOf]; omega
          · obtain ⟨j, hl, _⟩ := lineIdx_pos hany
            rw [hl]
            have hPm : ¬ P m = true := by rw [HP.out]; show ¬ (!G2.any (line m.a m.b)) = true; rw [hany]; decide
            have HN : Hid ((L.take (i + 1)).filter P = l) := by show _ = _; rw [NX.out, if_neg hPm, List.append_nil]
            have hj0 : (0 : Int) ≤ (j : Int) := by omega
            clear hPm NX hany hl
            go_wp2_with fail
            go_roundw
            case rel => exact ⟨i + 1, A6, c6, by omega, by go_num, by rw [HN.out], by rw [HN.out]; exact HO7.out, HB7.out⟩
            case measure => simp [intOf]; omega
        · have HN : Hid (L.take i = L) := List.take_of_length_le (by omega)
          rw [HN.out] at HO6 ⊢
          have hll : (L.filter P).length ≤ L.length := List.length_filter_le _ _
          have FIN : Hid (wr.frozen? ⟨p, 1, none⟩ = false ∧ ∀ v, v = .slice A6 (L.filter P).length c6 → ∃ F', RefAt (wr.setCell ⟨p, 1, none⟩ v) p (n + 1) (s.turn a b true) F' ∧ NetGo F F' w (wr.setCell ⟨p, 1, none⟩ v)) := by
            refine ⟨HWr.out.blk.frozen 1, fun v hv => ?_⟩
            subst hv
            have hp5 := H5.out.lt p H5.out.inF.1
            have hnew : ∀ k, (Value.slice A6 (L.filter P).length c6).ownBlock = some k → w5.heap.size ≤ k := fun k hk => (World.ownsRow.lt HO6.out k hk).1
            have hk5 : ∀ k, k < w5.heap.size → k ≠ p → some k ≠ (Value.slice A L.length c).ownBlock → (wr.setCell ⟨p, 1, none⟩ (.slice A6 (L.filter P).length c6)).heap[k]? = w5.heap[k]? :=
              fun k h1 h2 _ => (Below.heap_setCell _ _ _ _ h2).trans (HB6.out.block k h1)
            have sz5 : w5.heap.size ≤ (wr.setCell ⟨p, 1, none⟩ (.slice A6 (L.filter P).length c6)).heap.size := by simp [World.setCell]; exact HB6.out.size
            refine ⟨(fun k => F5 k ∨ (Value.slice A6 (L.filter P).length c6).ownBlock = some k), ⟨L.filter P, G2, A6, c6, A4, c4, ?_, by rw [HP.out]; exact HAB.out⟩, ?_⟩
            · rw [turn_N]
              refine H5.out.newL (n' := n + 1) (A2 := A6) (c2 := c6) (L2 := L.filter P) sz5 ?_ ?_ hk5 (fun k hk => .inr (hnew k hk)) ⟨Nat.le_trans hll H5.out.few.1, H5.out.few.2⟩
              · exact set_at1 HWr.out.blk _
              · refine Own.kept (Own.base HO6.out (Nat.zero_le _)) (fun k hk => Below.heap_setCell _ _ _ _ (fun e => ?_))
                have := (World.ownsRow.lt HO6.out k hk).1
                have e' : k = p := e
                omega
            · exact G5.out.trans (H5.out.goL ⟨HB6.out.os, HB6.out.tape, HB6.out.output⟩ sz5 hk5 (fun k hk => .inr (hnew k hk)))
          have hf := FIN.out.1
          go_wp2
          go_ret
          obtain ⟨F', hr, hgo⟩ := FIN.out.2 _ rfl
          exact ⟨by rw [HE.out]; rfl, F', hr, hgo⟩
    · obtain ⟨k, hl, _⟩ := lineIdx_pos ((HA.out.c a b).symm.trans hc)
      rw [hl]
      have HE : Hid (s.turnErr a b true = 11) := by show _ = _; unfold NS.turnErr; rw [if_neg (by rw [HK.out]; decide), if_pos hc]
      have hk0 : (0 : Int) ≤ (k : Int) := by omega
      clear hl hc
      go_wp2
      go_ret
      exact EE.out 11 HE.out (by decide) _ B3.out
end Go.Proofs.Ytnoihbbfodkejaa
