/-
  Chapter 54: the reference's Send.
-/
import Derived.Test.YtnoihbbfodkejaaRefW
namespace Go.Proofs.Ytnoihbbfodkejaa
open Go.RowKit Go.Maps

/-- 's = append(s, x..)', with the block of what comes out. -/
theorem wpList_appH {P : Program} {w : World} {ops : Array Oper} {rest : List Oper} {o : Oper} {a : Act} {Q : Exit → Act → World → Prop} (hgd : o.guard = none) (s x : Operand) (t : TypeId)
    (ho : o.op = .call { callee := .builtin .append, args := #[s, x], argTypes := #[t, t] })
    (base : Nat) (e : TypeId) (z : Value) (size bytes : Nat) (ht : P.underlying t = some (.slice e)) (hi : (P.info? e).map (fun i => (i.zero, i.size, i.bytes)) = some (some z, size, bytes))
    (hzs : z.cells.size = size) (hsz : 0 < size)
    (A : Option Addr) (n c : Nat) (xs : List Value) (hs : a.eval s = .slice A n c) (hown : Own w base e size A n c xs)
    (B : Nat) (A' : Option Addr) (m c' : Nat) (news : List Value) (hx : a.eval x = .slice A' m c') (hr : Reads w B size A' m news) (h1 : ∀ u ∈ news, u.oneCell' = true)
    (h63 : n + m ≤ maxLen) (hbytes : (n + m) * bytes ≤ 140737488355328) (hbase : base ≤ w.heap.size)
    (h : ∀ A2 c2 w', Own w' base e size A2 (n + m) c2 (xs ++ news) → w.grownBy w' (Value.slice A n c).ownBlock → ((Value.slice A2 (n + m) c2).ownBlock = (Value.slice A n c).ownBlock ∨ (Value.slice A2 (n + m) c2).ownBlock = some w.heap.size) →
      wpList P ops Q rest (a.put o.dst (.slice A2 (n + m) c2)) w') : wpList P ops Q (o :: rest) a w := by
  obtain ⟨i0, hi0, hz, hz1, hz2⟩ := info_parts hi
  refine wpList_append_any w hgd s x t ho base e i0 z size bytes ht hi0 hz hz1 hz2 hzs hsz _ n xs hs hown B A' m c' news hx hr h1 h63 hbytes hbase (fun v' w' hown' hg hat => ?_)
  have hv : ∃ A2 c2, v' = .slice A2 (n + m) c2 := by
    rcases hown'.2 with ⟨rfl, h0⟩ | ⟨g, cap, cur, rfl, _⟩
    · exact ⟨none, 0, by rw [h0]⟩
    · exact ⟨_, cap, rfl⟩
  obtain ⟨A2, c2, rfl⟩ := hv
  exact h A2 c2 w' hown' hg hat

section
variable {w w' : World} {p n n' : Nat} {N : Int} {L L2 : List Msg} {G G2 : List (Int × Int)} {A A' A2 : Option Addr} {c c' c2 : Nat} {F : Nat → Prop}
theorem RefIn.newL (h : RefIn w p n N L G A c A' c' F) (hs : w.heap.size ≤ w'.heap.size) (hb : Blk w' p 66 #[.int .i64 N, .slice A2 L2.length c2, .slice A' G.length c'])
    (ho : Own w' 0 69 3 A2 L2.length c2 (msgs L2)) (hk : ∀ k, k < w.heap.size → k ≠ p → some k ≠ (Value.slice A L.length c).ownBlock → w'.heap[k]? = w.heap[k]?)
    (hat : ∀ g, (Value.slice A2 L2.length c2).ownBlock = some g → (Value.slice A L.length c).ownBlock = some g ∨ w.heap.size ≤ g) (hf : L2.length ≤ n' ∧ G.length ≤ n') :
    RefIn w' p n' N L2 G A2 c2 A' c' (fun k => F k ∨ (Value.slice A2 L2.length c2).ownBlock = some k) := by
  have hp := h.lt p h.inF.1
  refine ⟨hb, ho, Own.kept h.oG (fun g hg => ?_), ⟨.inl h.inF.1, fun g hg => ⟨.inr hg, ?_⟩, fun g hg => ⟨.inl (h.inF.2.2 g hg).1, (h.inF.2.2 g hg).2⟩⟩, fun g hg hg2 => ?_, fun k hk' => ?_, hf⟩
  · exact hk g (h.lt g (h.inF.2.2 g hg).1) (h.inF.2.2 g hg).2 (fun e => h.off g e.symm hg)
  · rcases hat g hg with h1 | h1
    · exact (h.inF.2.1 g h1).2
    · omega
  · rcases hat g hg with h1 | h1
    · exact h.off g h1 hg2
    · have := h.lt g (h.inF.2.2 g hg2).1; omega
  · rcases hk' with h1 | h1
    · exact Nat.lt_of_lt_of_le (h.lt k h1) hs
    · exact (World.ownsRow.lt ho k h1).2
theorem RefIn.newG (h : RefIn w p n N L G A c A' c' F) (hs : w.heap.size ≤ w'.heap.size) (hb : Blk w' p 66 #[.int .i64 N, .slice A L.length c, .slice A2 G2.length c2])
    (ho : Own w' 0 58 2 A2 G2.length c2 (prs G2)) (hk : ∀ k, k < w.heap.size → k ≠ p → some k ≠ (Value.slice A' G.length c').ownBlock → w'.heap[k]? = w.heap[k]?)
    (hat : ∀ g, (Value.slice A2 G2.length c2).ownBlock = some g → (Value.slice A' G.length c').ownBlock = some g ∨ w.heap.size ≤ g) (hf : L.length ≤ n' ∧ G2.length ≤ n') :
    RefIn w' p n' N L G2 A c A2 c2 (fun k => F k ∨ (Value.slice A2 G2.length c2).ownBlock = some k) := by
  have hp := h.lt p h.inF.1
  refine ⟨hb, Own.kept h.oL (fun g hg => ?_), ho, ⟨.inl h.inF.1, fun g hg => ⟨.inl (h.inF.2.1 g hg).1, (h.inF.2.1 g hg).2⟩, fun g hg => ⟨.inr hg, ?_⟩⟩, fun g hg hg2 => ?_, fun k hk' => ?_, hf⟩
  · exact hk g (h.lt g (h.inF.2.1 g hg).1) (h.inF.2.1 g hg).2 (fun e => h.off g hg e.symm)
  · rcases hat g hg with h1 | h1
    · exact (h.inF.2.2 g h1).2
    · omega
  · rcases hat g hg2 with h1 | h1
    · exact h.off g hg h1
    · have := h.lt g (h.inF.2.1 g hg).1; omega
  · rcases hk' with h1 | h1
    · exact Nat.lt_of_lt_of_le (h.lt k h1) hs
    · exact (World.ownsRow.lt ho k h1).2
theorem RefIn.goL (h : RefIn w p n N L G A c A' c' F) {w1 : World} (hm : w1.os = w.os ∧ w1.tape = w.tape ∧ w1.output = w.output) (hs : w.heap.size ≤ w1.heap.size)
    (hk : ∀ k, k < w.heap.size → k ≠ p → some k ≠ (Value.slice A L.length c).ownBlock → w1.heap[k]? = w.heap[k]?)
    (hat : ∀ g, (Value.slice A2 L2.length c2).ownBlock = some g → (Value.slice A L.length c).ownBlock = some g ∨ w.heap.size ≤ g) :
    NetGo F (fun k => F k ∨ (Value.slice A2 L2.length c2).ownBlock = some k) w w1 := by
  refine ⟨fun k hk' => ?_, ⟨hm.1, hm.2.1, hm.2.2, hs, fun k hk1 hn => hk k hk1 (fun e => hn (e ▸ h.inF.1)) (fun e => hn (h.inF.2.1 k e.symm).1)⟩⟩
  rcases hk' with h1 | h1
  · exact .inl h1
  · rcases hat k h1 with h2 | h2
    · exact .inl (h.inF.2.1 k h2).1
    · exact .inr h2
theorem RefIn.goG (h : RefIn w p n N L G A c A' c' F) {w1 : World} (hm : w1.os = w.os ∧ w1.tape = w.tape ∧ w1.output = w.output) (hs : w.heap.size ≤ w1.heap.size)
    (hk : ∀ k, k < w.heap.size → k ≠ p → some k ≠ (Value.slice A' G.length c').ownBlock → w1.heap[k]? = w.heap[k]?)
    (hat : ∀ g, (Value.slice A2 G2.length c2).ownBlock = some g → (Value.slice A' G.length c').ownBlock = some g ∨ w.heap.size ≤ g) :
    NetGo F (fun k => F k ∨ (Value.slice A2 G2.length c2).ownBlock = some k) w w1 := by
  refine ⟨fun k hk' => ?_, ⟨hm.1, hm.2.1, hm.2.2, hs, fun k hk1 hn => hk k hk1 (fun e => hn (e ▸ h.inF.1)) (fun e => hn (h.inF.2.2 k e.symm).1)⟩⟩
  rcases hk' with h1 | h1
  · exact .inl h1
  · rcases hat k h1 with h2 | h2
    · exact .inl (h.inF.2.2 k h2).1
    · exact .inr h2
end
theorem set_at1 {w : World} {p : Nat} {t : TypeId} {x y z : Value} (h : Blk w p t #[x, y, z]) (v : Value) : Blk (w.setCell ⟨p, 1, none⟩ v) p t #[x, v, z] := by
  have := h.set_ 1 v
  simpa using this
theorem set_at2 {w : World} {p : Nat} {t : TypeId} {x y z : Value} (h : Blk w p t #[x, y, z]) (v : Value) : Blk (w.setCell ⟨p, 2, none⟩ v) p t #[x, y, v] := by
  have := h.set_ 2 v
  simpa using this
theorem lineIdx_neg {a b : Int} {G : List (Int × Int)} (h : G.any (line a b) = false) : lineIdx a b G = -1 := by
  unfold lineIdx
  rw [if_neg (by rw [h]; decide)]
theorem lineIdx_pos {a b : Int} {G : List (Int × Int)} (h : G.any (line a b) = true) : ∃ k : Nat, lineIdx a b G = (k : Int) ∧ ∃ hk : k < G.length, line a b G[k] = true := by
  unfold lineIdx
  rw [if_pos h]
  obtain ⟨x, hx, hl⟩ := List.any_eq_true.1 h
  have hk : G.findIdx (line a b) < G.length := List.findIdx_lt_length_of_exists ⟨x, hx, hl⟩
  exact ⟨_, rfl, hk, List.findIdx_getElem (w := hk)⟩

set_option maxHeartbeats 4000000 in
theorem ref_send (p n : Nat) (s : NS) (F : Nat → Prop) (a b : Int) (t : ByteArray) (w : World) (h : RefAt w p n s F) (hn : n < 1000000) :
    Calls Try.prog 28 #[.pointer (some ⟨p, 0, none⟩), .int .i64 a, .int .i64 b, .string t] w
      fun e w' => e = .returned (.int .i64 (s.sendErr a b t)) ∧ ∃ F', RefAt w' p (n + 1) (s.send a b t) F' ∧ NetGo F F' w w' := by
  have hh := h
  obtain ⟨L, G, A, c, A', c', h, ha⟩ := h
  have hLn := h.few
  have H := hide h
  have HA := hide ha
  have HH := hide hh
  have d0 := h.c0
  clear h ha hh
  have EE : Hid (∀ e, s.sendErr a b t = e → e ≠ 0 → ∀ w', Below w.heap.size w w' → Ending.returned (.int .i64 e) = .returned (.int .i64 (s.sendErr a b t)) ∧ ∃ F', RefAt w' p (n + 1) (s.send a b t) F' ∧ NetGo F F' w w') := by
    intro e he hne w' hb
    have hs : s.send a b t = s := by unfold NS.send; rw [if_neg (by rw [he]; exact hne)]
    rw [he, hs]
    exact ⟨rfl, F, (HH.out.below hb).mono (by omega), NetGo.of_below hb⟩
  cases hkn : knows s.N a b
  · have HE : Hid (s.sendErr a b t = 1) := by show _ = _; unfold NS.sendErr; rw [if_pos (.inl hkn)]
    have HK := hide hkn
    clear hkn
    go_enter Try.func28, Try.ntmps28
    go_wp2_with fail
    refine (pair_any p s.N a b _ d0).mono ?_
    rintro e w1 ⟨rfl, rfl⟩
    rw [HK.out]
    go_wp2
    go_ret
    exact EE.out 1 HE.out (by decide) _ (Below.refl _ _)
  · have HK := hide hkn
    by_cases ht : (20000 : Int) < (t.size : Int)
    · have HE : Hid (s.sendErr a b t = 1) := by show _ = _; unfold NS.sendErr; rw [if_pos (.inr (by omega))]
      clear hkn
      go_enter Try.func28, Try.ntmps28
      go_wp2_with fail
      refine (pair_any p s.N a b _ d0).mono ?_
      rintro e w1 ⟨rfl, rfl⟩
      rw [HK.out]
      go_wp2
      go_ret
      exact EE.out 1 HE.out (by decide) _ (Below.refl _ _)
    · have hg1 : ¬ (knows s.N a b = false ∨ 20000 < t.size) := by rw [hkn]; simp; omega
      have HG1 := hide hg1
      clear hkn hg1
      go_enter Try.func28, Try.ntmps28
      go_wp2_with fail
      refine (pair_any p s.N a b _ d0).mono ?_
      rintro e w1 ⟨rfl, rfl⟩
      rw [HK.out]
      go_wp2_with fail
      refine (cutIdx_any p n s.N L G A c A' c' F a b _ H.out (by unfold maxLen; omega)).mono ?_
      rintro e w2 ⟨rfl, b2⟩
      have B2 := hide b2
      clear b2
      cases hc : s.c (a, b)
      · have hl := lineIdx_neg ((HA.out.c a b).symm.trans hc)
        rw [hl]
        have HC := hide hc
        clear hl hc
        go_wp2_with fail
        refine (ref_waiting p n s F a b w2 (HH.out.below B2.out) (by omega)).mono ?_
        have hw : s.waiting a b = s.q (a, b) := by unfold NS.waiting; rw [if_pos HK.out]
        have hql : (s.q (a, b)).length ≤ n := by rw [HA.out.q]; have := texts_len L a b; omega
        rw [hw]
        clear hw
        generalize hq : s.q (a, b) = q at hql ⊢
        have HQ := hide hq
        clear hq
        rintro e w3 ⟨A3, c3, rfl, _, b3⟩
        have B3 := hide (B2.out.trans (b3.mono B2.out.size))
        clear b3 B2
        by_cases hfull : (100 : Int) ≤ (q.length : Int)
        · have HE : Hid (s.sendErr a b t = 29) := by show _ = _; unfold NS.sendErr; rw [if_neg HG1.out, if_neg (by rw [HC.out]; decide), if_pos (by rw [HQ.out]; omega)]
          go_wp2
          go_ret
          exact EE.out 29 HE.out (by decide) _ B3.out
        · have HE : Hid (s.sendErr a b t = 0) := by show _ = _; unfold NS.sendErr; rw [if_neg HG1.out, if_neg (by rw [HC.out]; decide), if_neg (by rw [HQ.out]; omega)]
          have H3 := hide (H.out.kept B3.out.size (fun j hj => B3.out.block j (H.out.lt j hj)))
          have dd := H3.out.c1
          have HW4 : Hid (Below w3.heap.size w3 (w3.alloc (.cells #[.int .i64 a, .int .i64 b, .string t] 69))) := (Below.refl _ _).alloc (Nat.le_refl _) _
          have RR : Hid (Reads (w3.alloc (.cells #[.int .i64 a, .int .i64 b, .string t] 69)) (w3.heap.size + 1) 3 (some ⟨w3.heap.size, 0, none⟩) 1 (msgs [⟨a, b, t⟩])) := reads_new w3 #[.int .i64 a, .int .i64 b, .string t] 69 3 1 rfl
          have HO : Hid (Own (w3.alloc (.cells #[.int .i64 a, .int .i64 b, .string t] 69)) 0 69 3 A L.length c (msgs L)) := Own.alloc H3.out.oL _
          have hm : msgs L ++ msgs [⟨a, b, t⟩] = msgs (L ++ [⟨a, b, t⟩]) := by simp [msgs]
          have HM := hide hm
          clear hm
          have FIN : Hid (∀ A4 c4 w4, Own w4 0 69 3 A4 (L.length + 1) c4 (msgs (L ++ [⟨a, b, t⟩])) → (w3.alloc (.cells #[.int .i64 a, .int .i64 b, .string t] 69)).grownBy w4 (Value.slice A L.length c).ownBlock →
              ((Value.slice A4 (L.length + 1) c4).ownBlock = (Value.slice A L.length c).ownBlock ∨ (Value.slice A4 (L.length + 1) c4).ownBlock = some (w3.alloc (.cells #[.int .i64 a, .int .i64 b, .string t] 69)).heap.size) →
              w4.frozen? ⟨p, 1, none⟩ = false ∧ (∃ u, w4.cell? ⟨p, 1, none⟩ = some u) ∧ ∃ F', RefAt (w4.setCell ⟨p, 1, none⟩ (.slice A4 (L.length + 1) c4)) p (n + 1) (s.send a b t) F' ∧ NetGo F F' w (w4.setCell ⟨p, 1, none⟩ (.slice A4 (L.length + 1) c4))) := by
            intro A4 c4 w4 ho hgr hat
            have hL1 : (L ++ [(⟨a, b, t⟩ : Msg)]).length = L.length + 1 := by simp
            have sz : w3.heap.size < w4.heap.size := by
              have := hgr.size
              simp at this
              omega
            have hp3 := H3.out.lt p H3.out.inF.1
            have hpb : some p ≠ (Value.slice A L.length c).ownBlock := fun e => (H3.out.inF.2.1 p e.symm).2 rfl
            have hk : ∀ k, k < w3.heap.size → some k ≠ (Value.slice A L.length c).ownBlock → w4.heap[k]? = w3.heap[k]? := fun k h1 h2 => (hgr.block k (by simp; omega) h2).trans (HW4.out.block k h1)
            have hb4 : Blk w4 p 66 #[.int .i64 s.N, .slice A L.length c, .slice A' G.length c'] := (hk p hp3 hpb).trans H3.out.blk
            have hat2 : ∀ g, (Value.slice A4 (L ++ [(⟨a, b, t⟩ : Msg)]).length c4).ownBlock = some g → (Value.slice A L.length c).ownBlock = some g ∨ w3.heap.size ≤ g := by
              intro g hg
              rw [hL1] at hg
              rcases hat with h1 | h1
              · exact .inl (h1 ▸ hg)
              · rw [h1] at hg
                injection hg with hg
                simp at hg
                exact .inr (by omega)
            have hk5 : ∀ k, k < w3.heap.size → k ≠ p → some k ≠ (Value.slice A L.length c).ownBlock → (w4.setCell ⟨p, 1, none⟩ (.slice A4 (L.length + 1) c4)).heap[k]? = w3.heap[k]? :=
              fun k h1 h2 h3 => (Below.heap_setCell _ _ _ _ h2).trans (hk k h1 h3)
            have sz5 : w3.heap.size ≤ (w4.setCell ⟨p, 1, none⟩ (.slice A4 (L.length + 1) c4)).heap.size := by simp [World.setCell]; omega
            refine ⟨hb4.frozen 1, ⟨_, (hb4.cell 1).trans rfl⟩, (fun k => F k ∨ (Value.slice A4 (L ++ [(⟨a, b, t⟩ : Msg)]).length c4).ownBlock = some k), ⟨L ++ [⟨a, b, t⟩], G, A4, c4, A', c', ?_, HA.out.send HE.out⟩, ?_⟩
            · rw [send_N]
              refine H3.out.newL (n' := n + 1) (A2 := A4) (c2 := c4) (L2 := L ++ [⟨a, b, t⟩]) sz5 ?_ ?_ hk5 hat2 ⟨by (rw [List.length_append, List.length_singleton]; have := hLn.1; omega), by (have := hLn.2; omega)⟩
              · rw [hL1]; exact set_at1 hb4 _
              · rw [hL1]
                refine Own.kept ho (fun g hg => Below.heap_setCell _ _ _ _ (fun e => ?_))
                have hgp : (Value.slice A4 (L.length + 1) c4).ownBlock = some p := by rw [hg]; exact congrArg some e
                rcases hat with h1 | h1
                · exact hpb (by rw [← h1, hgp])
                · rw [h1] at hgp
                  injection hgp with hgp
                  simp at hgp
                  omega
            · have g2 : NetGo F (fun k => F k ∨ (Value.slice A4 (L ++ [(⟨a, b, t⟩ : Msg)]).length c4).ownBlock = some k) w3 (w4.setCell ⟨p, 1, none⟩ (.slice A4 (L.length + 1) c4)) :=
                H3.out.goL ⟨hgr.os, hgr.tape, hgr.output⟩ sz5 hk5 hat2
              exact (NetGo.of_below (B3.out.mono (Nat.le_refl _))).trans g2
          go_wp2_with (at_builtin; refine wpList_appH rfl (.tmp 34) (.tmp 39) 63 rfl 0 69 (.agg #[.int .i64 0, .int .i64 0, .string ByteArray.empty]) 3 32 Try.underlying63 msg_info rfl (by omega) A L.length c (msgs L) rfl HO.out _ _ 1 _ (msgs [⟨a, b, t⟩]) rfl RR.out (msg_one _) (by unfold maxLen; omega) (by omega) (Nat.zero_le _) ?_; intro A4 c4 w4 hown4 hgr4 hat4; rw [HM.out] at hown4; obtain ⟨hf4, ⟨u4, hu4⟩, hfin⟩ := FIN.out A4 c4 w4 hown4 hgr4 hat4; have HF := hide hfin; clear hown4 hgr4 hat4 hfin)
          go_ret
          obtain ⟨F', h1, h2⟩ := HF.out
          exact ⟨by rw [HE.out]; rfl, F', h1, h2⟩
      · obtain ⟨k, hl, _⟩ := lineIdx_pos ((HA.out.c a b).symm.trans hc)
        rw [hl]
        have HE : Hid (s.sendErr a b t = 18) := by show _ = _; unfold NS.sendErr; rw [if_neg HG1.out, if_pos hc]
        have hk0 : (0 : Int) ≤ (k : Int) := by omega
        clear hl hc
        go_wp2
        go_ret
        exact EE.out 18 HE.out (by decide) _ B2.out
end Go.Proofs.Ytnoihbbfodkejaa
