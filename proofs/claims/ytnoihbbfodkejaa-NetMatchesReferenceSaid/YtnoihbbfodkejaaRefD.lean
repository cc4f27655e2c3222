/-
  Chapter 54: the reference's Deliver.
-/
import Derived.Test.YtnoihbbfodkejaaRefS
import Derived.Deep.RegionLaw
import Derived.IntWalk
namespace Go.Proofs.Ytnoihbbfodkejaa
open Go.RowKit Go.Maps

set_option maxHeartbeats 8000000 in
theorem ref_deliver (p n : Nat) (s : NS) (F : Nat → Prop) (a b which : Int) (lost again : Bool) (w : World) (h : RefAt w p n s F) (hn : n < 1000000) :
    Calls Try.prog 29 #[.pointer (some ⟨p, 0, none⟩), .int .i64 a, .int .i64 b, .int .i64 which, .bool lost, .bool again] w
      fun e w' => e = .returned (.tuple #[.string (s.dText a b which lost), .bool (s.dOk a b which lost)]) ∧ ∃ F', RefAt w' p n (s.deliver a b which lost again) F' ∧ NetGo F F' w w' := by
  have hh := h
  obtain ⟨L, G, A, c, A', c', h, ha⟩ := h
  have hLn := h.few.1
  have H := hide h
  have HA := hide ha
  have HH := hide hh
  have d0 := h.c0
  clear h ha hh
  have EE : Hid (s.hit a b which = false → ∀ w', Below w.heap.size w w' → Ending.returned (.tuple #[.string ⟨#[]⟩, .bool false]) = .returned (.tuple #[.string (s.dText a b which lost), .bool (s.dOk a b which lost)]) ∧ ∃ F', RefAt w' p n (s.deliver a b which lost again) F' ∧ NetGo F F' w w') := by
    intro he w' hb
    have hs : s.deliver a b which lost again = s := by unfold NS.deliver; rw [if_neg (by rw [he]; simp)]
    have ho : s.dOk a b which lost = false := by unfold NS.dOk; rw [he]; rfl
    have hx : s.dText a b which lost = ⟨#[]⟩ := by unfold NS.dText; rw [if_neg (by rw [ho]; decide)]; rfl
    rw [hs, ho, hx]
    exact ⟨rfl, F, HH.out.below hb, NetGo.of_below hb⟩
  cases hkn : knows s.N a b
  · have HE : Hid (s.hit a b which = false) := by show _ = _; unfold NS.hit; rw [hkn]; rfl
    have HK := hide hkn
    clear hkn
    go_enter Try.func29, Try.ntmps29
    go_wp2_with fail
    refine (pair_any p s.N a b _ d0).mono ?_
    rintro e w1 ⟨rfl, rfl⟩
    rw [HK.out]
    go_wp2
    go_ret2
    exact EE.out HE.out _ (Below.refl _ _)
  · have HK := hide hkn
    have HQ : Hid (s.q (a, b) = texts L a b) := HA.out.q a b
    clear hkn
    go_enter Try.func29, Try.ntmps29
    go_wp2_with fail
    refine (pair_any p s.N a b _ d0).mono ?_
    rintro e w1 ⟨rfl, rfl⟩
    rw [HK.out]
    clear d0
    go_wp2_with fail
    go_loopw [14, 15] (fun kv iv wr => ∃ i : Nat, i ≤ L.length ∧ iv = .int .i64 i ∧ kv = .int .i64 ((texts (L.take i) a b).length : Nat) ∧ ¬ (0 ≤ which ∧ which < ((texts (L.take i) a b).length : Int)) ∧ Below w.heap.size w wr) (fun _ iv _ => L.length - (intOf iv).toNat)
    case atStart => exact ⟨0, Nat.zero_le _, rfl, rfl, by simp [texts], Below.refl _ _⟩
    case round =>
      obtain ⟨i, hi, rfl, rfl, hno, hb⟩ := hrel
      have HNO := hide hno
      have HB := hide hb
      clear hno hb
      have HWr := hide (H.out.kept HB.out.size (fun j hj => HB.out.block j (H.out.lt j hj)))
      have d1 := HWr.out.c1
      by_cases hlt : i < L.length
      · obtain ⟨g, rfl, hg, e0, e1, e2⟩ := HWr.out.msgAt hlt
        have NX := hide (texts_next L i hlt a b)
        have hlen : (texts (L.take i) a b).length ≤ i := Nat.le_trans (texts_len _ _ _) (List.length_take_le _ _)
        have DL : Hid (onM a b L[i] = true → ((texts (L.take i) a b).length : Int) = which → s.hit a b which = true ∧ (s.q (a, b)).getD which.toNat ByteArray.empty = L[i].t ∧
            ((lost = true ∨ again = false) → Abs (L.take i ++ L.drop (i + 1)) G (s.deliver a b which lost again))) := by
          intro hon hwh
          have hL : L = L.take i ++ ([L[i]] ++ L.drop (i + 1)) := by rw [List.singleton_append, List.getElem_cons_drop, List.take_append_drop]
          have hq : s.q (a, b) = texts (L.take i) a b ++ (L[i].t :: texts (L.drop (i + 1)) a b) := by
            rw [HQ.out]
            conv => lhs; rw [hL]
            rw [texts_append, texts_append, texts_one_on _ _ _ hon]
            rfl
          refine ⟨?_, ?_, fun hx => HA.out.deliver HK.out hx i hlt hon hwh⟩
          · unfold NS.hit
            rw [HK.out, hq]
            simp
            omega
          · rw [hq, ← hwh, Int.toNat_natCast]
            simp
        generalize hl : (texts (L.take i) a b).length = l at HNO NX hlen DL ⊢
        have HLL := hide hl
        clear hl
        generalize hx : L[i] = m at e0 e1 e2 NX DL ⊢
        have HX := hide hx
        clear hx
        have ON : Hid (∀ v, (m.a == a && m.b == b) = v → onM a b m = v) := fun v h => h
        have BB : Hid (∀ o, Below w.heap.size w (wr.alloc o)) := fun o => HB.out.alloc HB.out.size o
        have SKIP : Hid (onM a b m = false → (texts (L.take (i + 1)) a b).length = l) := by
          intro h
          rw [NX.out, if_neg (by rw [h]; decide), List.append_nil]
          exact HLL.out
        have MORE : Hid (onM a b m = true → (texts (L.take (i + 1)) a b).length = l + 1) := by
          intro h
          rw [NX.out, if_pos h, List.length_append]
          rw [HLL.out]
          rfl
        cases hz1 : (m.a == a)
        · have HN := hide (SKIP.out (ON.out _ (by rw [hz1]; rfl)))
          have y1 : (m.a != a) = true := by simp [bne, hz1]
          clear SKIP MORE DL NX
          go_wp2_with fail
          go_roundw
          case rel => exact ⟨i + 1, by omega, by go_num, by rw [HN.out], by rw [HN.out]; exact HNO.out, BB.out _⟩
          case measure => simp [intOf]; omega
        · have y1 : (m.a != a) = false := by simp [bne, hz1]
          cases hz2 : (m.b == b)
          · have HN := hide (SKIP.out (ON.out _ (by rw [hz2]; simp)))
            have y2 : (m.b != b) = true := by simp [bne, hz2]
            clear SKIP MORE DL NX
            go_wp2_with fail
            go_roundw
            case rel => exact ⟨i + 1, by omega, by go_num, by rw [HN.out], by rw [HN.out]; exact HNO.out, BB.out _⟩
            case measure => simp [intOf]; omega
          · have y2 : (m.b != b) = false := by simp [bne, hz2]
            have hon := ON.out true (by rw [hz1, hz2]; rfl)
            by_cases hw : (l : Int) = which
            · have y3 : ((l : Int) != which) = false := by simp [hw]
              obtain ⟨q1, q2, q3⟩ := DL.out hon hw
              have Q1 := hide q1
              have Q2 := hide q2
              have Q3 := hide q3
              clear SKIP MORE DL NX hw hon q1 q2 q3 hz1 hz2
              have BI : i < n := by omega
              have ic : (i : Int) < (L.length : Int) := by omega
              have hcap : L.length ≤ c := Own.cap HWr.out.oL
              have hcL : (L.length : Int) ≤ (c : Int) := by omega
              have hic : (i : Int) ≤ (c : Int) := by omega
              have ki1 : IntKind.i64.wrap ((i : Int) + 1) = (i : Int) + 1 := IntWalk.i64_in _ (by omega)
              have ki2 : (0 : Int) ≤ (i : Int) + 1 := by omega
              have ki3 : (i : Int) + 1 ≤ (L.length : Int) := by omega
              have ki4 : ((i : Int) + 1).toNat = i + 1 := by omega
              have kic : i ≤ c := by omega
              have W3 : Hid (RefIn (wr.alloc (.cells #[.int .i64 m.a, .int .i64 m.b, .string m.t] 69)) p n s.N L G (some ⟨g, 0, none⟩) c A' c' F) := HWr.out.kept (by simp) (fun j hj => Below.heap_alloc _ _ _ (HWr.out.lt j hj))
              have BW3 := hide (BB.out (.cells #[.int .i64 m.a, .int .i64 m.b, .string m.t] 69))
              have m2 : (wr.alloc (.cells #[.int .i64 m.a, .int .i64 m.b, .string m.t] 69)).cell? ⟨wr.heap.size, 2, none⟩ = some (.string m.t) := by
                rw [(Blk.new wr 69 #[.int .i64 m.a, .int .i64 m.b, .string m.t]).cell 2]; rfl
              have m2p : Hid (wr.heap.size ≠ p) := fun e => by have h := HWr.out.lt p HWr.out.inF.1; have e' : wr.heap.size = p := e; omega

              cases lost
              · cases again
                · have ho : s.dOk a b which false = true := by unfold NS.dOk; rw [Q1.out]; rfl
                  have hxx : s.dText a b which false = m.t := by unfold NS.dText; rw [if_pos ho]; exact Q2.out
                  have HOK := hide ho
                  have HTX := hide hxx
                  clear ho hxx
                  go_upto_region 12 with (fail)
                  obtain ⟨gm, hgm⟩ : ∃ gm, gm = wr.heap.size := ⟨_, rfl⟩
                  rw [← hgm] at m2 m2p ⊢
                  generalize wr.alloc (.cells #[.int .i64 m.a, .int .i64 m.b, .string m.t] 69) = w3 at W3 BW3 m2 ⊢
                  have GM : Hid (gm < w3.heap.size) := World.block_lt_of_cell? w3 _ m2
                  have M2 := hide m2
                  clear BB HWr d1 e0 e1 e2 hgm m2
                  have f0 := W3.out.c1
                  have P3 : Hid (p < w3.heap.size) := W3.out.lt p W3.out.inF.1
                  have f1 : (w3.alloc (.cells #[] 69)).cell? ⟨p, 1, none⟩ = some (.slice (some ⟨g, 0, none⟩) L.length c) := (World.cell?_alloc_lt _ _ _ (by exact P3.out)).trans f0
                  have R0 : Hid (Reads w3 w3.heap.size 3 (some ⟨g, 0, none⟩) i (msgs (L.take i))) := by
                    refine ⟨by unfold msgs; rw [flat_length Msg.cells 3 msg_len, List.length_take, Nat.min_eq_left (by omega)], fun hn => ?_⟩
                    obtain ⟨ad, e, h1, h2⟩ := (Own.reads W3.out.oL).2 (by omega)
                    refine ⟨ad, e, h1, fun j u hu => h2 j u ?_⟩
                    have e1 : (msgs L).take (i * 3) = msgs (L.take i) := flat_take Msg.cells 3 msg_len L i (by omega)
                    rw [← e1, List.getElem?_take] at hu
                    split at hu
                    · exact hu
                    · cases hu
                  obtain ⟨AX, hAX, r1⟩ : ∃ AX, (if c = i + 1 then some (⟨g, 0, none⟩ : Addr) else some ⟨g, (i + 1) * 3, none⟩) = AX ∧ Reads w3 w3.heap.size 3 AX (L.length - (i + 1)) (msgs (L.drop (i + 1))) := by
                    refine ⟨_, rfl, ?_⟩
                    have q := Reads.cut (Own.reads W3.out.oL) (k := i + 1) (cap := c) (by omega) hcap
                    simp only [Option.map_some, add_lit, Nat.zero_add] at q
                    rw [show (msgs L).drop ((i + 1) * 3) = msgs (L.drop (i + 1)) from flat_drop Msg.cells 3 msg_len L (i + 1) (by omega)] at q
                    exact q
                  have R1 := hide r1
                  have HX0 : Hid (Own (w3.alloc (.cells #[] 69)) w3.heap.size 69 3 (some ⟨w3.heap.size, 0, none⟩) 0 0 []) := Own.of_lit w3 #[] 0 (Nat.le_refl _) (Nat.zero_le _) rfl
                  have HBX : Hid (Below w3.heap.size w3 (w3.alloc (.cells #[] 69)).drew) := below_drewN (((Below.refl w3.heap.size w3).alloc (Nat.le_refl _) (.cells #[] 69))) 1
                  have HSZ : Hid (w3.heap.size ≤ (w3.alloc (.cells #[] 69)).drew.heap.size) := HBX.out.size
                  have HM : Hid (msgs (L.take i) ++ msgs (L.drop (i + 1)) = msgs (L.take i ++ L.drop (i + 1))) := by show _ = _; simp [msgs]
                  have FIN : Hid (∀ A5 c5 w5, Own w5 w3.heap.size 69 3 A5 (i + (L.length - (i + 1))) c5 (msgs (L.take i ++ L.drop (i + 1))) → Below w3.heap.size w3 w5 →
                      w5.frozen? ⟨p, 1, none⟩ = false ∧ w5.cell? ⟨p, 1, none⟩ = some (.slice (some ⟨g, 0, none⟩) L.length c) ∧ ∀ v, v = .slice A5 (i + (L.length - (i + 1))) c5 → w5.cell? ⟨gm, 2, none⟩ = some (.string m.t) ∧
                        ∃ F', RefAt (w5.setCell ⟨p, 1, none⟩ v) p n (s.deliver a b which false false) F' ∧ NetGo F F' w (w5.setCell ⟨p, 1, none⟩ v)) := by
                    intro A5 c5 w5 ho hb5
                    have hll : (L.take i ++ L.drop (i + 1)).length = i + (L.length - (i + 1)) := by simp; omega
                    have hb5' : Blk w5 p 66 #[.int .i64 s.N, .slice (some ⟨g, 0, none⟩) L.length c, .slice A' G.length c'] := (hb5.block p P3.out).trans W3.out.blk
                    refine ⟨hb5'.frozen 1, (hb5'.cell 1).trans rfl, fun v hv => ?_⟩
                    subst hv
                    have hnew : ∀ k, (Value.slice A5 (L.take i ++ L.drop (i + 1)).length c5).ownBlock = some k → w3.heap.size ≤ k := fun k hk => by
                      rw [hll] at hk
                      exact (World.ownsRow.lt ho k hk).1
                    have hk5 : ∀ k, k < w3.heap.size → k ≠ p → some k ≠ (Value.slice (some ⟨g, 0, none⟩) L.length c).ownBlock → (w5.setCell ⟨p, 1, none⟩ (.slice A5 (i + (L.length - (i + 1))) c5)).heap[k]? = w3.heap[k]? :=
                      fun k h1 h2 _ => (Below.heap_setCell _ _ _ _ h2).trans (hb5.block k h1)
                    have sz5 : w3.heap.size ≤ (w5.setCell ⟨p, 1, none⟩ (.slice A5 (i + (L.length - (i + 1))) c5)).heap.size := by simp [World.setCell]; exact hb5.size
                    refine ⟨?_, (fun k => F k ∨ (Value.slice A5 (L.take i ++ L.drop (i + 1)).length c5).ownBlock = some k), ⟨L.take i ++ L.drop (i + 1), G, A5, c5, A', c', ?_, Q3.out (by simp)⟩, ?_⟩
                    · exact (hb5.cell (p := ⟨gm, 2, none⟩) GM.out).trans M2.out
                    · rw [deliver_N]
                      refine W3.out.newL (n' := n) (A2 := A5) (c2 := c5) (L2 := L.take i ++ L.drop (i + 1)) sz5 ?_ ?_ hk5 (fun k hk => .inr (hnew k hk)) ⟨by rw [hll]; omega, W3.out.few.2⟩
                      · rw [hll]; exact set_at1 hb5' _
                      · rw [hll]
                        refine Own.kept (Own.base ho (Nat.zero_le _)) (fun k hk => Below.heap_setCell _ _ _ _ (fun e => ?_))
                        have := (World.ownsRow.lt ho k hk).1
                        have := P3.out
                        have e' : k = p := e
                        omega
                    · exact (NetGo.of_below (BW3.out)).trans (W3.out.goL ⟨hb5.os, hb5.tape, hb5.output⟩ sz5 hk5 (fun k hk => .inr (hnew k hk)))
                  clear r1
                  have hgp : ¬ gm = p := m2p.out
                  have hgp' : ¬ p = gm := fun e => m2p.out e.symm
                  go_region_law ((first
                    | (refine step_app0 (by rfl) (.tmp 59) (.tmp 65) 63 rfl w3.heap.size 69 (.agg #[.int .i64 0, .int .i64 0, .string ByteArray.empty]) 3 32 Try.underlying63 msg_info rfl (by omega) _ 0 (by rfl) HX0.out w3.heap.size _ i _ (msgs (L.take i)) (by rfl) (R0.out.below HBX.out) (msg_one _) (by unfold maxLen; omega) (by omega) HSZ.out ?_; intro A4 c4 w4 hown4 hb4; have HB4 := hide (HBX.out.trans hb4); have HO4 := hide hown4; have f4 := (HB4.out.cell (p := ⟨p, 1, none⟩) P3.out).trans f0; clear hown4 hb4)
                    | (refine step_app (by rfl) (.tmp 66) (.tmp 73) 63 rfl w3.heap.size 69 (.agg #[.int .i64 0, .int .i64 0, .string ByteArray.empty]) 3 32 Try.underlying63 msg_info rfl (by omega) A4 i c4 _ (by rfl) HO4.out w3.heap.size _ _ _ (msgs (L.drop (i + 1))) (by rfl) (R1.out.below HB4.out) (msg_one _) (by unfold maxLen; omega) (by omega) HB4.out.size ?_; intro A5 c5 w5 hown5 hb5; rw [HM.out] at hown5; obtain ⟨f5, f6, hfin⟩ := FIN.out A5 c5 w5 hown5 (HB4.out.trans hb5); have c6 := (hfin _ rfl).1; have HFIN := hide hfin; clear hown5 hb5 hfin)))

                  all_goals
                    obtain ⟨_, F', hr, hgo⟩ := HFIN.out _ rfl
                    have HR6 := hide hr
                    have HG6 := hide hgo
                    clear hr hgo HFIN FIN
                    try go_wp2
                    go_ret2
                    exact ⟨by rw [HOK.out, HTX.out]; rfl, F', HR6.out, HG6.out⟩
                · have ho : s.dOk a b which false = true := by unfold NS.dOk; rw [Q1.out]; rfl
                  have hxx : s.dText a b which false = m.t := by unfold NS.dText; rw [if_pos ho]; exact Q2.out
                  have hs : s.deliver a b which false true = s := by unfold NS.deliver; rw [if_neg (by simp)]
                  have HOK := hide ho
                  have HTX := hide hxx
                  have HS := hide hs
                  clear ho hxx hs
                  go_wp2
                  go_ret2
                  exact ⟨by rw [HOK.out, HTX.out]; rfl, F, by rw [HS.out]; exact HH.out.below BW3.out, NetGo.of_below BW3.out⟩
              · have ho : s.dOk a b which true = false := by unfold NS.dOk; rw [Q1.out]; rfl
                have hxx : s.dText a b which true = ⟨#[]⟩ := by unfold NS.dText; rw [if_neg (by rw [ho]; decide)]; rfl
                have HOK := hide ho
                have HTX := hide hxx
                clear ho hxx
                go_upto_region 12 with (fail)
                obtain ⟨gm, hgm⟩ : ∃ gm, gm = wr.heap.size := ⟨_, rfl⟩
                rw [← hgm] at m2 m2p ⊢
                generalize wr.alloc (.cells #[.int .i64 m.a, .int .i64 m.b, .string m.t] 69) = w3 at W3 BW3 m2 ⊢
                have GM : Hid (gm < w3.heap.size) := World.block_lt_of_cell? w3 _ m2
                have M2 := hide m2
                clear BB HWr d1 e0 e1 e2 hgm m2
                have f0 := W3.out.c1
                have P3 : Hid (p < w3.heap.size) := W3.out.lt p W3.out.inF.1
                have f1 : (w3.alloc (.cells #[] 69)).cell? ⟨p, 1, none⟩ = some (.slice (some ⟨g, 0, none⟩) L.length c) := (World.cell?_alloc_lt _ _ _ (by exact P3.out)).trans f0
                have R0 : Hid (Reads w3 w3.heap.size 3 (some ⟨g, 0, none⟩) i (msgs (L.take i))) := by
                  refine ⟨by unfold msgs; rw [flat_length Msg.cells 3 msg_len, List.length_take, Nat.min_eq_left (by omega)], fun hn => ?_⟩
                  obtain ⟨ad, e, h1, h2⟩ := (Own.reads W3.out.oL).2 (by omega)
                  refine ⟨ad, e, h1, fun j u hu => h2 j u ?_⟩
                  have e1 : (msgs L).take (i * 3) = msgs (L.take i) := flat_take Msg.cells 3 msg_len L i (by omega)
                  rw [← e1, List.getElem?_take] at hu
                  split at hu
                  · exact hu
                  · cases hu
                obtain ⟨AX, hAX, r1⟩ : ∃ AX, (if c = i + 1 then some (⟨g, 0, none⟩ : Addr) else some ⟨g, (i + 1) * 3, none⟩) = AX ∧ Reads w3 w3.heap.size 3 AX (L.length - (i + 1)) (msgs (L.drop (i + 1))) := by
                  refine ⟨_, rfl, ?_⟩
                  have q := Reads.cut (Own.reads W3.out.oL) (k := i + 1) (cap := c) (by omega) hcap
                  simp only [Option.map_some, add_lit, Nat.zero_add] at q
                  rw [show (msgs L).drop ((i + 1) * 3) = msgs (L.drop (i + 1)) from flat_drop Msg.cells 3 msg_len L (i + 1) (by omega)] at q
                  exact q
                have R1 := hide r1
                have HX0 : Hid (Own (w3.alloc (.cells #[] 69)) w3.heap.size 69 3 (some ⟨w3.heap.size, 0, none⟩) 0 0 []) := Own.of_lit w3 #[] 0 (Nat.le_refl _) (Nat.zero_le _) rfl
                have HBX : Hid (Below w3.heap.size w3 (w3.alloc (.cells #[] 69)).drew) := below_drewN (((Below.refl w3.heap.size w3).alloc (Nat.le_refl _) (.cells #[] 69))) 1
                have HSZ : Hid (w3.heap.size ≤ (w3.alloc (.cells #[] 69)).drew.heap.size) := HBX.out.size
                have HM : Hid (msgs (L.take i) ++ msgs (L.drop (i + 1)) = msgs (L.take i ++ L.drop (i + 1))) := by show _ = _; simp [msgs]
                have FIN : Hid (∀ A5 c5 w5, Own w5 w3.heap.size 69 3 A5 (i + (L.length - (i + 1))) c5 (msgs (L.take i ++ L.drop (i + 1))) → Below w3.heap.size w3 w5 →
                    w5.frozen? ⟨p, 1, none⟩ = false ∧ w5.cell? ⟨p, 1, none⟩ = some (.slice (some ⟨g, 0, none⟩) L.length c) ∧ ∀ v, v = .slice A5 (i + (L.length - (i + 1))) c5 → w5.cell? ⟨gm, 2, none⟩ = some (.string m.t) ∧
                      ∃ F', RefAt (w5.setCell ⟨p, 1, none⟩ v) p n (s.deliver a b which true again) F' ∧ NetGo F F' w (w5.setCell ⟨p, 1, none⟩ v)) := by
                  intro A5 c5 w5 ho hb5
                  have hll : (L.take i ++ L.drop (i + 1)).length = i + (L.length - (i + 1)) := by simp; omega
                  have hb5' : Blk w5 p 66 #[.int .i64 s.N, .slice (some ⟨g, 0, none⟩) L.length c, .slice A' G.length c'] := (hb5.block p P3.out).trans W3.out.blk
                  refine ⟨hb5'.frozen 1, (hb5'.cell 1).trans rfl, fun v hv => ?_⟩
                  subst hv
                  have hnew : ∀ k, (Value.slice A5 (L.take i ++ L.drop (i + 1)).length c5).ownBlock = some k → w3.heap.size ≤ k := fun k hk => by
                    rw [hll] at hk
                    exact (World.ownsRow.lt ho k hk).1
                  have hk5 : ∀ k, k < w3.heap.size → k ≠ p → some k ≠ (Value.slice (some ⟨g, 0, none⟩) L.length c).ownBlock → (w5.setCell ⟨p, 1, none⟩ (.slice A5 (i + (L.length - (i + 1))) c5)).heap[k]? = w3.heap[k]? :=
                    fun k h1 h2 _ => (Below.heap_setCell _ _ _ _ h2).trans (hb5.block k h1)
                  have sz5 : w3.heap.size ≤ (w5.setCell ⟨p, 1, none⟩ (.slice A5 (i + (L.length - (i + 1))) c5)).heap.size := by simp [World.setCell]; exact hb5.size
                  refine ⟨?_, (fun k => F k ∨ (Value.slice A5 (L.take i ++ L.drop (i + 1)).length c5).ownBlock = some k), ⟨L.take i ++ L.drop (i + 1), G, A5, c5, A', c', ?_, Q3.out (by simp)⟩, ?_⟩
                  · exact (hb5.cell (p := ⟨gm, 2, none⟩) GM.out).trans M2.out
                  · rw [deliver_N]
                    refine W3.out.newL (n' := n) (A2 := A5) (c2 := c5) (L2 := L.take i ++ L.drop (i + 1)) sz5 ?_ ?_ hk5 (fun k hk => .inr (hnew k hk)) ⟨by rw [hll]; omega, W3.out.few.2⟩
                    · rw [hll]; exact set_at1 hb5' _
                    · rw [hll]
                      refine Own.kept (Own.base ho (Nat.zero_le _)) (fun k hk => Below.heap_setCell _ _ _ _ (fun e => ?_))
                      have := (World.ownsRow.lt ho k hk).1
                      have := P3.out
                      have e' : k = p := e
                      omega
                  · exact (NetGo.of_below (BW3.out)).trans (W3.out.goL ⟨hb5.os, hb5.tape, hb5.output⟩ sz5 hk5 (fun k hk => .inr (hnew k hk)))
                clear r1
                have hgp : ¬ gm = p := m2p.out
                have hgp' : ¬ p = gm := fun e => m2p.out e.symm
                go_region_law ((first
                  | (refine step_app0 (by rfl) (.tmp 59) (.tmp 65) 63 rfl w3.heap.size 69 (.agg #[.int .i64 0, .int .i64 0, .string ByteArray.empty]) 3 32 Try.underlying63 msg_info rfl (by omega) _ 0 (by rfl) HX0.out w3.heap.size _ i _ (msgs (L.take i)) (by rfl) (R0.out.below HBX.out) (msg_one _) (by unfold maxLen; omega) (by omega) HSZ.out ?_; intro A4 c4 w4 hown4 hb4; have HB4 := hide (HBX.out.trans hb4); have HO4 := hide hown4; have f4 := (HB4.out.cell (p := ⟨p, 1, none⟩) P3.out).trans f0; clear hown4 hb4)
                  | (refine step_app (by rfl) (.tmp 66) (.tmp 73) 63 rfl w3.heap.size 69 (.agg #[.int .i64 0, .int .i64 0, .string ByteArray.empty]) 3 32 Try.underlying63 msg_info rfl (by omega) A4 i c4 _ (by rfl) HO4.out w3.heap.size _ _ _ (msgs (L.drop (i + 1))) (by rfl) (R1.out.below HB4.out) (msg_one _) (by unfold maxLen; omega) (by omega) HB4.out.size ?_; intro A5 c5 w5 hown5 hb5; rw [HM.out] at hown5; obtain ⟨f5, f6, hfin⟩ := FIN.out A5 c5 w5 hown5 (HB4.out.trans hb5); have c6 := (hfin _ rfl).1; have HFIN := hide hfin; clear hown5 hb5 hfin)))

                all_goals
                  obtain ⟨_, F', hr, hgo⟩ := HFIN.out _ rfl
                  have HR6 := hide hr
                  have HG6 := hide hgo
                  clear hr hgo HFIN FIN
                  try go_wp2
                  go_ret2
                  exact ⟨by rw [HOK.out, HTX.out]; rfl, F', HR6.out, HG6.out⟩
            · have y3 : ((l : Int) != which) = true := by simp [hw]
              have HN := hide (MORE.out hon)
              have HW := hide hw
              clear SKIP MORE DL NX hw hon
              go_wp2_with fail
              go_roundw
              case rel => exact ⟨i + 1, by omega, by go_num, by rw [HN.out]; rfl, by rw [HN.out]; have := HNO.out; have := HW.out; omega, BB.out _⟩
              case measure => simp [intOf]; omega
      · have HE : Hid (s.hit a b which = false) := by
          show _ = _
          have e : (L.take i) = L := List.take_of_length_le (by omega)
          have := HNO.out
          rw [e, ← HQ.out] at this
          unfold NS.hit
          rw [HK.out]
          simp
          omega
        go_wp2
        go_ret2
        exact EE.out HE.out _ HB.out
end Go.Proofs.Ytnoihbbfodkejaa
