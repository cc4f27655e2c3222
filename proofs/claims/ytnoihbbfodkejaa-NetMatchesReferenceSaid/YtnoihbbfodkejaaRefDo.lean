/-
  Chapter 54: the reference's Do.
-/
import Derived.Test.YtnoihbbfodkejaaRefD
import Derived.Test.YtnoihbbfodkejaaRefH
import Derived.Test.YtnoihbbfodkejaaRefC
namespace Go.Proofs.Ytnoihbbfodkejaa
open Go.RowKit Go.Maps

set_option maxHeartbeats 4000000 in
theorem ref_do (p n : Nat) (s : NS) (F : Nat → Prop) (x : St) (w : World) (h : RefAt w p n s F) (hn : n < 1000000) :
    Calls Try.prog 19 #[.pointer (some ⟨p, 0, none⟩), .agg #[.int .i64 x.kind, .int .i64 x.a, .int .i64 x.b, .int .i64 x.n, .string x.text, .bool x.lost, .bool x.again]] w
      fun e w' => e = .returned (.agg #[.int .i64 (s.res x).err, .string (s.res x).text, .bool (s.res x).ok]) ∧ ∃ F', RefAt w' p (n + 4) (s.do_ x) F' ∧ NetGo F F' w w' := by
  have hW : Below w.heap.size w ((w.alloc (.cells #[.int .i64 x.kind, .int .i64 x.a, .int .i64 x.b, .int .i64 x.n, .string x.text, .bool x.lost, .bool x.again] 46)).alloc (.cells #[.int .i64 0, .string ⟨#[]⟩, .bool false] 43)) :=
    ((Below.refl _ _).alloc (Nat.le_refl _) _).alloc (by simp) _
  have hG : Blk ((w.alloc (.cells #[.int .i64 x.kind, .int .i64 x.a, .int .i64 x.b, .int .i64 x.n, .string x.text, .bool x.lost, .bool x.again] 46)).alloc (.cells #[.int .i64 0, .string ⟨#[]⟩, .bool false] 43)) (w.heap.size + 1) 43 #[.int .i64 0, .string ⟨#[]⟩, .bool false] := by
    have := Blk.new (w.alloc (.cells #[.int .i64 x.kind, .int .i64 x.a, .int .i64 x.b, .int .i64 x.n, .string x.text, .bool x.lost, .bool x.again] 46)) 43 #[.int .i64 0, .string ⟨#[]⟩, .bool false]
    simpa using this
  have HN := hide h
  have HW := hide hW
  have HG := hide hG
  clear h hW hG
  obtain ⟨W0, hW0⟩ : ∃ W0, W0 = ((w.alloc (.cells #[.int .i64 x.kind, .int .i64 x.a, .int .i64 x.b, .int .i64 x.n, .string x.text, .bool x.lost, .bool x.again] 46)).alloc (.cells #[.int .i64 0, .string ⟨#[]⟩, .bool false] 43)) := ⟨_, rfl⟩
  rw [← hW0] at HW HG
  have N0 : Hid (RefAt W0 p n s F) := HN.out.below HW.out
  have FIN : Hid (∀ (w1 : World) (F1 : Nat → Prop) (s1 : NS) (n1 : Nat), RefAt w1 p n1 s1 F1 → NetGo F F1 W0 w1 → n1 ≤ n + 4 → Blk w1 (w.heap.size + 1) 43 #[.int .i64 0, .string ⟨#[]⟩, .bool false] ∧
      ∀ v0 v1 v2, Blk (((w1.setCell ⟨w.heap.size + 1, 0, none⟩ v0).setCell ⟨w.heap.size + 1, 1, none⟩ v1).setCell ⟨w.heap.size + 1, 2, none⟩ v2) (w.heap.size + 1) 43 #[v0, v1, v2] ∧
        ∃ F', RefAt (((w1.setCell ⟨w.heap.size + 1, 0, none⟩ v0).setCell ⟨w.heap.size + 1, 1, none⟩ v1).setCell ⟨w.heap.size + 1, 2, none⟩ v2) p (n + 4) s1 F' ∧ NetGo F F' w (((w1.setCell ⟨w.heap.size + 1, 0, none⟩ v0).setCell ⟨w.heap.size + 1, 1, none⟩ v1).setCell ⟨w.heap.size + 1, 2, none⟩ v2)) := by
    intro w1 F1 s1 n1 hnet hgo hn1
    have hg0 : w.heap.size + 1 < W0.heap.size := Blk.lt HG.out
    have hgF : ¬ F (w.heap.size + 1) := fun hf => by have := HN.out.lt _ hf; omega
    have hgF1 : ¬ F1 (w.heap.size + 1) := fun hf => by
      rcases hgo.grow _ hf with h1 | h1
      · exact hgF h1
      · omega
    have hb1 : Blk w1 (w.heap.size + 1) 43 #[.int .i64 0, .string ⟨#[]⟩, .bool false] := (hgo.moved.block _ hg0 hgF).trans HG.out
    refine ⟨hb1, fun v0 v1 v2 => ?_⟩
    obtain ⟨h1, h2⟩ := set3 hb1 v0 v1 v2
    refine ⟨h1, F1, (hnet.moved h2 (fun k hk e => hgF1 (e ▸ hk))).mono hn1, ?_, ?_⟩
    · intro k hk
      rcases hgo.grow k hk with h3 | h3
      · exact .inl h3
      · exact .inr (Nat.le_trans HW.out.size h3)
    · have m1 : Moved F w w1 := (Moved.of_below HW.out).trans hgo.moved (fun _ h => .inl h)
      exact m1.trans h2 (fun k hk => by right; rw [hk]; omega)
  subst hW0
  by_cases k0 : x.kind = 0
  · have hr : s.res x = ⟨s.sendErr x.a x.b x.text, ByteArray.empty, false⟩ := by unfold NS.res; rw [if_pos k0]; try rfl
    have hd : s.do_ x = s.send x.a x.b x.text := by unfold NS.do_; rw [if_pos k0]; try rfl
    have k0' : (x.kind == 0) = true := by simp [k0]
    have HR := hide hr
    have HD := hide hd
    clear k0 hr hd
    go_enter Try.func19, Try.ntmps19
    go_wp2_with fail
    refine (ref_send p n s F x.a x.b x.text _ N0.out hn).mono ?_
    rintro e w1 ⟨rfl, F1, hnet, hgo⟩
    obtain ⟨hb1, hfin⟩ := FIN.out w1 F1 _ _ hnet hgo (by omega)
    have g0 := hb1.cell 0
    have g1 := hb1.cell 1
    have g2 := hb1.cell 2
    have z0 := hb1.frozen 0
    have z1 := hb1.frozen 1
    have z2 := hb1.frozen 2
    have HF := hide hfin
    simp only [List.size_toArray, List.length_cons, List.length_nil, Nat.zero_add, Nat.reduceAdd, Nat.lt_add_one, getElem?_pos, List.getElem_toArray, List.getElem_cons_zero, List.getElem_cons_succ, Nat.reduceLT] at g0 g1 g2
    clear hfin hb1 hgo hnet FIN
    go_wp2
    obtain ⟨hb2, hnet2⟩ := HF.out (.int .i64 (s.sendErr x.a x.b x.text)) (.string (⟨#[]⟩)) (.bool (false))
    refine bodyPost_ret (results_cell_row rfl _ _ (w.heap.size + 1) 43 _ (0, 0) _ rfl hb2 Try.underlying43 rfl (by kernel_rfl)) rfl ?_
    rw [HR.out, HD.out]
    exact ⟨rfl, hnet2⟩
  · by_cases k1 : x.kind = 1
    · have hr : s.res x = ⟨0, s.dText x.a x.b x.n x.lost, s.dOk x.a x.b x.n x.lost⟩ := by unfold NS.res; rw [if_neg k0, if_pos k1]; try rfl
      have hd : s.do_ x = s.deliver x.a x.b x.n x.lost x.again := by unfold NS.do_; rw [if_neg k0, if_pos k1]; try rfl
      have k0' : (x.kind == 0) = false := by simp [k0]
      have k1' : (x.kind == 1) = true := by simp [k1]
      have HR := hide hr
      have HD := hide hd
      clear k0 k1 hr hd
      go_enter Try.func19, Try.ntmps19
      go_wp2_with fail
      refine (ref_deliver p n s F x.a x.b x.n x.lost x.again _ N0.out hn).mono ?_
      rintro e w1 ⟨rfl, F1, hnet, hgo⟩
      obtain ⟨hb1, hfin⟩ := FIN.out w1 F1 _ _ hnet hgo (by omega)
      have g0 := hb1.cell 0
      have g1 := hb1.cell 1
      have g2 := hb1.cell 2
      have z0 := hb1.frozen 0
      have z1 := hb1.frozen 1
      have z2 := hb1.frozen 2
      have HF := hide hfin
      simp only [List.size_toArray, List.length_cons, List.length_nil, Nat.zero_add, Nat.reduceAdd, Nat.lt_add_one, getElem?_pos, List.getElem_toArray, List.getElem_cons_zero, List.getElem_cons_succ, Nat.reduceLT] at g0 g1 g2
      clear hfin hb1 hgo hnet FIN
      go_wp2
      obtain ⟨hb2, hnet2⟩ := HF.out (.int .i64 (0)) (.string (s.dText x.a x.b x.n x.lost)) (.bool (s.dOk x.a x.b x.n x.lost))
      refine bodyPost_ret (results_cell_row rfl _ _ (w.heap.size + 1) 43 _ (0, 0) _ rfl hb2 Try.underlying43 rfl (by kernel_rfl)) rfl ?_
      rw [HR.out, HD.out]
      exact ⟨rfl, hnet2⟩
    · by_cases k2 : x.kind = 2
      · have hr : s.res x = ⟨s.turnErr x.a x.b true, ByteArray.empty, false⟩ := by unfold NS.res; rw [if_neg k0, if_neg k1, if_pos k2]; try rfl
        have hd : s.do_ x = s.turn x.a x.b true := by unfold NS.do_; rw [if_neg k0, if_neg k1, if_pos k2]; try rfl
        have k0' : (x.kind == 0) = false := by simp [k0]
        have k1' : (x.kind == 1) = false := by simp [k1]
        have k2' : (x.kind == 2) = true := by simp [k2]
        have HR := hide hr
        have HD := hide hd
        clear k0 k1 k2 hr hd
        go_enter Try.func19, Try.ntmps19
        go_wp2_with fail
        refine (ref_cut p n s F x.a x.b _ N0.out hn).mono ?_
        rintro e w1 ⟨rfl, F1, hnet, hgo⟩
        obtain ⟨hb1, hfin⟩ := FIN.out w1 F1 _ _ hnet hgo (by omega)
        have g0 := hb1.cell 0
        have g1 := hb1.cell 1
        have g2 := hb1.cell 2
        have z0 := hb1.frozen 0
        have z1 := hb1.frozen 1
        have z2 := hb1.frozen 2
        have HF := hide hfin
        simp only [List.size_toArray, List.length_cons, List.length_nil, Nat.zero_add, Nat.reduceAdd, Nat.lt_add_one, getElem?_pos, List.getElem_toArray, List.getElem_cons_zero, List.getElem_cons_succ, Nat.reduceLT] at g0 g1 g2
        clear hfin hb1 hgo hnet FIN
        go_wp2
        obtain ⟨hb2, hnet2⟩ := HF.out (.int .i64 (s.turnErr x.a x.b true)) (.string (⟨#[]⟩)) (.bool (false))
        refine bodyPost_ret (results_cell_row rfl _ _ (w.heap.size + 1) 43 _ (0, 0) _ rfl hb2 Try.underlying43 rfl (by kernel_rfl)) rfl ?_
        rw [HR.out, HD.out]
        exact ⟨rfl, hnet2⟩
      · have hr : s.res x = ⟨s.turnErr x.a x.b false, ByteArray.empty, false⟩ := by unfold NS.res; rw [if_neg k0, if_neg k1, if_neg k2]; try rfl
        have hd : s.do_ x = s.turn x.a x.b false := by unfold NS.do_; rw [if_neg k0, if_neg k1, if_neg k2]; try rfl
        have k0' : (x.kind == 0) = false := by simp [k0]
        have k1' : (x.kind == 1) = false := by simp [k1]
        have k2' : (x.kind == 2) = false := by simp [k2]
        have HR := hide hr
        have HD := hide hd
        clear k0 k1 k2 hr hd
        go_enter Try.func19, Try.ntmps19
        go_wp2_with fail
        refine (ref_heal p n s F x.a x.b _ N0.out hn).mono ?_
        rintro e w1 ⟨rfl, F1, hnet, hgo⟩
        obtain ⟨hb1, hfin⟩ := FIN.out w1 F1 _ _ hnet hgo (by omega)
        have g0 := hb1.cell 0
        have g1 := hb1.cell 1
        have g2 := hb1.cell 2
        have z0 := hb1.frozen 0
        have z1 := hb1.frozen 1
        have z2 := hb1.frozen 2
        have HF := hide hfin
        simp only [List.size_toArray, List.length_cons, List.length_nil, Nat.zero_add, Nat.reduceAdd, Nat.lt_add_one, getElem?_pos, List.getElem_toArray, List.getElem_cons_zero, List.getElem_cons_succ, Nat.reduceLT] at g0 g1 g2
        clear hfin hb1 hgo hnet FIN
        go_wp2
        obtain ⟨hb2, hnet2⟩ := HF.out (.int .i64 (s.turnErr x.a x.b false)) (.string (⟨#[]⟩)) (.bool (false))
        refine bodyPost_ret (results_cell_row rfl _ _ (w.heap.size + 1) 43 _ (0, 0) _ rfl hb2 Try.underlying43 rfl (by kernel_rfl)) rfl ?_
        rw [HR.out, HD.out]
        exact ⟨rfl, hnet2⟩

end Go.Proofs.Ytnoihbbfodkejaa
