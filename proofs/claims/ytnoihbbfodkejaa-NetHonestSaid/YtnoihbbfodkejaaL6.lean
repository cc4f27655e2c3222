/-
  Chapter 54: the walk of NetHonest.
-/
import Derived.Test.YtnoihbbfodkejaaPair
import Derived.Test.YtnoihbbfodkejaaPlain6
namespace Go.Proofs.Ytnoihbbfodkejaa
open Go.RowKit Go.Maps

def Res.cells (r : Res) : List Value := [.int .i64 r.err, .string r.text, .bool r.ok]
def Res.none_ : Res := ⟨0, ByteArray.empty, false⟩
def resL (R : Nat → Res) (n : Nat) : List Value := (List.range n).flatMap fun j => (R j).cells
theorem resL_succ (R : Nat → Res) (n : Nat) : resL R (n + 1) = resL R n ++ (R n).cells := by simp [resL, List.range_succ]
theorem resL_len (R : Nat → Res) : ∀ n, (resL R n).length = n * 3
  | 0 => rfl
  | n + 1 => by rw [resL_succ, List.length_append, resL_len R n]; simp [Res.cells]; omega
theorem resL_get (R : Nat → Res) : ∀ (n k j : Nat), k < n → j < 3 → (resL R n)[k * 3 + j]? = (R k).cells[j]?
  | n + 1, k, j, hk, hj => by
    rw [resL_succ]
    by_cases h : k < n
    · rw [List.getElem?_append_left (by rw [resL_len]; omega)]
      exact resL_get R n k j h hj
    · have : k = n := by omega
      subst this
      rw [List.getElem?_append_right (by rw [resL_len]; omega), resL_len]
      congr 1
      omega
theorem res_one (R : Nat → Res) (n : Nat) : ∀ u ∈ (R n).cells, u.oneCell' = true := by
  intro u hu
  simp [Res.cells] at hu
  rcases hu with rfl | rfl | rfl <;> rfl
theorem res_info : (Try.prog.info? 43).map (fun i => (i.zero, i.size, i.bytes)) = some (some (.agg #[.int .i64 0, .string ByteArray.empty, .bool false]), 3, 32) := by kernel_rfl
theorem own_res {w : World} {base : Nat} {A : Option Addr} {n c : Nat} {R : Nat → Res} (h : Own w base 43 3 A n c (resL R n)) {k : Nat} (hk : k < n) :
    ∃ g, A = some ⟨g, 0, none⟩ ∧ ∀ j, j < n → w.cell? ⟨g, j * 3, none⟩ = some (.int .i64 (R j).err) ∧ w.cell? ⟨g, j * 3 + 1, none⟩ = some (.string (R j).text) ∧ w.cell? ⟨g, j * 3 + 2, none⟩ = some (.bool (R j).ok) := by
  obtain ⟨g, cap, hv, hb, hlt⟩ := World.ownsRow.form h (by omega)
  injection hv with e1 _ e3
  subst e1
  refine ⟨g, rfl, fun j hj => ?_⟩
  obtain ⟨_, h2⟩ := Own.reads h
  obtain ⟨ad, e, _, hc⟩ := h2 (by omega)
  injection e with e
  subst e
  have hq : ∀ i, i < 3 → w.cell? ⟨g, j * 3 + i, none⟩ = (R j).cells[i]? := fun i hi => by
    have h3 := resL_get R n j i hj hi
    obtain ⟨u, hu⟩ : ∃ u, (R j).cells[i]? = some u := ⟨_, List.getElem?_eq_getElem (by simp [Res.cells]; omega)⟩
    have := hc (j * 3 + i) u (by rw [h3, hu])
    rw [add_lit, Nat.zero_add] at this
    rw [hu, this]
  exact ⟨hq 0 (by omega), hq 1 (by omega), hq 2 (by omega)⟩

set_option maxRecDepth 100000 in
set_option maxHeartbeats 16000000 in
theorem law6_walk (N : Int) (A0 : Option Addr) (n c0 : Nat) (l : List St) (w : World)
    (hN : (Lit.int .i64 N).wf = true) (h0 : RSt w w.heap.size A0 n l) (hn : n ≤ maxLen) (hwf : ∀ s ∈ l, s.wf) :
    Calls Try.prog 8 #[.int .i64 N, .slice A0 n c0] w fun e w' => e = .returned (.bool true) ∧ Below w.heap.size w w' := by
  unfold maxLen at hn
  have HL : Hid (l.length = n) := h0.len
  have H0 := hide h0
  have HWF := hide hwf
  clear h0 hN hwf
  go_enter Try.func8, Try.ntmps8
  go_wp2_with fail
  refine (head_any w).mono ?_
  rintro e w0 ⟨rfl, bel0⟩
  have B0 := hide bel0
  clear bel0
  go_wp2_with fail
  by_cases hgood : ¬ (1 ≤ N ∧ N ≤ 8)
  · refine (new_bad N w0 hgood).mono ?_
    rintro e w1 ⟨rfl, b1⟩
    have B1 := hide (B0.out.trans (b1.mono B0.out.size))
    clear b1
    have HR2 : Hid (RSt w1 w1.heap.size A0 n l) := (H0.out.below B1.out).more B1.out.size
    go_wp2_with fail
    refine (few_any A0 n c0 l w1 HR2.out).mono ?_
    rintro e w3 ⟨rfl, rfl⟩
    cases fewL l
    all_goals
      go_wp2
      go_ret
      exact ⟨rfl, B1.out⟩
  have hg : 1 ≤ N ∧ N ≤ 8 := Decidable.not_not.1 hgood
  clear hgood
  refine (new_ok N w0 hg).mono ?_
  rintro e w1 ⟨p, F1, rfl, n1, l1, b1⟩
  have P1 : Hid (Pair w p 0 (NS.new N) F1 43 3 none 0 0 [] w1) := Pair.start n1 (fun k hk => Nat.le_trans B0.out.size (l1 k hk)) (B0.out.trans (b1.mono B0.out.size)) _ _
  clear n1 l1 b1 B0
  have HR2 : Hid (RSt w1 w1.heap.size A0 n l) := (H0.out.below P1.out.bel).more P1.out.bel.size
  go_wp2_with fail
  refine (few_any A0 n c0 l w1 HR2.out).mono ?_
  rintro e w3 ⟨rfl, rfl⟩
  clear HR2
  have hfew : fewL l = true → n ≤ 150 := by
    intro h
    unfold fewL at h
    simp only [Bool.and_eq_true, decide_eq_true_eq] at h
    have := HL.out
    omega
  cases hf : fewL l
  · go_wp2
    go_ret
    exact ⟨rfl, P1.out.bel⟩
  have h150 := hfew hf
  clear hfew hf hg
  obtain ⟨R, hR⟩ : ∃ R, R = resAt (NS.new N) l := ⟨_, rfl⟩
  have HR := hide hR
  clear hR
  go_wp2
  go_loopw [8, 9] (fun v i wr => ∃ (k : Nat) (A : Option Addr) (c : Nat) (F : Nat → Prop), k ≤ n ∧ i = .int .i64 k ∧ v = .slice A k c ∧
      Pair w p (8 * k) ((NS.new N).run (l.take k)) F 43 3 A k c (resL R k) wr) (fun _ i _ => n - (intOf i).toNat)
  case atStart => exact ⟨0, none, 0, F1, Nat.zero_le _, rfl, rfl, P1.out⟩
  case round =>
    obtain ⟨k, A, c, F, hk, rfl, rfl, hp⟩ := hrel
    have HP := hide hp
    clear hp
    by_cases hlt : k < n
    · have hkl : k < l.length := by rw [HL.out]; exact hlt
      have hmem : ∀ j, j < n → stp l j ∈ l := fun j hj => by
        have hjl : j < l.length := by rw [HL.out]; exact hj
        unfold stp
        rw [List.getD_eq_getElem?_getD, List.getElem?_eq_getElem hjl]
        exact List.getElem_mem _
      have hwx : (stp l k).wf := HWF.out _ (hmem k hlt)
      obtain ⟨bb, off, rfl, hb, _⟩ := H0.out.at_ hlt
      have HCELL : Hid (∀ j, j < n → ∀ w', Below w.heap.size w w' → w'.cell? ⟨bb, off + j * 7, none⟩ = some (.int .i64 (stp l j).kind) ∧ w'.cell? ⟨bb, off + j * 7 + 1, none⟩ = some (.int .i64 (stp l j).a) ∧ w'.cell? ⟨bb, off + j * 7 + 2, none⟩ = some (.int .i64 (stp l j).b) ∧
          w'.cell? ⟨bb, off + j * 7 + 3, none⟩ = some (.int .i64 (stp l j).n) ∧ w'.cell? ⟨bb, off + j * 7 + 4, none⟩ = some (.string (stp l j).text) ∧ w'.cell? ⟨bb, off + j * 7 + 5, none⟩ = some (.bool (stp l j).lost) ∧ w'.cell? ⟨bb, off + j * 7 + 6, none⟩ = some (.bool (stp l j).again)) := by
        intro j hj w' hb'
        obtain ⟨bb', off', e, _, hc⟩ := H0.out.at_ hj
        injection e with e
        injection e with e1 e2
        subst e1 e2
        have hq : ∀ i, i < 7 → w'.cell? ⟨bb, off + j * 7 + i, none⟩ = (stp l j).cells[i]? := fun i hi => (hb'.cell (p := ⟨bb, off + j * 7 + i, none⟩) hb).trans (hc i hi)
        exact ⟨hq 0 (by omega), hq 1 (by omega), hq 2 (by omega), hq 3 (by omega), hq 4 (by omega), hq 5 (by omega), hq 6 (by omega)⟩
      have hrun : (NS.new N).run (l.take (k + 1)) = ((NS.new N).run (l.take k)).do_ (stp l k) := run_take _ l k hkl
      have hres : ((NS.new N).run (l.take k)).res (stp l k) = R k := by rw [HR.out]; rfl
      have hhon := fun h1 h2 => honest N l k hkl h1 h2
      rw [← HR.out] at hhon
      have HH := hide hhon
      have HRUN := hide hrun
      have HRES := hide hres
      have HSM : Hid ((NS.new N).run (l.take k)).Small := run_small _ (NS.new_small N) _
      have HWX := hide hwx
      clear hwx hrun hres hmem hkl hhon hb
      obtain ⟨c0, c1, c2, c3, c4, c5, c6⟩ := HCELL.out k hlt wr HP.out.bel
      generalize hx : stp l k = x at c0 c1 c2 c3 c4 c5 c6 HWX HRES HRUN HH ⊢
      have HX := hide hx
      clear hx
      go_wp2_with fail
      refine (do_any p (8 * k) _ F x wr HP.out.net HWX.out.2.1 HWX.out.2.2.1 (by unfold maxLen; omega) HSM.out).mono ?_
      rw [HRES.out]
      clear c0 c1 c2 c3 c4 c5 c6
      rintro e w2 ⟨rfl, G, hn2, hg2⟩
      rw [← HRUN.out] at hn2
      have HP2 := hide (HP.out.step hn2 hg2)
      clear hn2 hg2 HP
      have HP3 := hide (HP2.out.below ((Below.refl _ _).alloc (Nat.le_refl _) (.cells #[.int .i64 (R k).err, .string (R k).text, .bool (R k).ok] 43)))
      have RR : Hid (Reads (w2.alloc (.cells #[.int .i64 (R k).err, .string (R k).text, .bool (R k).ok] 43)) (w2.heap.size + 1) 3 (some ⟨w2.heap.size, 0, none⟩) 1 (R k).cells) := reads_new w2 #[.int .i64 (R k).err, .string (R k).text, .bool (R k).ok] 43 3 1 rfl
      go_upto_region 10 with (at_builtin; refine wpList_app_pair rfl (.tmp 50) (.tmp 57) 52 rfl (.agg #[.int .i64 0, .string ByteArray.empty, .bool false]) 32 Try.underlying52 res_info rfl (by omega) rfl HP3.out _ _ 1 _ (R k).cells rfl RR.out (res_one R k) (by unfold maxLen; omega) (by omega) ?_; intro A3 c3 w3 hp3 _; rw [← resL_succ] at hp3; have HP4 := hide hp3; clear hp3)
      clear HP2 HP3 RR
      have HP5 : Hid (Pair w p (8 * (k + 1)) ((NS.new N).run (l.take (k + 1))) G 43 3 A3 (k + 1) c3 (resL R (k + 1)) w3) := HP4.out.mono (by omega)
      clear HP4
      obtain ⟨g, rfl, hres⟩ := own_res HP5.out.own (k := k) (by omega)
      have HRS := hide hres
      clear hres
      obtain ⟨d0, d1, d2, d3, d4, d5, d6⟩ := HCELL.out k hlt w3 HP5.out.bel
      rw [HX.out] at d0 d1 d2 d3 d4 d5 d6
      obtain ⟨r0, r1, r2⟩ := HRS.out k (by omega)
      have hk0 : (k : Int) < (k : Int) + 1 := by omega
      by_cases q1 : x.kind = 1
      · have z1 : (x.kind != 1) = false := by simp [q1]
        have Q1 := hide q1
        clear q1
        cases hok : (R k).ok
        · rw [hok] at r2
          have HOK := hide hok
          clear hok
          go_wp2_with fail
          go_roundw
          case rel => exact ⟨k + 1, _, _, G, by omega, by go_num, rfl, HP5.out⟩
          case measure => simp [intOf]; omega
        · have hh := HH.out Q1.out hok
          rw [hok] at r2
          have HOK := hide hok
          have HHH := hide hh
          clear hok hh HH
          go_wp2_with fail
          go_loopw [10, 11, 12, 13] (fun sv gv kv jv wq => ∃ (j m : Nat), j ≤ k + 1 ∧ jv = .int .i64 j ∧ sv = .int .i64 (cntN (sentP x.a x.b) l R j : Nat) ∧ gv = .int .i64 (cntN (gotP x.a x.b) l R j : Nat) ∧
              kv = .bool (knownN (sentP x.a x.b) l R (R k).text j) ∧ wq = w3.drewN m) (fun _ _ _ jv _ => k + 1 - (intOf jv).toNat)
          case atStart => exact ⟨0, 0, Nat.zero_le _, rfl, rfl, rfl, rfl, rfl⟩
          case round =>
            obtain ⟨j, m, hj, rfl, rfl, rfl, rfl, rfl⟩ := hrel
            by_cases hjk : j < k + 1
            ·
              have hjle : (j : Int) ≤ (k : Int) := by omega
              have hjn : (j : Int) < (n : Int) := by omega
              have hjk1 : (j : Int) < (k : Int) + 1 := by omega
              have HSN : Hid (cntN (sentP x.a x.b) l R (j + 1) = cntN (sentP x.a x.b) l R j + if sentP x.a x.b (stp l j) (R j) = true then 1 else 0) := rfl
              have HGN : Hid (cntN (gotP x.a x.b) l R (j + 1) = cntN (gotP x.a x.b) l R j + if gotP x.a x.b (stp l j) (R j) = true then 1 else 0) := rfl
              have HKN : Hid (knownN (sentP x.a x.b) l R (R k).text (j + 1) = (knownN (sentP x.a x.b) l R (R k).text j || (sentP x.a x.b (stp l j) (R j) && decide ((stp l j).text = (R k).text)))) := rfl
              have hs1 := cntN_le (sentP x.a x.b) l R j
              have hg1 := cntN_le (gotP x.a x.b) l R j
              generalize cntN (sentP x.a x.b) l R j = sj at HSN hs1 ⊢
              generalize cntN (gotP x.a x.b) l R j = gj at HGN hg1 ⊢
              generalize knownN (sentP x.a x.b) l R (R k).text j = kn at HKN ⊢
              obtain ⟨t0, t1, t2, t3, t4, t5, t6⟩ := HCELL.out j (by omega) w3 HP5.out.bel
              obtain ⟨s0, s1, s2⟩ := HRS.out j hjk
              by_cases p1 : ¬ (stp l j).a = x.a
              ·
                have y0 : ((stp l j).a != x.a) = true := by simp [p1]
                have PS : Hid (sentP x.a x.b (stp l j) (R j) = false) := by show _ = _; simp [sentP, p1]
                have PG : Hid (gotP x.a x.b (stp l j) (R j) = false) := by show _ = _; simp [gotP, p1]
                clear p1
                go_wp2_with fail
                go_quiet (fail)
                go_wp2_with fail
                have DT : Hid (True) := trivial
                go_roundw
                case rel => exact ⟨j + 1, _, by omega, by go_num, by rw [HSN.out, PS.out]; simp, by rw [HGN.out, PG.out]; simp, by rw [HKN.out, PS.out]; simp [DT.out], rfl⟩
                case measure => simp [intOf]; omega

              ·
                have p1 := Decidable.not_not.1 p1
                by_cases p2 : ¬ (stp l j).b = x.b
                ·
                  have y0 : ((stp l j).a != x.a) = false := by simp [p1]
                  have y1 : ((stp l j).b != x.b) = true := by simp [p2]
                  have PS : Hid (sentP x.a x.b (stp l j) (R j) = false) := by show _ = _; simp [sentP, p1, p2]
                  have PG : Hid (gotP x.a x.b (stp l j) (R j) = false) := by show _ = _; simp [gotP, p1, p2]
                  clear p1 p2
                  go_wp2_with fail
                  go_quiet (fail)
                  go_wp2_with fail
                  have DT : Hid (True) := trivial
                  go_roundw
                  case rel => exact ⟨j + 1, _, by omega, by go_num, by rw [HSN.out, PS.out]; simp, by rw [HGN.out, PG.out]; simp, by rw [HKN.out, PS.out]; simp [DT.out], rfl⟩
                  case measure => simp [intOf]; omega

                ·
                  have p2 := Decidable.not_not.1 p2
                  by_cases p3 : (stp l j).kind = 0
                  ·
                    by_cases p4 : (R j).err = 0
                    ·
                      have y0 : ((stp l j).a != x.a) = false := by simp [p1]
                      have y1 : ((stp l j).b != x.b) = false := by simp [p2]
                      have y2 : ((stp l j).kind == 0) = true := by simp [p3]
                      have y3 : ((stp l j).kind == 1) = false := by simp [p3]
                      have y4 : ((R j).err == 0) = true := by simp [p4]
                      have PS : Hid (sentP x.a x.b (stp l j) (R j) = true) := by show _ = _; simp [sentP, p1, p2, p3, p4]
                      have PG : Hid (gotP x.a x.b (stp l j) (R j) = false) := by show _ = _; simp [gotP, p1, p2, p3]
                      clear p1 p2 p3 p4
                      cases kn
                      ·
                        by_cases p5 : (stp l j).text = (R k).text
                        ·
                          have y5 : ((stp l j).text.toList == (R k).text.toList) = true := by rw [p5]; exact toList_eq _
                          have DT : Hid (decide ((stp l j).text = (R k).text) = true) := by show _ = _; simp [p5]
                          clear p5
                          go_wp2_with fail
                          go_quiet (fail)
                          go_wp2_with fail
                          go_quiet (fail)
                          go_wp2_with fail
                          go_roundw
                          case rel => exact ⟨j + 1, _, by omega, by go_num, by rw [HSN.out, PS.out]; simp, by rw [HGN.out, PG.out]; simp, by rw [HKN.out, PS.out]; simp [DT.out], rfl⟩
                          case measure => simp [intOf]; omega

                        ·
                          have y5 : ((stp l j).text.toList == (R k).text.toList) = false := toList_ne p5
                          have DT : Hid (decide ((stp l j).text = (R k).text) = false) := by show _ = _; simp [p5]
                          clear p5
                          go_wp2_with fail
                          go_quiet (fail)
                          go_wp2_with fail
                          go_quiet (fail)
                          go_wp2_with fail
                          go_roundw
                          case rel => exact ⟨j + 1, _, by omega, by go_num, by rw [HSN.out, PS.out]; simp, by rw [HGN.out, PG.out]; simp, by rw [HKN.out, PS.out]; simp [DT.out], rfl⟩
                          case measure => simp [intOf]; omega

                      ·
                        have DT : Hid (True) := trivial
                        go_wp2_with fail
                        go_quiet (fail)
                        go_wp2_with fail
                        go_quiet (fail)
                        go_wp2_with fail
                        go_roundw
                        case rel => exact ⟨j + 1, _, by omega, by go_num, by rw [HSN.out, PS.out]; simp, by rw [HGN.out, PG.out]; simp, by rw [HKN.out, PS.out]; simp [DT.out], rfl⟩
                        case measure => simp [intOf]; omega

                    ·
                      have y0 : ((stp l j).a != x.a) = false := by simp [p1]
                      have y1 : ((stp l j).b != x.b) = false := by simp [p2]
                      have y2 : ((stp l j).kind == 0) = true := by simp [p3]
                      have y3 : ((stp l j).kind == 1) = false := by simp [p3]
                      have y4 : ((R j).err == 0) = false := by simp [p4]
                      have PS : Hid (sentP x.a x.b (stp l j) (R j) = false) := by show _ = _; simp [sentP, p1, p2, p3, p4]
                      have PG : Hid (gotP x.a x.b (stp l j) (R j) = false) := by show _ = _; simp [gotP, p1, p2, p3, p4]
                      clear p1 p2 p3 p4
                      go_wp2_with fail
                      go_quiet (fail)
                      go_wp2_with fail
                      have DT : Hid (True) := trivial
                      go_roundw
                      case rel => exact ⟨j + 1, _, by omega, by go_num, by rw [HSN.out, PS.out]; simp, by rw [HGN.out, PG.out]; simp, by rw [HKN.out, PS.out]; simp [DT.out], rfl⟩
                      case measure => simp [intOf]; omega


                  ·
                    by_cases p4 : (stp l j).kind = 1
                    ·
                      have p3 := p4
                      clear p4
                      have y0 : ((stp l j).a != x.a) = false := by simp [p1]
                      have y1 : ((stp l j).b != x.b) = false := by simp [p2]
                      have y2 : ((stp l j).kind == 0) = false := by simp [p3]
                      have y3 : ((stp l j).kind == 1) = true := by simp [p3]
                      cases p4 : (R j).ok
                      ·
                        rw [p4] at s2
                        have PS : Hid (sentP x.a x.b (stp l j) (R j) = false) := by show _ = _; simp [sentP, p1, p2, p3, p4]
                        have PG : Hid (gotP x.a x.b (stp l j) (R j) = false) := by show _ = _; simp [gotP, p1, p2, p3, p4]
                        clear p1 p2 p3 p4
                        go_wp2_with fail
                        go_quiet (fail)
                        go_wp2_with fail
                        have DT : Hid (True) := trivial
                        go_roundw
                        case rel => exact ⟨j + 1, _, by omega, by go_num, by rw [HSN.out, PS.out]; simp, by rw [HGN.out, PG.out]; simp, by rw [HKN.out, PS.out]; simp [DT.out], rfl⟩
                        case measure => simp [intOf]; omega

                      ·
                        rw [p4] at s2
                        cases p5 : (stp l j).again
                        ·
                          rw [p5] at t6
                          have PS : Hid (sentP x.a x.b (stp l j) (R j) = false) := by show _ = _; simp [sentP, p1, p2, p3, p4, p5]
                          have PG : Hid (gotP x.a x.b (stp l j) (R j) = true) := by show _ = _; simp [gotP, p1, p2, p3, p4, p5]
                          clear p1 p2 p3 p4 p5
                          go_wp2_with fail
                          go_quiet (fail)
                          go_wp2_with fail
                          have DT : Hid (True) := trivial
                          go_roundw
                          case rel => exact ⟨j + 1, _, by omega, by go_num, by rw [HSN.out, PS.out]; simp, by rw [HGN.out, PG.out]; simp, by rw [HKN.out, PS.out]; simp [DT.out], rfl⟩
                          case measure => simp [intOf]; omega

                        ·
                          rw [p5] at t6
                          have PS : Hid (sentP x.a x.b (stp l j) (R j) = false) := by show _ = _; simp [sentP, p1, p2, p3, p4, p5]
                          have PG : Hid (gotP x.a x.b (stp l j) (R j) = false) := by show _ = _; simp [gotP, p1, p2, p3, p4, p5]
                          clear p1 p2 p3 p4 p5
                          go_wp2_with fail
                          go_quiet (fail)
                          go_wp2_with fail
                          have DT : Hid (True) := trivial
                          go_roundw
                          case rel => exact ⟨j + 1, _, by omega, by go_num, by rw [HSN.out, PS.out]; simp, by rw [HGN.out, PG.out]; simp, by rw [HKN.out, PS.out]; simp [DT.out], rfl⟩
                          case measure => simp [intOf]; omega



                    ·
                      have y0 : ((stp l j).a != x.a) = false := by simp [p1]
                      have y1 : ((stp l j).b != x.b) = false := by simp [p2]
                      have y2 : ((stp l j).kind == 0) = false := by simp [p3]
                      have y3 : ((stp l j).kind == 1) = false := by simp [p4]
                      have PS : Hid (sentP x.a x.b (stp l j) (R j) = false) := by show _ = _; simp [sentP, p1, p2, p3, p4]
                      have PG : Hid (gotP x.a x.b (stp l j) (R j) = false) := by show _ = _; simp [gotP, p1, p2, p3, p4]
                      clear p1 p2 p3 p4
                      go_wp2_with fail
                      go_quiet (fail)
                      go_wp2_with fail
                      have DT : Hid (True) := trivial
                      go_roundw
                      case rel => exact ⟨j + 1, _, by omega, by go_num, by rw [HSN.out, PS.out]; simp, by rw [HGN.out, PG.out]; simp, by rw [HKN.out, PS.out]; simp [DT.out], rfl⟩
                      case measure => simp [intOf]; omega





            ·
              have hjk2 : j = k + 1 := by omega
              subst hjk2
              rw [HHH.out.1]
              have hle := HHH.out.2
              generalize cntN (sentP x.a x.b) l R (k + 1) = sj at hle ⊢
              generalize cntN (gotP x.a x.b) l R (k + 1) = gj at hle ⊢
              have hle' : (gj : Int) ≤ (sj : Int) := by omega
              have hnle : ¬ ((k : Int) + 1 ≤ (k : Int)) := by omega
              clear hle
              go_wp2_with fail
              go_roundw
              case rel => exact ⟨k + 1, _, _, G, by omega, by go_num, rfl, HP5.out.drewN _⟩
              case measure => simp [intOf]; omega

      · have z1 : (x.kind != 1) = true := by simp [q1]
        have Q1 := hide q1
        clear q1
        go_wp2_with fail
        go_roundw
        case rel => exact ⟨k + 1, _, _, G, by omega, by go_num, rfl, HP5.out⟩
        case measure => simp [intOf]; omega
    · go_wp2
      go_ret
      exact ⟨rfl, HP.out.bel⟩
end Go.Proofs.Ytnoihbbfodkejaa
