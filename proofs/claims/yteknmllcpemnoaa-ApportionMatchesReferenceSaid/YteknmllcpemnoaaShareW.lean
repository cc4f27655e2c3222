/-
  Chapter 28: the walk of Share.
-/
import Derived.Test.YteknmllcpemnoaaShare
namespace Go.Proofs.Yteknmllcpemnoaa
open Go.RowKit Go.Deep

set_option maxRecDepth 100000 in
set_option maxHeartbeats 4000000 in
theorem share_bad (A : Option Addr) (n c : Nat) (ws : List Int) (total : Int) (w : World) (h : RI w w.heap.size A n ws) (hn : n ≤ maxLen) (he : shrE total ws ≠ 0) :
    Calls Try.prog 10 #[.int .i64 total, .slice A n c] w (RetLE w (shrL total ws) (shrE total ws)) := by
  have HN := hide hn
  unfold maxLen at hn
  have HL := hide h.len
  have HZ : Hid (shrL total ws = []) := by show _ = _; simp [shrL, he]
  by_cases h1 : n < 1
  · have HE : Hid (shrE total ws = 1) := by
      have : ws.length < 1 := by rw [HL.out]; exact h1
      show _ = _; unfold shrE; rw [if_pos (by simp [this])]
    clear he
    go_enter Try.func10, Try.ntmps10
    go_wp2
    go_ret2
    rw [HZ.out, HE.out]
    exact RetLE.none_ (Below.refl _ _)
  by_cases h2 : 200 < n
  · have HE : Hid (shrE total ws = 1) := by
      have : 200 < ws.length := by rw [HL.out]; exact h2
      show _ = _; unfold shrE; rw [if_pos (by simp [this])]
    clear he
    go_enter Try.func10, Try.ntmps10
    go_wp2
    go_ret2
    rw [HZ.out, HE.out]
    exact RetLE.none_ (Below.refl _ _)
  cases hb : badW ws
  case true =>
    have HE : Hid (shrE total ws = 1) := by
      show _ = _; unfold shrE; rw [if_pos (by simp [hb])]
    have HB := hide hb
    clear he hb
    go_enter Try.func10, Try.ntmps10
    go_wp2_with fail
    refine (contains_any _ _ _ _ _ h HN.out).mono ?_
    rintro e w1 ⟨rfl, rfl⟩
    rw [HB.out]
    go_wp2
    go_ret2
    rw [HZ.out, HE.out]
    exact RetLE.none_ (Below.refl _ _)
  by_cases h3 : total < 0
  · have HE : Hid (shrE total ws = 1) := by
      show _ = _; unfold shrE; rw [if_pos (by simp [h3])]
    have HB := hide hb
    clear he hb
    go_enter Try.func10, Try.ntmps10
    go_wp2_with fail
    refine (contains_any _ _ _ _ _ h HN.out).mono ?_
    rintro e w1 ⟨rfl, rfl⟩
    rw [HB.out]
    go_wp2
    go_ret2
    rw [HZ.out, HE.out]
    exact RetLE.none_ (Below.refl _ _)
  by_cases h4 : 720 < total
  · have HE : Hid (shrE total ws = 1) := by
      show _ = _; unfold shrE; rw [if_pos (by simp [h4])]
    have HB := hide hb
    clear he hb
    go_enter Try.func10, Try.ntmps10
    go_wp2_with fail
    refine (contains_any _ _ _ _ _ h HN.out).mono ?_
    rintro e w1 ⟨rfl, rfl⟩
    rw [HB.out]
    go_wp2
    go_ret2
    rw [HZ.out, HE.out]
    exact RetLE.none_ (Below.refl _ _)
  have hlo : ¬ ws.length < 1 := by rw [HL.out]; exact h1
  have hhi : ¬ 200 < ws.length := by rw [HL.out]; exact h2
  have hal : ws.all (fun x => decide (x = 0)) = true ∧ 0 < total := by
    unfold shrE at he
    rw [if_neg (by simp [hlo, hhi, hb, h3, h4])] at he
    by_cases hc : (ws.all (fun x => decide (x = 0)) && decide (0 < total)) = true
    · simpa only [Bool.and_eq_true, decide_eq_true_eq] using hc
    · rw [if_neg hc] at he; exact absurd rfl he
  have HE : Hid (shrE total ws = 10) := by
    show _ = _; unfold shrE; rw [if_neg (by simp [hlo, hhi, hb, h3, h4]), if_pos (by rw [hal.1]; simpa using hal.2)]
  have ht := hal.2
  have hm : (maxTo ws n == 0) = true := by rw [maxTo_zero hb n HL.out (by omega)]; exact hal.1
  have hpos : 0 < n := by omega
  have HB := hide hb
  clear he hb hal hlo hhi
  go_enter Try.func10, Try.ntmps10
  go_wp2_with fail
  refine (contains_any _ _ _ _ _ h HN.out).mono ?_
  rintro e w1 ⟨rfl, rfl⟩
  rw [HB.out]
  go_wp2_with fail
  refine (max_any _ _ _ _ _ h hpos HN.out).mono ?_
  rintro e w1 ⟨rfl, rfl⟩
  go_wp2
  go_ret2
  rw [HZ.out, HE.out]
  exact RetLE.none_ (Below.refl _ _)

theorem shrE_ok {total : Int} {ws : List Int} (h : shrE total ws = 0) : 1 ≤ ws.length ∧ ws.length ≤ 200 ∧ badW ws = false ∧ 0 ≤ total ∧ total ≤ 720 ∧ (ws.all (fun x => decide (x = 0)) = true → total = 0) := by
  unfold shrE at h
  by_cases hc : (decide (ws.length < 1) || decide (200 < ws.length) || badW ws || decide (total < 0) || decide (720 < total)) = true
  · rw [if_pos hc] at h; omega
  · rw [if_neg hc] at h
    simp only [Bool.or_eq_true, decide_eq_true_eq, not_or, Bool.not_eq_true] at hc
    obtain ⟨⟨⟨⟨a1, a2⟩, a3⟩, a4⟩, a5⟩ := hc
    refine ⟨by omega, by omega, a3, by omega, by omega, fun hz => ?_⟩
    rw [hz] at h
    simp only [Bool.true_and] at h
    split at h
    · omega
    · rename_i hh
      have : ¬ 0 < total := by simpa using hh
      omega

set_option maxRecDepth 100000 in
set_option maxHeartbeats 4000000 in
theorem share_ok (A : Option Addr) (n c : Nat) (ws : List Int) (total : Int) (w : World) (h : RI w w.heap.size A n ws) (he : shrE total ws = 0) :
    Calls Try.prog 10 #[.int .i64 total, .slice A n c] w (RetLE w (run ws total.toNat) 0) := by
  obtain ⟨h1, h2, hb, h3, h4, hz⟩ := shrE_ok he
  have HL := hide h.len
  rw [HL.out] at h1 h2
  have HN : Hid (n ≤ maxLen) := by show _ ≤ _; unfold maxLen; omega
  have hm : (maxTo ws n == 0) = true ∧ total = 0 ∨ (maxTo ws n == 0) = false := by
    rw [maxTo_zero hb n HL.out (by omega)]
    cases hc : ws.all (fun x => decide (x = 0))
    · exact .inr rfl
    · exact .inl ⟨rfl, hz hc⟩
  have HB := hide hb
  have hmk := make_runS (P := Try.prog) 40 42 _ 2 16 Try.underlying40 party_info n (by omega) (by omega) w
  have HP := hide (Parties.made w ws n HL.out)
  have HB0 := hide ((Below.refl w.heap.size w).alloc (Nat.le_refl _) (.cells (madeCells #[.int .i64 0, .int .i64 0] (n * 2)) 42))
  have h1' : ¬ n < 1 := by omega
  have h2' : ¬ 200 < n := by omega
  have hpos : 0 < n := by omega
  clear hz hb he
  obtain ⟨T, rfl⟩ := Int.eq_ofNat_of_zero_le h3
  have ht0 : (T : Int) ≤ 720 := h4
  have hm' : ((maxTo ws n == 0) = true ∧ ¬ 0 < (T : Int)) ∨ (maxTo ws n == 0) = false := by
    rcases hm with ⟨a, b⟩ | a
    · exact .inl ⟨a, by omega⟩
    · exact .inr a
  clear hm
  rcases hm' with ⟨hm, hT⟩ | hm
  all_goals
    go_enter Try.func10, Try.ntmps10
    go_wp2_with fail
    refine (contains_any _ _ _ _ _ h HN.out).mono ?_
    rintro e w1 ⟨rfl, rfl⟩
    rw [HB.out]
    go_wp2_with fail
    refine (max_any _ _ _ _ _ h hpos HN.out).mono ?_
    rintro e w1 ⟨rfl, rfl⟩
    go_wp2
    clear hm hmk
    go_loopw [48] (fun i wr => ∃ k : Nat, k ≤ n ∧ i = .int .i64 k ∧ Parties wr w.heap.size (part ws k) (List.replicate n 0) ∧ Below w.heap.size w wr) (fun i _ => n - (intOf i).toNat)
    case atStart => exact ⟨0, Nat.zero_le _, rfl, HP.out, HB0.out⟩
    case round =>
      obtain ⟨k, hk, rfl, hp, hb⟩ := hrel
      by_cases hlt : k < n
      · obtain ⟨b, off, rfl, hbl, hc⟩ := (h.below hb).at_ hlt
        have c1 := hp.weight (k := k) (by rw [part_len, HL.out]; exact hlt)
        have f1 := hp.frozen (k * 2)
        have HP2 := hide (hp.setW (i := k) (by rw [part_len, HL.out]; exact hlt) (nth ws k))
        go_wp2
        go_roundw
        case rel => exact ⟨k + 1, by omega, by go_num, by rw [← part_set ws k (by rw [HL.out]; exact hlt)]; exact HP2.out, hb.setCell (Nat.le_refl _) _⟩
        case measure => simp [intOf]; omega
      · obtain rfl : k = n := by omega
        have HP3 : Hid (Parties wr w.heap.size ws (run ws 0)) := by
          have := hp
          rw [show part ws k = ws from by have := part_all ws; rwa [HL.out] at this] at this
          show Parties _ _ _ _
          simp only [run, HL.out]
          exact this
        clear hp
        have HBw := hide hb
        clear hb
        obtain ⟨wo, rfl⟩ : ∃ x : World, x = wr := ⟨_, rfl⟩
        go_wp2
        go_loopw [60] (fun i wr => ∃ t : Nat, t ≤ T ∧ i = .int .i64 t ∧ Parties wr w.heap.size ws (run ws t) ∧ Below w.heap.size w wr) (fun i _ => T - (intOf i).toNat)
        case atStart => exact ⟨0, Nat.zero_le _, rfl, HP3.out, HBw.out⟩
        case round =>
          obtain ⟨t, ht, rfl, hp, hb⟩ := hrel
          by_cases htl : t < T
          · first
            | (exfalso; omega)
            | (
                have HBD := hide (run_bd ws (by rw [HL.out]; exact hpos) t)
                have hbst := best_lt ws (run ws t) (by rw [HL.out]; exact hpos)
                rw [HL.out] at hbst
                have hg := hp.lt
                have bd := HBD.out (best ws (run ws t))
                go_wp2_with fail
                refine (best_any w.heap.size k _ ws (run ws t) _ hp HL.out hpos (by omega) HB.out (fun j => ⟨(HBD.out j).1, by have := (HBD.out j).2; omega⟩)).mono ?_
                rintro e w2 ⟨rfl, hb2⟩
                have hp2 := hp.below hg hb2
                have hbb := hb.trans (hb2.mono hb.size)
                have c2 := hp2.seats (k := best ws (run ws t)) (by rw [HL.out]; exact hbst)
                have f2 := hp2.frozen (best ws (run ws t) * 2 + 1)
                have HP2 := hide (hp2.setS (run_len ws t) (i := best ws (run ws t)) (by rw [HL.out]; exact hbst) (nth (run ws t) (best ws (run ws t)) + 1))
                clear hp hp2 hb
                go_wp2
                go_roundw
                case rel => exact ⟨t + 1, by omega, by go_num, HP2.out, hbb.setCell (Nat.le_refl _) _⟩
                case measure => simp [intOf]; omega)
          · obtain rfl : t = T := by omega
            have hmk2 := make_run (P := Try.prog) 22 3 _ 8 Try.underlying22 int_info rfl k (by omega) (by omega) wr
            have hg := hp.lt
            have HR0 : Hid ((wr.alloc (.cells (Array.replicate k (Value.int .i64 0)) 3)).rowIs wr.heap.size 3 k (fun j => .int .i64 (nth (part (run ws t) 0) j))) := by
              refine ⟨_, heap_alloc_new wr _, by simp, fun j hj => ?_⟩
              show _ = some (Value.int .i64 (nth (part (run ws t) 0) j))
              rw [part_nth _ _ _ (by rw [run_len, HL.out]; exact hj)]
              simp [hj]
            have HPA := hide (hp.alloc (.cells (Array.replicate k (Value.int .i64 0)) 3))
            have HBA := hide (hb.alloc hb.size (.cells (Array.replicate k (Value.int .i64 0)) 3))
            have HSZ := hide hb.size
            clear hp hb HP3 HBw
            go_wp2
            clear hmk2
            obtain ⟨wp, rfl⟩ : ∃ x : World, x = wr := ⟨_, rfl⟩
            go_loopw [77] (fun i wr => ∃ j : Nat, j ≤ k ∧ i = .int .i64 j ∧ Parties wr w.heap.size ws (run ws t) ∧ wr.rowIs wp.heap.size 3 k (fun i => .int .i64 (nth (part (run ws t) j) i)) ∧ Below w.heap.size w wr) (fun i _ => k - (intOf i).toNat)
            case atStart => exact ⟨0, Nat.zero_le _, rfl, HPA.out, HR0.out, HBA.out⟩
            case round =>
              obtain ⟨j, hj, rfl, hp, hr, hb⟩ := hrel
              by_cases hjk : j < k
              · have c1 := hp.weight (k := j) (by rw [HL.out]; exact hjk)
                have c2 := hp.seats (k := j) (by rw [HL.out]; exact hjk)
                have hg2 := hr.lt
                have hgp := hp.lt
                have c3 := hr.cell (i := j) hjk
                have f3 := hr.frozen j
                have HP1 := hide ((hp.far (a := ⟨wp.heap.size, j, none⟩) (by show w.heap.size ≠ wp.heap.size; omega) (.int .i64 (nth (run ws t) j))).alloc (.cells #[.int .i64 (nth ws j), .int .i64 (nth (run ws t) j)] 42))
                have HR1 := hide (row_put hr (by rw [run_len, HL.out]) hjk (.cells #[.int .i64 (nth ws j), .int .i64 (nth (run ws t) j)] 42))
                have HB1 := hide ((hb.setCell (p := ⟨wp.heap.size, j, none⟩) HSZ.out (.int .i64 (nth (run ws t) j))).alloc (by simp [World.setCell]; exact hb.size) (.cells #[.int .i64 (nth ws j), .int .i64 (nth (run ws t) j)] 42))
                clear hp hr hb
                go_wp2
                go_roundw
                case rel => exact ⟨j + 1, by omega, by go_num, HP1.out, HR1.out, HB1.out⟩
                case measure => simp [intOf]; omega
              · obtain rfl : j = k := by omega
                go_wp2
                go_ret2
                have e1 : (run ws t).length = j := by rw [run_len, HL.out]
                have e2 : part (run ws t) j = run ws t := by have := part_all (run ws t); rwa [e1] at this
                rw [e2] at hr
                simp only [Int.toNat_natCast]
                exact ⟨some ⟨wp.heap.size, 0, none⟩, j, by rw [e1]; rfl, by rw [e1]; exact rowIs_reads hr e1, hb⟩

/-- Share: the seats, and the error. -/
theorem share_any (A : Option Addr) (n c : Nat) (ws : List Int) (total : Int) (w : World) (h : RI w w.heap.size A n ws) (hn : n ≤ maxLen) :
    Calls Try.prog 10 #[.int .i64 total, .slice A n c] w (RetLE w (shrL total ws) (shrE total ws)) := by
  by_cases he : shrE total ws = 0
  · have := share_ok A n c ws total w h he
    rw [he, show shrL total ws = run ws total.toNat by simp [shrL, he]]
    exact this
  · exact share_bad A n c ws total w h hn he
end Go.Proofs.Yteknmllcpemnoaa
