/-
  observatoryref21.Same.
-/
import Derived.Test.YtkomgidcgepknaaGreatDoorNodA
import Derived.Test.YtkomgidcgepknaaGreatDoorExpH
set_option linter.unusedVariables false
set_option linter.unusedSimpArgs false
namespace Go.Proofs.YtkomgidcgepknaaGreatDoor
open Go.RowKit Go.Deep Go.Maps

theorem nod_eq {x y : Nod} (h1 : x.op = y.op) (h2 : x.n = y.n) (h3 : x.name = y.name) (h4 : x.kids = y.kids) : x = y := by
  cases x; cases y; simp only at h1 h2 h3 h4; rw [h1, h2, h3, h4]
theorem list_nodes {a b : List Nod} (hl : a.length = b.length) (h : ∀ i, i < a.length → nodAt a i = nodAt b i) : a = b := by
  apply List.ext_getElem? 
  intro i
  by_cases hi : i < a.length
  · rw [nodAt_get hi, nodAt_get (by omega), h i hi]
  · rw [List.getElem?_eq_none (by omega), List.getElem?_eq_none (by omega)]
theorem list_kids {a b : List Int} (hl : a.length = b.length) (h : ∀ i, i < a.length → nth a i = nth b i) : a = b := by
  apply List.ext_getElem? 
  intro i
  by_cases hi : i < a.length
  · have := h i hi
    unfold nth at this
    rw [List.getD_eq_getElem?_getD, List.getD_eq_getElem?_getD, List.getElem?_eq_getElem hi, List.getElem?_eq_getElem (by omega)] at this
    rw [List.getElem?_eq_getElem hi, List.getElem?_eq_getElem (by omega)]
    exact congrArg some this
  · rw [List.getElem?_eq_none (by omega), List.getElem?_eq_none (by omega)]
def SamePost (a b : List Nod) (w : World) (en : Ending) (w' : World) : Prop := ∃ r : Bool, en = .returned (.bool r) ∧ (r = true ↔ a = b) ∧ ∃ m, w' = w.drewN m
set_option maxHeartbeats 8000000 in
set_option maxRecDepth 20000 in
theorem same_any (A : Option Addr) (ca : Nat) (a : List Nod) (B : Option Addr) (cb : Nat) (b : List Nod) (w : World) (ha : ExprAt w w.heap.size A a) (hb : ExprAt w w.heap.size B b)
    (ma : a.length ≤ maxLen) (mb : b.length ≤ maxLen) (na : ∀ x ∈ a, x.name.size ≤ maxLen) (nb : ∀ x ∈ b, x.name.size ≤ maxLen) (ka : ∀ x ∈ a, x.kids.length ≤ maxLen) (kb : ∀ x ∈ b, x.kids.length ≤ maxLen) :
    Calls Tryz.prog 35 #[.slice A a.length ca, .slice B b.length cb] w (SamePost a b w) := by
  have HA := hide ha
  have HB := hide hb
  have HNA := hide na
  have HNB := hide nb
  have HKA := hide ka
  have HKB := hide kb
  unfold maxLen at ma mb
  clear ha hb na nb ka kb
  by_cases hlen : a.length = b.length
  · have HL := hide hlen
    obtain ⟨nn, hnn⟩ : ∃ nn, nn = a.length := ⟨_, rfl⟩
    have HNN := hide hnn
    have hnb : b.length = nn := by omega
    have HNNB := hide hnb
    rw [hnb, ← hnn]
    rw [← hnn] at ma
    clear hlen hnn hnb mb
    go_enter Tryz.func35, Tryz.ntmps35
    go_wp2
    go_loopw [5] (fun t5 wr => ∃ i : Nat, i ≤ nn ∧ t5 = .int .i64 i ∧ (∀ j, j < i → nodAt a j = nodAt b j) ∧ ∃ m, wr = w.drewN m) (fun t5 _ => nn - (intOf t5).toNat)
    case atStart => exact ⟨0, Nat.zero_le _, rfl, fun j hj => absurd hj (Nat.not_lt_zero _), 0, rfl⟩
    case round =>
      obtain ⟨i, hi, rfl, hall, m, hwm⟩ := hrel
      have HALL := hide hall
      have HW := hide hwm
      clear hall hwm
      by_cases hlt : i < nn
      · obtain ⟨be, offe, K, kc, rfl, hbe, x0, x1, x2, x3, hKd⟩ := HA.out.at_ (i := i) (by have := HNN.out; omega)
        obtain ⟨bf, offf, K', kc', rfl, hbf, y0, y1, y2, y3, hKe⟩ := HB.out.at_ (i := i) (by have := HNNB.out; omega)
        have x0 : wr.cell? ⟨be, offe + i * 4, none⟩ = some (.int .i64 (nodAt a i).op) := by rw [HW.out]; exact x0
        have x1 : wr.cell? ⟨be, offe + i * 4 + 1, none⟩ = some (.int .i64 (nodAt a i).n) := by rw [HW.out]; exact x1
        have x2 : wr.cell? ⟨be, offe + i * 4 + 2, none⟩ = some (.string (nodAt a i).name) := by rw [HW.out]; exact x2
        have x3 : wr.cell? ⟨be, offe + i * 4 + 3, none⟩ = some (.slice K (nodAt a i).kids.length kc) := by rw [HW.out]; exact x3
        have y0 : wr.cell? ⟨bf, offf + i * 4, none⟩ = some (.int .i64 (nodAt b i).op) := by rw [HW.out]; exact y0
        have y1 : wr.cell? ⟨bf, offf + i * 4 + 1, none⟩ = some (.int .i64 (nodAt b i).n) := by rw [HW.out]; exact y1
        have y2 : wr.cell? ⟨bf, offf + i * 4 + 2, none⟩ = some (.string (nodAt b i).name) := by rw [HW.out]; exact y2
        have y3 : wr.cell? ⟨bf, offf + i * 4 + 3, none⟩ = some (.slice K' (nodAt b i).kids.length kc') := by rw [HW.out]; exact y3
        have HKD := hide hKd
        have HKE := hide hKe
        have HGO := hide (show nodAt a i = nodAt b i → ∀ j, j < i + 1 → nodAt a j = nodAt b j from fun h j hj => by
          by_cases hji : j < i
          · exact HALL.out j hji
          · obtain rfl : j = i := by omega
            exact h)
        have HNO := hide (show nodAt a i ≠ nodAt b i → a ≠ b from fun h he => h (by rw [he]))
        have HNO2 : Hid (nodAt a i ≠ nodAt b i → ∀ mm, SamePost a b w (.returned (.bool false)) (wr.drewN mm)) := hide (fun h mm => ⟨false, rfl, ⟨fun h' => absurd h' (by decide), fun h' => absurd h' (HNO.out h)⟩, m + mm, by rw [HW.out, World.drewN_drewN]⟩)
        have hxk : (nodAt a i).kids.length ≤ maxLen := HKA.out _ (List.mem_of_getElem? (nodAt_get (by have := HNN.out; omega)))
        have hyk : (nodAt b i).kids.length ≤ maxLen := HKB.out _ (List.mem_of_getElem? (nodAt_get (by have := HNNB.out; omega)))
        unfold maxLen at hxk hyk
        clear hKd hKe
        generalize nodAt a i = x at x0 x1 x2 x3 HKD HGO HNO2 hxk
        generalize nodAt b i = y at y0 y1 y2 y3 HKE HGO HNO2 hyk
        clear HNO
        by_cases h1 : x.op = y.op
        · rw [← h1] at y0
          by_cases h2 : x.n = y.n
          · rw [← h2] at y1
            by_cases h3 : x.name = y.name
            · rw [← h3] at y2
              by_cases h4 : x.kids.length = y.kids.length
              · have HEQ : Hid (x.kids = y.kids → ∀ j, j < i + 1 → nodAt a j = nodAt b j) := hide (fun h => HGO.out (nod_eq h1 h2 h3 h))
                have HNE : Hid (x.kids ≠ y.kids → ∀ mm, SamePost a b w (.returned (.bool false)) (wr.drewN mm)) := hide (fun h => HNO2.out (fun he => h (by rw [he])))
                have HL4 := hide h4
                obtain ⟨nk, hnk⟩ : ∃ nk, nk = x.kids.length := ⟨_, rfl⟩
                have HNK := hide hnk
                rw [← h4] at y3
                rw [← hnk] at x3 y3
                have hnk2 : nk < 9223372036854775808 := by omega
                clear h1 h2 h3 h4 hnk HGO HNO2 hxk hyk
                go_upto_region 6 with (fail)
                go_quiet (fail)
                have X3 := hide x3
                have Y3 := hide y3
                clear x0 x1 x2 y0 y1 y2 x3 y3
                go_wp2
                go_loopw [6] (fun t6 wq => ∃ k : Nat, k ≤ nk ∧ t6 = .int .i64 k ∧ (∀ j, j < k → nth x.kids j = nth y.kids j) ∧ ∃ m, wq = wr.drewN m) (fun t6 _ => nk - (intOf t6).toNat)
                case atStart => exact ⟨0, Nat.zero_le _, rfl, fun j hj => absurd hj (Nat.not_lt_zero _), _, rfl⟩
                case round =>
                  obtain ⟨k, hk, rfl, hall2, m2, hwq⟩ := hrel
                  have HALL2 := hide hall2
                  have HWQ := hide hwq
                  clear hall2 hwq
                  by_cases hkl : k < nk
                  · obtain ⟨bk, offk, rfl, hbk, g0⟩ := HKD.out.at_ (k := k) (by have := HNK.out; omega)
                    obtain ⟨bl, offl, rfl, hbl, g1⟩ := HKE.out.at_ (k := k) (by have := HNK.out; have := HL4.out; omega)
                    have z3 : wr.cell? ⟨be, offe + i * 4 + 3, none⟩ = some (.slice (some ⟨bk, offk, none⟩) nk kc) := by rw [HWQ.out]; exact X3.out
                    have v3 : wr.cell? ⟨bf, offf + i * 4 + 3, none⟩ = some (.slice (some ⟨bl, offl, none⟩) nk kc') := by rw [HWQ.out]; exact Y3.out
                    have g0 : wr.cell? ⟨bk, offk + k, none⟩ = some (.int .i64 (nth x.kids k)) := by rw [HWQ.out, HW.out]; exact g0
                    have g1 : wr.cell? ⟨bl, offl + k, none⟩ = some (.int .i64 (nth y.kids k)) := by rw [HWQ.out, HW.out]; exact g1
                    have HK1 := hide (show nth x.kids k = nth y.kids k → ∀ j, j < k + 1 → nth x.kids j = nth y.kids j from fun h j hj => by
                      by_cases hjk : j < k
                      · exact HALL2.out j hjk
                      · obtain rfl : j = k := by omega
                        exact h)
                    have HK2 : Hid (nth x.kids k ≠ nth y.kids k → ∀ mm, SamePost a b w (.returned (.bool false)) (wr.drewN mm)) := hide (fun h mm => by
                      rw [HWQ.out, World.drewN_drewN]
                      exact HNE.out (fun he => h (by rw [he])) _)
                    generalize nth x.kids k = u at g0 HK1 HK2
                    generalize nth y.kids k = v at g1 HK1 HK2
                    by_cases huv : u = v
                    · have HK := hide (HK1.out huv)
                      rw [← huv] at g1
                      clear huv HK1 HK2
                      go_upto_region 11 with (fail)
                      go_quiet (fail)
                      go_wp2
                      go_roundw
                      case rel => exact ⟨k + 1, by omega, by go_num, HK.out, m2 + nq, by rw [HWQ.out, World.drewN_drewN]⟩
                      case measure => simp [intOf]; omega
                    · have HF := hide (HK2.out huv)
                      have e1 : (u != v) = true := bne_iff_ne.2 huv
                      clear HK1 HK2
                      go_upto_region 11 with (fail)
                      go_quiet (fail)
                      go_wp2
                      go_ret
                      exact HF.out _
                  · obtain rfl : k = nk := by omega
                    have z3 : wr.cell? ⟨be, offe + i * 4 + 3, none⟩ = some (.slice K k kc) := by rw [HWQ.out]; exact X3.out
                    have HK := hide (HEQ.out (list_kids HL4.out (fun j hj => HALL2.out j (by have := HNK.out; omega))))
                    go_wp2
                    go_roundw
                    case rel => exact ⟨i + 1, by omega, by go_num, HK.out, m + m2, by rw [HWQ.out, HW.out, World.drewN_drewN]⟩
                    case measure => simp [intOf]; omega
              · have HF := hide (HNO2.out (fun he => h4 (by rw [he])))
                have e1 : ((x.kids.length : Int) != (y.kids.length : Int)) = true := bne_iff_ne.2 (by omega)
                go_upto_region 6 with (fail)
                go_quiet (fail)
                go_wp2
                go_ret
                exact HF.out _
            · have HF := hide (HNO2.out (fun he => h3 (by rw [he])))
              have h3' := bytes_ne h3
              go_upto_region 6 with (fail)
              go_quiet (fail)
              go_wp2
              go_ret
              exact HF.out _
          · have HF := hide (HNO2.out (fun he => h2 (by rw [he])))
            have e1 : (x.n != y.n) = true := bne_iff_ne.2 h2
            go_upto_region 6 with (fail)
            go_quiet (fail)
            go_wp2
            go_ret
            exact HF.out _
        · have HF := hide (HNO2.out (fun he => h1 (by rw [he])))
          have e1 : (x.op != y.op) = true := bne_iff_ne.2 h1
          go_upto_region 6 with (fail)
          go_quiet (fail)
          go_wp2
          go_ret
          exact HF.out _
      · obtain rfl : i = nn := by omega
        have HF : Hid (SamePost a b w (.returned (.bool true)) wr) := ⟨true, rfl, ⟨fun _ => list_nodes HL.out (fun j hj => HALL.out j (by have := HNN.out; omega)), fun _ => rfl⟩, m, HW.out⟩
        go_wp2
        go_ret
        exact HF.out
  · have hne : ¬ ((a.length : Int) = (b.length : Int)) := by omega
    have HF : Hid (SamePost a b w (.returned (.bool false)) w) := ⟨false, rfl, ⟨fun h => absurd h (by decide), fun h => absurd (by rw [h]) hlen⟩, 0, rfl⟩
    go_enter Tryz.func35, Tryz.ntmps35
    go_wp2
    go_ret
    exact HF.out
end Go.Proofs.YtkomgidcgepknaaGreatDoor
