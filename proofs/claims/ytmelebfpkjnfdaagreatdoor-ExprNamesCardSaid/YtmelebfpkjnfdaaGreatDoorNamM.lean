/-
  ExprNames: the walk.
-/
import Derived.Test.YtmelebfpkjnfdaaGreatDoorHd
import Derived.Test.YtmelebfpkjnfdaaGreatDoorFewB
import Derived.Test.YtmelebfpkjnfdaaGreatDoorExpH
set_option linter.unusedVariables false
set_option linter.unusedSimpArgs false
namespace Go.Proofs.YtmelebfpkjnfdaaGreatDoor
open Go.RowKit Go.Deep Go.Maps

/-- The name k of a row of names. -/
def nmAt (l : List (List UInt8)) (k : Nat) : List UInt8 := l.getD k []
theorem Reads.nm {w : World} {B : Nat} {A : Option Addr} {l : List (List UInt8)} (h : Reads w B 1 A l.length (l.map encStr)) {k : Nat} (hk : k < l.length) :
    ∃ b off, A = some ⟨b, off, none⟩ ∧ b < B ∧ w.cell? ⟨b, off + k, none⟩ = some (.string ⟨(nmAt l k).toArray⟩) := by
  have h0 : (l.map encStr)[0]? = some (encStr (nmAt l 0)) := by
    rw [List.getElem?_map, List.getElem?_eq_getElem (by omega)]
    unfold nmAt
    rw [List.getD_eq_getElem?_getD, List.getElem?_eq_getElem (by omega)]
    rfl
  obtain ⟨b, off, hA, hb, hc⟩ := Reads.at1 h (by omega) h0
  refine ⟨b, off, hA, hb, ?_⟩
  have := hc k (encStr (nmAt l k)) (by
    rw [List.getElem?_map, List.getElem?_eq_getElem hk]
    unfold nmAt
    rw [List.getD_eq_getElem?_getD, List.getElem?_eq_getElem hk]
    rfl)
  exact this
theorem bools_info : (Tryz.prog.info? 4).map (fun i => (i.zero, i.size, i.bytes)) = some (some (.bool false), 1, 1) := by kernel_rfl
abbrev bools (F : List Bool) : Array Value := (F.map Value.bool).toArray
theorem Blk.boolAt {w : World} {g : Nat} {t : TypeId} {F : List Bool} (h : Blk w g t (bools F)) {k : Nat} (hk : k < F.length) : w.cell? ⟨g, k, none⟩ = some (.bool (F.getD k false)) := by
  rw [h.cell k]
  simp [List.getD_eq_getElem?_getD, List.getElem?_eq_getElem hk]
theorem Blk.setBool {w : World} {g : Nat} {t : TypeId} {F : List Bool} (h : Blk w g t (bools F)) (k : Nat) (v : Bool) : Blk (w.setCell ⟨g, k, none⟩ (.bool v)) g t (bools (F.set k v)) := by
  have := h.set_ k (.bool v)
  have e : (bools F).setIfInBounds k (.bool v) = bools (F.set k v) := by
    apply Array.ext'
    simp [bools, List.map_set]
  rw [e] at this
  exact this
theorem getD_set {F : List Bool} {k j : Nat} (hk : k < F.length) (h : F.getD j false = true ∨ j = k) : (F.set k true).getD j false = true := by
  rw [List.getD_eq_getElem?_getD, List.getElem?_set]
  split
  · rename_i h1
    subst h1
    simp [hk]
  · rename_i h1
    rcases h with h | h
    · rw [List.getD_eq_getElem?_getD] at h
      exact h
    · exact absurd h.symm h1
/-- The marks of the names of the first nodes. -/
def Marked (a : List Nod) (L : List (List UInt8)) (i : Nat) (F : List Bool) : Prop := ∀ k, k < L.length → (∃ j, j < i ∧ (nodAt a j).op = 2 ∧ (nodAt a j).name.data.toList = nmAt L k) → F.getD k false = true
set_option maxHeartbeats 8000000 in
set_option maxRecDepth 20000 in
theorem exprNames_any (A : Option Addr) (ca : Nat) (a : List Nod) (w : World) (ht : Pow w)
    (ha : ExprAt w w.heap.size A a) (ma : a.length ≤ maxLen) (na : ∀ x ∈ a, x.name.size ≤ maxLen) (ka : ∀ x ∈ a, x.kids.length ≤ maxLen) :
    Calls Tryz.prog 9 #[.slice A a.length ca] w fun e w' => e = .returned (.bool true) ∧ Below w.heap.size w w' := by
  have HEA := hide ha
  have HA := hide (And.intro ma (And.intro na ka))
  have HP := hide ht
  unfold maxLen at ma
  clear ha na ka ht
  go_enter Tryz.func9, Tryz.ntmps9
  go_wp2_with fail
  refine (head21_any w HP.out).mono ?_
  rintro en w1 ⟨rfl, hb1⟩
  have HE1 := hide (HEA.out.next hb1)
  have HB1 := hide hb1
  clear hb1 HEA HP
  go_wp2_with fail
  refine (few21_any A ca a w1 HE1.out HA.out.1 HA.out.2.1 HA.out.2.2).mono ?_
  rintro en w' ⟨rfl, rfl⟩
  cases hf1 : few21 a
  · clear hf1
    go_wp2
    go_ret
    exact ⟨rfl, HB1.out⟩
  · have HF1 := hide hf1
    clear hf1
    cases hv : validL a
    · have HV := hide hv
      clear hv
      go_wp2_with fail
      refine (names_none A ca a w1 HE1.out HA.out.2.1 HA.out.1 HV.out).mono ?_
      rintro en w2 ⟨rfl, hb2⟩
      have HB2 := hide (HB1.out.trans (hb2.mono HB1.out.size))
      have HE2 := hide (HE1.out.next hb2)
      clear hb2
      go_wp2_with fail
      refine (valid_any A ca a w2 HE2.out HA.out.2.1 HA.out.1).mono ?_
      rintro en w3 ⟨rfl, hb3⟩
      have HB3 := hide (HB2.out.trans (hb3.mono HB2.out.size))
      clear hb3
      rw [HV.out]
      go_wp2
      go_ret
      exact ⟨rfl, HB3.out⟩
    · have HV := hide hv
      clear hv
      have hl310 := (few21_out HF1.out).1
      have hnl : (namesL a).length ≤ 310 := by
        have h1 := raw_len a
        have h2 : (namesL a).length ≤ (namesRaw a).length := compact_le _ _
        omega
      go_wp2_with fail
      refine (names_any A ca a w1 HE1.out HA.out.2.1 HV.out).mono ?_
      rintro en w2 ⟨A2, c2, rfl, hr2, hb2⟩
      have HB2 := hide (HB1.out.trans (hb2.mono HB1.out.size))
      have HE2 := hide (HE1.out.next hb2)
      have HR2 := hide hr2
      have HNI := hide (names_inv a)
      clear hb2 hr2 HE1 HB1
      obtain ⟨L, hL⟩ : ∃ L, L = namesL a := ⟨_, rfl⟩
      rw [← hL] at HR2 HNI hnl ⊢
      clear hL
      have hmk := fun (w : World) => make_run (P := Tryz.prog) 65 4 (.bool false) 1 Tryz.underlying65 bools_info rfl L.length (by omega) (by omega) w
      have hrep : (Array.replicate L.length (Value.bool false)) = bools (List.replicate L.length false) := by
        apply Array.ext'
        simp [bools]
      have hB3 : Blk (w2.alloc (Obj.cells (Array.replicate L.length (Value.bool false)) 4)) w2.heap.size 4 (bools (List.replicate L.length false)) := by
        rw [← hrep]
        exact Blk.new _ _ _
      have hb3 : Below w2.heap.size w2 (w2.alloc (Obj.cells (Array.replicate L.length (Value.bool false)) 4)) := (Below.refl _ _).alloc (Nat.le_refl _) _
      have HB3 := hide hB3
      have HBB := hide hb3
      clear hrep hB3 hb3
      go_upto_region 8 with (fail)
      generalize w2.alloc (Obj.cells (Array.replicate L.length (Value.bool false)) 4) = w3 at HB3 HBB ⊢
      obtain ⟨q, hq⟩ : ∃ q, q = w2.heap.size := ⟨_, rfl⟩
      have HQ := hide hq
      rw [← hq] at HB3 HBB ⊢
      clear hmk hq
      obtain ⟨n, hn⟩ : ∃ n, n = L.length := ⟨_, rfl⟩
      have HN := hide hn
      rw [← hn] at hnl ⊢
      clear hn
      go_wp2
      go_loopw [7] (fun t7 wr => ∃ (i : Nat) (F : List Bool), i ≤ a.length ∧ t7 = .int .i64 i ∧ F.length = n ∧ Blk wr q 4 (bools F) ∧ Marked a L i F ∧ Below q w2 wr) (fun t7 _ => a.length - (intOf t7).toNat)
      case atStart => exact ⟨0, List.replicate L.length false, Nat.zero_le _, rfl, by rw [List.length_replicate]; exact HN.out.symm, HB3.out, fun k _ ⟨j, hj, _⟩ => absurd hj (Nat.not_lt_zero _), HBB.out⟩
      case round =>
        clear HB3 HBB
        obtain ⟨i, F, hi, rfl, hFl, hblk, hmark, hbr⟩ := hrel
        have HFL := hide hFl
        have HBK := hide hblk
        have HMK := hide hmark
        have HBR := hide hbr
        clear hFl hblk hmark hbr
        obtain ⟨wo, hwo⟩ : ∃ wo : World, wo = wr := ⟨_, rfl⟩
        subst hwo
        have HQB : Hid (Below w2.heap.size w2 wo) := by show _; rw [← HQ.out]; exact HBR.out
        by_cases hlt : i < a.length
        · obtain ⟨be, offe, K, kc, rfl, hbe, x0, x1, x2, x3, hKd⟩ := (HE2.out.below HQB.out).at_ hlt
          have hxn : (nodAt a i).name.size ≤ maxLen := HA.out.2.1 _ (List.mem_of_getElem? (nodAt_get hlt))
          have HIN : Hid ((nodAt a i).op = 2 → (nodAt a i).name.data.toList ∈ L) := hide (fun ho => (HNI.out.2 _).2 (names_mem.2 ⟨_, List.mem_of_getElem? (nodAt_get hlt), ho, rfl⟩))
          have HMN : Hid (∀ F', Marked a L i F' → ((nodAt a i).op = 2 → ∀ k, k < L.length → nmAt L k = (nodAt a i).name.data.toList → F'.getD k false = true) → Marked a L (i + 1) F') := hide (fun F' h1 h2 k hk ⟨j, hj, ho, hnm⟩ => by
            by_cases hji : j < i
            · exact h1 k hk ⟨j, hji, ho, hnm⟩
            · obtain rfl : j = i := by omega
              exact h2 ho k hk hnm.symm)
          generalize nodAt a i = x at x0 x1 x2 x3 hKd hxn HIN HMN
          have hbq : be < q := by rw [HQ.out]; exact hbe
          clear hKd x1 x3
          by_cases ho : x.op = 2
          · have HIN2 := hide (HIN.out ho)
            have HMN2 := hide (fun F' h1 h2 => HMN.out F' h1 (fun _ => h2))
            rw [ho] at x0
            clear HIN HMN ho
            have X2 := hide x2
            go_upto_region 12 with (fail)
            clear x0 x2
            go_wp2
            go_loopw [8, 9] (fun t8 t9 wq => ∃ (k : Nat) (G : List Bool) (th : Bool), k ≤ n ∧ t9 = .int .i64 k ∧ t8 = .bool th ∧ G.length = n ∧ Blk wq q 4 (bools G) ∧ Marked a L i G ∧ (∀ j, j < k → nmAt L j = x.name.data.toList → G.getD j false = true ∧ th = true) ∧ Below q w2 wq) (fun _ t9 _ => n - (intOf t9).toNat)
            case atStart => exact ⟨0, F, false, Nat.zero_le _, rfl, rfl, HFL.out, HBK.out, HMK.out, fun j hj => absurd hj (Nat.not_lt_zero _), HBR.out⟩
            case round =>
              clear HFL HBK HMK
              obtain ⟨k, G, th, hk, rfl, rfl, hGl, hblk, hmark, hall, hbr⟩ := hrel
              have HGL := hide hGl
              have HBG := hide hblk
              have HMG := hide hmark
              have HALL := hide hall
              have HBRq := hide hbr
              clear hGl hblk hmark hall hbr
              by_cases hkn : k < n
              · obtain ⟨bn, on, rfl, hbn, g0⟩ := Reads.nm HR2.out (k := k) (by rw [← HN.out]; exact hkn)
                have hbn2 : bn < q := by rw [HQ.out]; exact hbn
                have g0 : wr.cell? ⟨bn, on + k, none⟩ = some (.string ⟨(nmAt L k).toArray⟩) := (HBRq.out.cell (p := ⟨bn, on + k, none⟩) hbn2).trans g0
                have x2 : wr.cell? ⟨be, offe + i * 4 + 2, none⟩ = some (.string x.name) := by
                  have h1 := HBRq.out.cell (p := ⟨be, offe + i * 4 + 2, none⟩) hbq
                  have h2 := HBR.out.cell (p := ⟨be, offe + i * 4 + 2, none⟩) hbq
                  rw [h1, ← h2]
                  exact X2.out
                have HAL : Hid (∀ (G' : List Bool) (th' : Bool), (∀ j, G.getD j false = true → G'.getD j false = true) → (th = true → th' = true) → (nmAt L k = x.name.data.toList → G'.getD k false = true ∧ th' = true) → ∀ j, j < k + 1 → nmAt L j = x.name.data.toList → G'.getD j false = true ∧ th' = true) := hide (fun G' th' h1 h2 h3 j hj hnm => by
                  by_cases hjk : j < k
                  · exact ⟨h1 _ (HALL.out j hjk hnm).1, h2 (HALL.out j hjk hnm).2⟩
                  · obtain rfl : j = k := by omega
                    exact h3 hnm)
                obtain ⟨nb, hnb⟩ : ∃ nb : ByteArray, nb = ⟨(nmAt L k).toArray⟩ := ⟨_, rfl⟩
                have HNB : Hid (nb.data.toList = nmAt L k) := hide (by rw [hnb])
                rw [← hnb] at g0
                clear hnb
                have hnbs : nb.size ≤ maxLen := by
                  have : nmAt L k ∈ namesRaw a := (HNI.out.2 _).1 (by unfold nmAt; exact getD_mem L k [] (by rw [← HN.out]; exact hkn))
                  obtain ⟨y, hy, _, hyn⟩ := names_mem.1 this
                  have h1 := HA.out.2.1 y hy
                  have h2 : nb.data.toList.length = nb.size := Array.length_toList
                  have h3 : y.name.data.toList.length = y.name.size := Array.length_toList
                  rw [HNB.out, ← hyn, h3] at h2
                  omega
                by_cases hnm : nb = x.name
                · subst hnm
                  have qk := HBG.out.boolAt (k := k) (by rw [HGL.out]; exact hkn)
                  have qf := HBG.out.frozen k
                  have RES : Hid (∀ m, Blk ((wr.drewN m).setCell ⟨q, k, none⟩ (.bool true)) q 4 (bools (G.set k true)) ∧ Below q w2 ((wr.drewN m).setCell ⟨q, k, none⟩ (.bool true))) := hide (fun m => ⟨(HBG.out.drewN m).setBool k true, (below_drewN HBRq.out m).setCell (p := ⟨q, k, none⟩) (Nat.le_refl _) _⟩)
                  have hF := hide (HAL.out (G.set k true) true (fun j hj => getD_set (by rw [HGL.out]; exact hkn) (.inl hj)) (fun _ => rfl) (fun _ => ⟨getD_set (by rw [HGL.out]; exact hkn) (.inr rfl), rfl⟩))
                  have hM : Hid (Marked a L i (G.set k true)) := hide (fun j hj h => getD_set (by rw [HGL.out]; exact hkn) (.inl (HMG.out j hj h)))
                  clear HAL
                  go_upto_region 16 with (fail)
                  go_quiet (fail)
                  go_wp2
                  go_roundw
                  case rel => exact ⟨k + 1, G.set k true, true, by omega, by go_num, rfl, by rw [List.length_set]; exact HGL.out, (RES.out _).1, hM.out, hF.out, (RES.out _).2⟩
                  case measure => simp [intOf]; omega
                · have hne := bytes_ne hnm
                  have hF := hide (HAL.out G th (fun j hj => hj) (fun h => h) (fun h => absurd (by
                    apply ByteArray.ext
                    apply Array.ext'
                    rw [HNB.out, h]) hnm))
                  clear HAL
                  go_upto_region 16 with (fail)
                  go_quiet (fail)
                  go_wp2
                  go_roundw
                  case rel => exact ⟨k + 1, G, th, by omega, by go_num, rfl, HGL.out, HBG.out.drewN _, HMG.out, hF.out, below_drewN HBRq.out _⟩
                  case measure => simp [intOf]; omega
              · obtain rfl : k = n := by omega
                obtain ⟨j, hj, hjn0⟩ := List.getElem_of_mem HIN2.out
                have hjn : nmAt L j = x.name.data.toList := by
                  unfold nmAt
                  rw [List.getD_eq_getElem?_getD, List.getElem?_eq_getElem hj]
                  exact hjn0
                obtain ⟨_, hth⟩ := HALL.out j (by rw [HN.out]; exact hj) hjn
                subst hth
                have HF := hide (HMN2.out G HMG.out (fun k hk hnm => (HALL.out k (by rw [HN.out]; exact hk) hnm).1))
                clear hjn0 hjn
                clear hj
                go_wp2
                go_roundw
                case rel => exact ⟨i + 1, G, by omega, by go_num, HGL.out, HBG.out, HF.out, HBRq.out⟩
                case measure => simp [intOf]; omega
          · have HF := hide (HMN.out F HMK.out (fun h => absurd h ho))
            have e1 : (x.op != 2) = true := bne_iff_ne.2 ho
            go_wp2
            go_roundw
            case rel => exact ⟨i + 1, F, by omega, by go_num, HFL.out, HBK.out, HF.out, HBR.out⟩
            case measure => simp [intOf]; omega
        · obtain rfl : i = a.length := by omega
          have HALLT : Hid (∀ k, k < n → F.getD k false = true) := hide (fun k hk => HMK.out k (by rw [← HN.out]; exact hk) (by
            have hk' : k < L.length := by rw [← HN.out]; exact hk
            have : nmAt L k ∈ namesRaw a := (HNI.out.2 _).1 (by unfold nmAt; exact getD_mem L k [] hk')
            obtain ⟨y, hy, ho, hyn⟩ := names_mem.1 this
            obtain ⟨j, hj, hjy⟩ := List.getElem_of_mem hy
            have hjy : nodAt a j = y := by
              have := nodAt_get hj
              rw [List.getElem?_eq_getElem hj, hjy] at this
              exact (Option.some.inj this).symm
            exact ⟨j, hj, by rw [hjy]; exact ho, by rw [hjy]; exact hyn⟩))
          go_wp2
          go_loopw [10] (fun t10 wq => ∃ k : Nat, k ≤ n ∧ t10 = .int .i64 k ∧ ∃ m, wq = wo.drewN m) (fun t10 _ => n - (intOf t10).toNat)
          case atStart => exact ⟨0, Nat.zero_le _, rfl, 0, rfl⟩
          case round =>
            obtain ⟨k, hk, rfl, m, hwq⟩ := hrel
            have HWQ := hide hwq
            clear hwq
            by_cases hkn : k < n
            · have qk : wr.cell? ⟨q, k, none⟩ = some (.bool true) := by
                rw [HWQ.out]
                have := HBK.out.boolAt (k := k) (by rw [HFL.out]; exact hkn)
                rw [HALLT.out k hkn] at this
                exact this
              by_cases hk0 : k = 0
              · subst hk0
                go_upto_region 24 with (fail)
                go_quiet (fail)
                go_wp2
                go_roundw
                case rel => exact ⟨0 + 1, by omega, by go_num, m + nq, by rw [HWQ.out, World.drewN_drewN]⟩
                case measure => simp [intOf]; omega
              · obtain ⟨k', rfl⟩ : ∃ k', k = k' + 1 := ⟨k - 1, by omega⟩
                obtain ⟨bn, on, rfl, hbn, g0⟩ := Reads.nm HR2.out (k := k') (by rw [← HN.out]; omega)
                obtain ⟨bn', on', hAe, hbn', g1⟩ := Reads.nm HR2.out (k := k' + 1) (by rw [← HN.out]; exact hkn)
                injection hAe with hAe
                injection hAe with h1 h2
                subst h1 h2
                have hbn2 : bn < q := by rw [HQ.out]; exact hbn
                have g0 : wr.cell? ⟨bn, on + k', none⟩ = some (.string ⟨(nmAt L k').toArray⟩) := by rw [HWQ.out]; exact (HBR.out.cell (p := ⟨bn, on + k', none⟩) hbn2).trans g0
                have g1 : wr.cell? ⟨bn, on + (k' + 1), none⟩ = some (.string ⟨(nmAt L (k' + 1)).toArray⟩) := by rw [HWQ.out]; exact (HBR.out.cell (p := ⟨bn, on + (k' + 1), none⟩) hbn2).trans g1
                have hlt2 : nmAt L k' < nmAt L (k' + 1) := by
                  have h1 : k' < L.length := by rw [← HN.out]; omega
                  have h2 : k' + 1 < L.length := by rw [← HN.out]; exact hkn
                  have := List.pairwise_iff_getElem.1 HNI.out.1 k' (k' + 1) h1 h2 (Nat.lt_succ_self _)
                  unfold nmAt
                  rw [List.getD_eq_getElem?_getD, List.getD_eq_getElem?_getD, List.getElem?_eq_getElem h1, List.getElem?_eq_getElem h2]
                  exact this
                have hbl : Op.bytesLess (nmAt L k') (nmAt L (k' + 1)) = true := by rw [bytesLess_eq]; exact decide_eq_true hlt2
                have HBL := hbl
                clear hlt2
                go_upto_region 24 with (fail)
                go_quiet (fail)
                go_wp2
                go_roundw
                case rel => exact ⟨k' + 1 + 1, by omega, by go_num, m + nq, by rw [HWQ.out, World.drewN_drewN]⟩
                case measure => simp [intOf]; omega
            · obtain rfl : k = n := by omega
              have HF : Hid (Below w.heap.size w wr) := by
                show _
                rw [HWQ.out]
                exact below_drewN (HB2.out.trans (HQB.out.mono HB2.out.size)) m
              go_wp2
              go_ret
              exact ⟨rfl, HF.out⟩
theorem exprNames_walk (A : Option Addr) (ca : Nat) (a : List Nod) (w : World) (ht : Pow w)
    (w0 : ExprAt w w.heap.size A a) (m0 : a.length ≤ maxLen) (b0 : ∀ x ∈ a, x.name.size ≤ maxLen ∧ x.kids.length ≤ maxLen ∧ (Lit.int .i64 x.op).wf = true ∧ (Lit.int .i64 x.n).wf = true ∧ ∀ k ∈ x.kids, (Lit.int .i64 k).wf = true) :
    Calls Tryz.prog 9 #[.slice A a.length ca] w fun e w' => e = .returned (.bool true) ∧ Below w.heap.size w w' :=
  exprNames_any A ca a w ht w0 m0 (fun x hx => (b0 x hx).1) (fun x hx => (b0 x hx).2.1)
end Go.Proofs.YtmelebfpkjnfdaaGreatDoor
