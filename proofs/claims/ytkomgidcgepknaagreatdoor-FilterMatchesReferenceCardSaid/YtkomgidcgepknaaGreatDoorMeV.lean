/-
  Chapter 23: merit.values.
-/
import Derived.Test.YtkomgidcgepknaaGreatDoorMeD
import Derived.Test.YtkomgidcgepknaaGreatDoorMeM
set_option linter.unusedVariables false
set_option linter.unusedSimpArgs false
namespace Go.Proofs.YtkomgidcgepknaaGreatDoor
open Go.RowKit Go.Deep Go.Maps

/-- What values leaves: the map is told where the list is valid. -/
def ValsPost (w : World) (rs : List Vr) (e : Ending) (w' : World) : Prop :=
  ∃ m, e = .returned (.tuple #[.map m, .bool (validVs rs)]) ∧ Below w.heap.size w w' ∧ (validVs rs = true → ∃ b, m = some b ∧ w.heap.size ≤ b ∧ VM w' b rs)

set_option maxHeartbeats 4000000 in
set_option maxRecDepth 20000 in
theorem meritValues_any (A : Option Addr) (n c : Nat) (rs : List Vr) (w : World) (h : RVr w w.heap.size A n rs) (hn : n ≤ maxLen) (hm : ∀ r ∈ rs, r.name.size ≤ maxLen) :
    Calls Tryz.prog 57 #[.slice A n c] w (ValsPost w rs) := by
  have HN := hide hn
  unfold maxLen at hn
  have hmm := @run_makeMap Tryz.prog
  have H := hide h
  have hlen := h.len
  have HLN := hide hlen
  have m0 := VM.made w
  have b0 : Below w.heap.size w (w.alloc (.map #[] 0)) := (Below.refl _ _).alloc (Nat.le_refl _) _
  clear h hlen
  go_enter Tryz.func57, Tryz.ntmps57
  go_wp2
  go_loopw [12] (fun i wr => ∃ k : Nat, k ≤ n ∧ i = .int .i64 k ∧ VM wr w.heap.size (rs.take k) ∧ (∀ j, j < k → hasV (rs.take j) (vrAt rs j).name = false ∧ okV (vrAt rs j) = true) ∧ Below w.heap.size w wr) (fun i _ => n - (intOf i).toNat)
  case atStart => exact ⟨0, Nat.zero_le _, rfl, m0, fun j hj => absurd hj (Nat.not_lt_zero _), b0⟩
  case round =>
    clear m0 b0
    obtain ⟨k, hk, rfl, hR, hall, hbr⟩ := hrel
    have HR := hide hR
    have HA := hide hall
    have lR := hR.lt
    clear hR hall
    by_cases hlt : k < n
    · obtain ⟨b, off, rfl, hb, g0, g1⟩ := H.out.at_ hlt
      have e0 : wr.cell? ⟨b, off + k * 2, none⟩ = some (.string (vrAt rs k).name) := (hbr.cell (p := ⟨b, off + k * 2, none⟩) hb).trans g0
      have e1 : wr.cell? ⟨b, off + k * 2 + 1, none⟩ = some (.int .i64 (vrAt rs k).val) := (hbr.cell (p := ⟨b, off + k * 2 + 1, none⟩) hb).trans g1
      have hkl : k < rs.length := by rw [HLN.out]; exact hlt
      have hnm : (vrAt rs k).name.size ≤ maxLen := hm _ (List.mem_of_getElem? (vrAt_get hkl))
      have hB1 : Blk (wr.alloc (Obj.cells #[.string (vrAt rs k).name, .int .i64 (vrAt rs k).val] 46)) wr.heap.size 46 #[.string (vrAt rs k).name, .int .i64 (vrAt rs k).val] := Blk.new _ _ _
      have hb1 : Below wr.heap.size wr (wr.alloc (Obj.cells #[.string (vrAt rs k).name, .int .i64 (vrAt rs k).val] 46)) := (Below.refl _ _).alloc (Nat.le_refl _) _
      have HB1 := hide (hbr.trans (hb1.mono hbr.size))
      have hR1 := HR.out.kept (hb1.block w.heap.size lR)
      have hlook := hR1.look_ hnm
      have HR1 := hide hR1
      have HE : Hid ((sigV (rs.take k) (vrAt rs k).name).isSome = hasV (rs.take k) (vrAt rs k).name) := sigV_has
      clear hR1 g0 g1
      generalize hX : (sigV (rs.take k) (vrAt rs k).name).getD 0 = x at hlook
      clear hX
      cases hhas : hasV (rs.take k) (vrAt rs k).name
      · have hs : (sigV (rs.take k) (vrAt rs k).name).isSome = false := by rw [HE.out, hhas]
        rw [hs] at hlook
        go_wp2_with fail
        refine (meritName_any (vrAt rs k).name _ hnm).mono ?_
        rintro e w2 ⟨rfl, hb2⟩
        have hB2 := hB1.below hb2 hB1.lt
        have d0 : w2.cell? ⟨wr.heap.size, 0, none⟩ = some (.string (vrAt rs k).name) := hB2.cell 0
        have d1 : w2.cell? ⟨wr.heap.size, 1, none⟩ = some (.int .i64 (vrAt rs k).val) := hB2.cell 1
        have hbw := hb1.trans (hb2.mono hb1.size)
        have HB2 := hide (hbr.trans (hbw.mono hbr.size))
        have HRM := hide (HR.out.kept (hbw.block w.heap.size lR))
        have HO := hide (meritOut_any (vrAt rs k).val w2)
        have HT := hide (vr_take (l := rs) (i := k) hkl)
        have HOKr : Hid (okV (vrAt rs k) = (nameB (vrAt rs k).name && !beyondL (vrAt rs k).val)) := rfl
        clear hB1 hb1 hb2 hB2 hbw HB1 HR1 hlook e0 e1 HE
        cases hnb : nameB (vrAt rs k).name
        · have HF : Hid (validVs rs = false) := validVs_bad hkl (.inr (by rw [HOKr.out, hnb]; rfl))
          go_wp2_with fail
          first
            | go_ret2
            | (go_quiet ((go_at_call 61; exact quiet_left (HO.out _)))
               go_wp2
               go_ret2)
          exact ⟨none, by rw [HF.out]; rfl, by first | exact HB2.out | exact below_drewN HB2.out _, fun hv => by rw [HF.out] at hv; cases hv⟩
        · cases hbd : beyondL (vrAt rs k).val
          · rw [hbd] at HO
            have HOK : Hid (hasV (rs.take k) (vrAt rs k).name = false ∧ okV (vrAt rs k) = true) := ⟨hhas, by rw [HOKr.out, hnb, hbd]; rfl⟩
            go_wp2_with fail
            obtain ⟨w4, hrun, hR4, hg4⟩ := HRM.out.put (by have := HN.out; have := HLN.out; rw [List.length_take]; omega) (vrAt rs k) hnm hhas
            have HB4 : Hid (Below w.heap.size w w4) := hide (HB2.out.trans ((Below.refl _ _).grown hg4 HB2.out.size (fun g hg => by injection hg with hg; omega)))
            have HR4 := hide hR4
            clear hR4 hg4
            refine HO.out.mono ?_
            rintro _ _ ⟨rfl, rfl⟩
            go_wp2
            go_roundw
            case rel => exact ⟨k + 1, by omega, by go_num, by rw [HT.out]; exact HR4.out, fun j hj => by
              by_cases hjk : j < k
              · exact HA.out j hjk
              · obtain rfl : j = k := by omega
                exact HOK.out, HB4.out⟩
            case measure => simp [intOf]; omega
          · rw [hbd] at HO
            have HF : Hid (validVs rs = false) := validVs_bad hkl (.inr (by rw [HOKr.out, hnb, hbd]; rfl))
            go_wp2_with fail
            refine HO.out.mono ?_
            rintro _ _ ⟨rfl, rfl⟩
            go_wp2
            go_ret2
            exact ⟨none, by rw [HF.out]; rfl, HB2.out, fun hv => by rw [HF.out] at hv; cases hv⟩
      · have hs : (sigV (rs.take k) (vrAt rs k).name).isSome = true := by rw [HE.out, hhas]
        rw [hs] at hlook
        have HF : Hid (validVs rs = false) := validVs_bad hkl (.inl hhas)
        go_wp2
        go_ret2
        exact ⟨none, by rw [HF.out]; rfl, HB1.out, fun hv => by rw [HF.out] at hv; cases hv⟩
    · obtain rfl : k = n := by omega
      have HF : Hid (validVs rs = true) := validVs_good fun j hj => HA.out j (by rw [← HLN.out]; exact hj)
      have HT : Hid (VM wr w.heap.size rs) := by
        have := HR.out
        rw [List.take_of_length_le (by rw [HLN.out]; exact Nat.le_refl _)] at this
        exact this
      go_wp2
      go_ret2
      exact ⟨some w.heap.size, by rw [HF.out]; rfl, hbr, fun _ => ⟨w.heap.size, rfl, Nat.le_refl _, HT.out⟩⟩
end Go.Proofs.YtkomgidcgepknaaGreatDoor
