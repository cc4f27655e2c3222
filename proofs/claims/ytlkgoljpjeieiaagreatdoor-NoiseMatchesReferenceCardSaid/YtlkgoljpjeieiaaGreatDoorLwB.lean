/-
  Chapter 17: Same, of one distribution.
-/
import Derived.Test.YtlkgoljpjeieiaaGreatDoorLwA
set_option linter.unusedVariables false
set_option linter.unusedSimpArgs false
namespace Go.Proofs.YtlkgoljpjeieiaaGreatDoor
open Go.RowKit Go.Deep Go.Maps

set_option maxHeartbeats 1000000 in
set_option maxRecDepth 100000 in
theorem same17_any (A1 A2 : Option Addr) (c1 c2 N : Nat) (l : List (Int × Nat)) (w : World) (h1 : RD w w.heap.size A1 N l) (h2 : RD w w.heap.size A2 N l) (hN : N ≤ 100000) (hb : ∀ p ∈ l, p.2 < 1000000000) :
    Calls Tryz.prog 17 #[.slice A1 N c1, .slice A2 N c2] w fun en w' => en = .returned (.bool true) ∧ ∃ m, w' = w.drewN m := by
  have H1 := hide h1
  have H2 := hide h2
  have HBD : Hid (∀ j, j < N → (dAt l j).2 < 1000000000) := hide (fun j hj => hb _ (List.mem_of_getElem? (dAt_get (by rw [h1.len]; exact hj))))
  clear h1 h2 hb
  go_enter Tryz.func17, Tryz.ntmps17
  go_wp2
  go_loopw [5] (fun t5 wr => ∃ j : Nat, j ≤ N ∧ t5 = .int .i64 j ∧ ∃ m, wr = w.drewN m) (fun t5 _ => N - (intOf t5).toNat)
  case atStart => exact ⟨0, Nat.zero_le _, rfl, 0, rfl⟩
  case round =>
    obtain ⟨j, hj, rfl, m, hw⟩ := hrel
    have HW := hide hw
    clear hw
    by_cases hjl : j < N
    · obtain ⟨b, off, rfl, _, x0, x1⟩ := H1.out.at_ hjl
      obtain ⟨b', off', rfl, _, y0, y1⟩ := H2.out.at_ hjl
      have x0 : wr.cell? ⟨b, off + j * 2, none⟩ = some (.int .i64 (dAt l j).1) := by rw [HW.out]; exact x0
      have x1 : wr.cell? ⟨b, off + j * 2 + 1, none⟩ = some (.string (NS (dAt l j).2)) := by rw [HW.out]; exact x1
      have y0 : wr.cell? ⟨b', off' + j * 2, none⟩ = some (.int .i64 (dAt l j).1) := by rw [HW.out]; exact y0
      have y1 : wr.cell? ⟨b', off' + j * 2 + 1, none⟩ = some (.string (NS (dAt l j).2)) := by rw [HW.out]; exact y1
      have hsz := (ns_small (HBD.out j hjl)).2
      generalize NS (dAt l j).2 = s at x1 y1 hsz
      generalize (dAt l j).1 = v at x0 y0
      go_upto_region 6 with (fail)
      go_quiet (fail)
      go_wp2
      go_roundw
      case rel => exact ⟨j + 1, by omega, by go_num, m + nq, by rw [HW.out, World.drewN_drewN]⟩
      case measure => simp [intOf] <;> omega
    · obtain rfl : j = N := by omega
      have d1 : decide ((j : Int) < (j : Int)) = false := decide_eq_false (by omega)
      go_wp2
      go_ret
      exact ⟨rfl, m, HW.out⟩
end Go.Proofs.YtlkgoljpjeieiaaGreatDoor
