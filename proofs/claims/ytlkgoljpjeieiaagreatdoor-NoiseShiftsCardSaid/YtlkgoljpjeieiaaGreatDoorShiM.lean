/-
  NoiseShifts: the walk.
-/
import Derived.Test.YtlkgoljpjeieiaaGreatDoorShiB
import Derived.Test.YtlkgoljpjeieiaaGreatDoorShiD
import Derived.Test.YtlkgoljpjeieiaaGreatDoorShiE
set_option linter.unusedVariables false
set_option linter.unusedSimpArgs false
namespace Go.Proofs.YtlkgoljpjeieiaaGreatDoor
open Go.RowKit Go.Deep Go.Maps

set_option maxHeartbeats 1000000 in
set_option maxRecDepth 100000 in
theorem shifts_any (A : Option Addr) (ca : Nat) (tape : List Int) (n z : Int) (w : World) (h : RI w w.heap.size A tape.length tape) (hm : tape.length ≤ maxLen) (hp : Pow w) :
    Calls Tryz.prog 4 #[.slice A tape.length ca, .int .i64 n, .int .i64 z] w fun en w' => en = .returned (.bool true) ∧ Below w.heap.size w w' := by
  by_cases hall : few17 tape.length n = true ∧ valid17 tape = true ∧ -100 ≤ z ∧ z ≤ 100
  · obtain ⟨hf, hv, z1, z2⟩ := hall
    by_cases hok : 0 ≤ n ∧ n ≤ 40
    · cases hvm : valid17 (tape.reverse.map (· + z))
      · exact shifts_inv A ca tape n z w h hm hp hf hv z1 z2 hok.1 hok.2 hvm
      · exact shifts_val A ca tape n z w h hm hp hf hv z1 z2 hok.1 hok.2 hvm
    · exact shifts_err A ca tape n z w h hm hp hf hv z1 z2 (by omega)
  have H := hide h
  have HP := hide hp
  have HM := hide hm
  unfold maxLen at hm
  clear h hp
  go_enter Tryz.func4, Tryz.ntmps4
  go_wp2_with fail
  refine (head17_any w HP.out).mono ?_
  rintro en w1 ⟨rfl, hb1⟩
  have HB1 := hide hb1
  have HP1 := hide (HP.out.below hb1 HP.out.lt)
  have H1 := hide (H.out.next hb1)
  clear hb1 H HP
  go_wp2_with fail
  refine (few17_any A ca tape.length n w1 HM.out).mono ?_
  rintro en w' ⟨rfl, hw⟩
  subst hw
  cases hf : few17 tape.length n
  · clear hf
    go_wp2
    go_ret
    exact ⟨rfl, HB1.out⟩
  go_wp2_with fail
  refine (nv17_any A ca tape w' H1.out HM.out).mono ?_
  rintro en wv ⟨rfl, hw⟩
  subst hw
  cases hv : valid17 tape
  · clear hv hf
    go_wp2
    go_ret
    exact ⟨rfl, HB1.out⟩
  by_cases hz1 : z < -100
  · clear hv hf
    go_wp2
    go_ret
    exact ⟨rfl, HB1.out⟩
  by_cases hz2 : 100 < z
  · clear hv hf
    go_wp2
    go_ret
    exact ⟨rfl, HB1.out⟩
  exact absurd ⟨hf, hv, by omega, by omega⟩ hall
end Go.Proofs.YtlkgoljpjeieiaaGreatDoor
