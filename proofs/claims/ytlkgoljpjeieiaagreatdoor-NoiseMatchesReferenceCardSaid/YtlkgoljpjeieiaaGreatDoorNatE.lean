/-
  Chapter 3, natural: strings of digits.
-/
import Derived.Test.YtlkgoljpjeieiaaGreatDoorNatD
import Derived.Test.YtlkgoljpjeieiaaGreatDoorNatP
import Derived.Test.YtlkgoljpjeieiaaGreatDoorShelf
import Derived.Test.YtlkgoljpjeieiaaGreatDoorApp
import Derived.Shelf.Strings.SlTrimAscii
set_option linter.unusedVariables false
set_option linter.unusedSimpArgs false
namespace Go.Proofs.YtlkgoljpjeieiaaGreatDoor
open Go.RowKit Go.Deep Go.Maps

theorem trim_any (n : Nat) (hn : n < 1000000000) (w : World) : Calls Tryz.prog 49 #[.string (NS n), .string digs10] w fun e w' => e = .returned (.string ⟨#[]⟩) ∧ Below w.heap.size w w' := by
  have h := Go.Proofs.Any.strings_Trim_laid Tryz.lays160 (by kernel_rfl) (NS n) digs10 w (by have := (ns_small hn).2; omega) (by decide) (fun j b hb => by
    have hm : b ∈ digs10.data.toList := List.mem_of_getElem? hb
    have : ∀ b ∈ digs10.data.toList, b.toNat < 128 := by decide
    exact this b hm)
  rw [ns_trim] at h
  exact h
set_option maxHeartbeats 1000000 in
set_option maxRecDepth 100000 in
theorem nvalid_any (n : Nat) (hn : n < 1000000000) (w : World) :
    Calls Tryz.prog 32 #[.string (NS n)] w fun en w' => en = .returned (.bool true) ∧ Below w.heap.size w w' := by
  have HT := hide (trim_any n hn w)
  obtain ⟨z1, z2⟩ := ns_small hn
  have hz : 0 < (NS n).size := z1
  have hfirst : ((NS n)[0].toNat : Int) = 48 → (((NS n).size : Int) == 1) = true := fun h48 => by
    obtain ⟨b, hb, hb0⟩ := ns_first n
    have : (NS n)[0]? = some (NS n)[0] := getElem?_pos (NS n) 0 hz
    rw [this] at hb
    injection hb with hb
    rw [hb] at h48
    have h0 : n = 0 := hb0.resolve_right (fun h => h (by omega))
    subst h0
    rw [ns_zero]
    rfl
  have HF := hide hfirst
  clear hfirst
  go_enter Tryz.func32, Tryz.ntmps32
  go_wp2_with fail
  refine HT.out.mono ?_
  rintro en w' ⟨rfl, hbel⟩
  have HB := hide hbel
  clear hbel HT
  go_wp2
  · rename_i h48
    have := HF.out h48
    rw [this]
    go_ret
    exact ⟨rfl, HB.out⟩
  · go_ret
    exact ⟨rfl, HB.out⟩
theorem atoi_any (n : Nat) (hn : n < 1000000000) (w : World) : Calls Tryz.prog 33 #[.string (NS n)] w fun e w' => e = .returned (.tuple #[.int .i64 n, .nilIface]) ∧ Below w.heap.size w w' := by
  have hz := (ns_small hn).2
  refine (Tryz.strconv_Atoi (NS n) n (by omega) (by rw [ns_list]; exact dec_atoi n) w).mono ?_
  rintro e w' ⟨rfl, t, rfl⟩
  exact ⟨rfl, Go.Lib.bytesWorld_below w 5 t⟩
theorem ns_cut (n : Nat) : (NS n).extract 0 (NS n).size = NS n := by
  first | exact ByteArray.extract_zero_size | simp
theorem Own.max {w : World} {base : Nat} {e : TypeId} {size : Nat} {A : Option Addr} {n c : Nat} {xs : List Value} (h : Own w base e size A n c xs) (h0 : 0 < n) : c ≤ maxLen := by
  rcases h.2 with ⟨_, h1⟩ | ⟨g, cap, cur, hv, _, _, _, hm, _⟩
  · omega
  · injection hv with _ _ e3
    rw [e3]
    exact hm
theorem padL_one {n : Nat} (h : n < 1000000000) : padL n 1 = [(n : Int)] := by
  have : dig n 0 = n := by
    unfold dig
    rw [Nat.pow_zero, Nat.div_one, Nat.mod_eq_of_lt (show n < LB from h)]
  show [(dig n 0 : Int)] = _
  rw [this]
set_option maxHeartbeats 1000000 in
set_option maxRecDepth 100000 in
theorem read_any (n : Nat) (hn : n < 1000000000) (w : World) : Calls Tryz.prog 55 #[.string (NS n)] w (LimPost n w) := by
  obtain ⟨z1, z2⟩ := ns_small hn
  have HAT := hide (atoi_any n hn w)
  obtain ⟨sz, hsz⟩ : ∃ z : Int, z = ((NS n).size : Int) := ⟨_, rfl⟩
  go_enter Tryz.func55, Tryz.ntmps55
  go_wp2
  go_loopw [3, 4] (fun t3 t4 wr => (t4 = .int .i64 (NS n).size ∧ t3 = .slice none 0 0 ∧ wr = w) ∨ (∃ A c z, z ≤ 0 ∧ t4 = .int .i64 z ∧ t3 = .slice A 1 c ∧ Own wr w.heap.size 3 1 A 1 c [.int .i64 n] ∧ Below w.heap.size w wr)) (fun _ t4 _ => (intOf t4).toNat)
  case atStart => exact .inl ⟨rfl, rfl, rfl⟩
  case round =>
    rcases hrel with ⟨rfl, rfl, rfl⟩ | ⟨A, c, z, hz, rfl, rfl, hown, hbr⟩
    · have hcut : (NS n).extract (max 0 (((NS n).size : Int) - 9)).toNat (NS n).size = NS n := by
        have : (max 0 (((NS n).size : Int) - 9)).toNat = 0 := by omega
        rw [this]
        exact ns_cut n
      go_wp2_with fail
      refine HAT.out.mono ?_
      rintro en w1 ⟨rfl, hb1⟩
      have RR : Hid (Reads (w1.alloc (Obj.cells #[.int .i64 n] 3)) (w1.heap.size + 1) 1 (some ⟨w1.heap.size, 0, none⟩) 1 [.int .i64 n]) := hide (reads_new w1 #[.int .i64 n] 3 1 1 rfl)
      have HOA : Hid (Own (w1.alloc (Obj.cells #[.int .i64 n] 3)) wr.heap.size 3 1 none 0 0 []) := hide (Own.nil _ _ _ _)
      have HBA := hide (hb1.alloc hb1.size (Obj.cells #[.int .i64 n] 3))
      have HQA : Hid (wr.heap.size ≤ (w1.alloc (Obj.cells #[.int .i64 n] 3)).heap.size) := hide HBA.out.size
      clear HAT hb1 hcut
      go_wp2_with (at_builtin; refine wpList_app rfl (.tmp 23) (.tmp 25) 72 rfl wr.heap.size 3 (.int .i64 0) 1 8 Tryz.underlying72 ints_info rfl (by omega) none 0 0 [] rfl HOA.out _ _ 1 _ _ rfl RR.out (by simp [Value.oneCell']) (by unfold maxLen; omega) (by omega) HQA.out ?_; intro A7 c7 w7 hown7 hbw7 _; have HO7 := hide hown7; have HB7 := hide (HBA.out.trans hbw7); clear hown7 hbw7)
      go_roundw
      case rel => exact .inr ⟨A7, c7, _, by omega, rfl, rfl, HO7.out, HB7.out⟩
      case measure => simp [intOf] <;> omega
    · obtain ⟨g, rfl, hg, hlt, hc, _⟩ := Own.at_ hown (k := 0) (by omega)
      have hmax := Own.max hown (by omega)
      have hcap := Own.cap hown
      have hri : RI wr wr.heap.size (some ⟨g, 0, none⟩) 1 (padL n 1) := by
        rw [padL_one hn]
        exact Own.reads hown
      have HRI := hide hri
      have HB := hide hbr
      have d1 : decide ((0 : Int) < z) = false := decide_eq_false (by omega)
      clear hri hbr hown hc
      go_wp2_with fail
      refine (trimmed_lim g c n 1 wr HRI.out (by rw [Nat.pow_one]; exact hn) (by omega) hcap hmax).mono ?_
      rintro en w' ⟨rfl, h1, h2, rfl⟩
      have H1 := hide h1
      go_wp2
      go_ret
      exact ⟨g, c, rfl, H1.out, by omega, hmax, HB.out, hg⟩
end Go.Proofs.YtlkgoljpjeieiaaGreatDoor
