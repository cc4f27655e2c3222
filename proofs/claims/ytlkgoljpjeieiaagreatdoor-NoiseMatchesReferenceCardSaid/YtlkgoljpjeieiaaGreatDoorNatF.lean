/-
  Chapter 3, natural: text.
-/
import Derived.Test.YtlkgoljpjeieiaaGreatDoorNatE
import Derived.Test.YtlkgoljpjeieiaaGreatDoorBui
import Derived.Lib.ItoaMem
set_option linter.unusedVariables false
set_option linter.unusedSimpArgs false
namespace Go.Proofs.YtlkgoljpjeieiaaGreatDoor
open Go.RowKit Go.Deep Go.Maps
open Go.Lib (decDigits)

theorem below_grow (w : World) (k : Nat) (os : Array Obj) : Below w.heap.size w (Sort.grow (w.drewN k) os) := (drewN_below _ _ _).trans ⟨rfl, rfl, rfl, by simp [Sort.grow], fun g hg => by
  have hg : g < w.heap.size := hg
  simp only [Sort.grow]
  exact Array.getElem?_append_left hg⟩
theorem itoa_any (N : Nat) (hN : N < 1000000000) (w : World) (hp : Pow w) : Calls Tryz.prog 87 #[.int .i64 N] w fun e w' => e = .returned (.string (NS N)) ∧ Below w.heap.size w w' := by
  refine (Tryz.strconv_Itoa N (by omega) (by omega) w hp).mono ?_
  rintro e w' ⟨rfl, k, os, rfl⟩
  refine ⟨?_, below_grow _ _ _⟩
  rw [Lib.itoa_nonneg]
  rfl
set_option maxHeartbeats 1000000 in
set_option maxRecDepth 100000 in
theorem ltext_any (A : Option Addr) (c N n : Nat) (w : World) (h : RI w w.heap.size A n (lim N)) (hN : N < 1000000000) (hp : Pow w) (hw : 2 < w.heap.size) :
    Calls Tryz.prog 57 #[.slice A n c] w fun en w' => en = .returned (.tuple #[.string (NS N), .int .i64 0]) ∧ Below w.heap.size w w' := by
  have hn := lim_n h
  by_cases h0 : N = 0
  · subst h0
    rw [nlim_zero] at hn
    subst hn
    rw [ns_zero]
    clear h
    go_enter Tryz.func57, Tryz.ntmps57
    go_wp2
    go_ret2
    exact ⟨rfl, Below.refl _ _⟩
  · rw [nlim_small hN h0] at hn
    subst hn
    rw [lim_small hN h0] at h
    obtain ⟨b, off, rfl, hb, g0⟩ := h.at_ (k := 0) (by omega)
    have g0 : w.cell? ⟨b, off + 0, none⟩ = some (.int .i64 N) := g0
    have hf : BuiF w.heap.size w.heap.size (Lib.byteCells []) (w.alloc (Obj.cells #[Value.pointer none, Value.slice none 0 0] 115)) := Lib.IsBuilderF.of (Lib.fresh_isBuilder 115 5 w)
    have hb1 : Below w.heap.size w (w.alloc (Obj.cells #[Value.pointer none, Value.slice none 0 0] 115)) := (Below.refl _ _).alloc (Nat.le_refl _) _
    have HF := hide hf
    have HB1 := hide hb1
    have HP := hide hp
    have HS := hide (dec_size N)
    clear hf hb1 hp h
    go_enter Tryz.func57, Tryz.ntmps57
    go_upto_region 4 with (fail)
    generalize w.alloc (Obj.cells #[Value.pointer none, Value.slice none 0 0] 115) = w1 at HF HB1 ⊢
    obtain ⟨pb, hpb⟩ : ∃ pb, pb = w.heap.size := ⟨_, rfl⟩
    have HQ := hide hpb
    rw [← hpb] at HF HB1 hb hw ⊢
    clear hpb
    go_wp2
    go_loopw [12] (fun t12 wr => ∃ (i : Nat) (bs : List UInt8), i ≤ 1 ∧ t12 = .int .i64 i ∧ (i = 0 → bs = []) ∧ (i = 1 → bs = decDigits N) ∧ BuiF pb pb (Lib.byteCells bs) wr ∧ Below pb w wr) (fun t12 _ => 1 - (intOf t12).toNat)
    case atStart => exact ⟨0, [], by omega, rfl, fun _ => rfl, fun h => absurd h (by omega), HF.out, HB1.out⟩
    case round =>
      clear HF HB1
      obtain ⟨i, bs, hi, rfl, q0, q1, hbf, hbr⟩ := hrel
      have HBF := hide hbf
      have HBR := hide hbr
      clear hbf hbr
      by_cases hi0 : i = 0
      · subst hi0
        obtain rfl := q0 rfl
        have g0 : wr.cell? ⟨b, off, none⟩ = some (.int .i64 N) := (HBR.out.cell (p := ⟨b, off, none⟩) hb).trans g0
        have HIT := hide (itoa_any N hN wr (HP.out.below HBR.out hw))
        go_wp2_with fail
        refine HIT.out.mono ?_
        rintro en w5 ⟨rfl, hb5⟩
        have h5 := HBF.out.below hb5
        have HB5 := hide (HBR.out.trans (hb5.mono (by have := HBR.out.size; have := HQ.out; omega)))
        have HWR := hide (txt_write pb [] (NS N) w5 h5 (by have := (ns_small hN).2; simp; omega) (by have := HB5.out.size; have := HQ.out; omega))
        clear hb5 h5 HIT q0 q1
        go_wp2_with fail
        refine HWR.out.mono ?_
        rintro en w6 ⟨rfl, h6, hk6⟩
        rw [List.nil_append, ns_list] at h6
        have H6 := hide h6
        have HB6 := hide (HB5.out.trans hk6.bel)
        clear h6 hk6
        go_wp2
        go_roundw
        case rel => exact ⟨0 + 1, _, by omega, by go_num, fun h => absurd h (by omega), fun _ => rfl, H6.out, HB6.out⟩
        case measure => simp [intOf]
      · obtain rfl : i = 1 := by omega
        obtain rfl := q1 rfl
        have HLEN := hide (Tryz.Builder_Len_f pb pb _ wr HBF.out)
        have hl9 : (Lib.byteCells (decDigits N)).length ≤ 9 := by
          rw [Lib.byteCells_length]
          exact HS.out.2 8 (by omega)
        generalize (Lib.byteCells (decDigits N)).length = ln at HLEN hl9
        go_wp2_with fail
        refine HLEN.out.mono ?_
        rintro en w5 ⟨rfl, rfl⟩
        have HST := hide (Tryz.Builder_String_any_k pb pb (decDigits N) w5 HBF.out (by have := HBR.out.size; have := HQ.out; omega))
        go_wp2_with fail
        refine HST.out.mono ?_
        rintro en w6 ⟨rfl, _, hb6, _⟩
        have HB6 := hide (HBR.out.trans hb6)
        clear hb6
        go_wp2
        go_ret2
        exact ⟨rfl, by rw [← HQ.out]; exact HB6.out⟩
end Go.Proofs.YtlkgoljpjeieiaaGreatDoor
