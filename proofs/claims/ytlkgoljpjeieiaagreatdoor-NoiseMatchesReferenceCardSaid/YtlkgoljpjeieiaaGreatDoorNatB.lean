/-
  Chapter 3, natural: collect.
-/
import Derived.Test.YtlkgoljpjeieiaaGreatDoorNatA
set_option linter.unusedVariables false
set_option linter.unusedSimpArgs false
namespace Go.Proofs.YtlkgoljpjeieiaaGreatDoor
open Go.RowKit Go.Deep Go.Maps

theorem put_any (n bc bo g i : Nat) (k s : Int) (w : World) (hc : w.cell? ⟨bc, 0, none⟩ = some (.int .i64 k)) (fc : w.frozen? ⟨bc, 0, none⟩ = false)
    (ho : w.cell? ⟨bo, 0, none⟩ = some (.slice (some ⟨g, 0, none⟩) n n)) (hx : ∃ x, w.cell? ⟨g, i, none⟩ = some (.int .i64 x)) (fg : w.frozen? ⟨g, i, none⟩ = false) (hi : i < n) (hn : n ≤ 1000000)
    (h0 : 0 ≤ s + k) (hs : s + k ≤ 4000000000000000000) (h1 : ¬ bc = bo) (h2 : ¬ bc = g) :
    Calls Tryz.prog 92 #[.int .i64 i, .int .i64 s, .pointer (some ⟨bc, 0, none⟩), .pointer (some ⟨bo, 0, none⟩)] w fun en w' =>
      en = .returned (.tuple #[]) ∧ w' = (w.setCell ⟨bc, 0, none⟩ (.int .i64 ((s + k) / 1000000000))).setCell ⟨g, i, none⟩ (.int .i64 ((s + k) % 1000000000)) := by
  obtain ⟨x, hx⟩ := hx
  obtain ⟨t, ht⟩ : ∃ t, t = s + k := ⟨_, rfl⟩
  have e1 : t.tdiv 1000000000 = t / 1000000000 := Int.tdiv_eq_ediv_of_nonneg (by omega)
  have e2 : t.tmod 1000000000 = t % 1000000000 := Int.tmod_eq_emod_of_nonneg (by omega)
  have b0 : 0 ≤ t % 1000000000 := Int.emod_nonneg _ (by decide)
  rw [← ht] at h0 hs ⊢
  have hsk : s + k = t := ht.symm
  clear ht
  go_enter Tryz.func92, Tryz.ntmps92
  go_wp2
  go_end0
  exact ⟨rfl, rfl⟩
theorem ints_info : (Tryz.prog.info? 3).map (fun i => (i.zero, i.size, i.bytes)) = some (some (.int .i64 0), 1, 8) := by kernel_rfl
/-- What collect leaves: a new row with the limbs of V. -/
def LimPost (V : Nat) (w : World) (en : Ending) (w' : World) : Prop :=
  ∃ b c, en = .returned (.slice (some ⟨b, 0, none⟩) (nlim V) c) ∧ RI w' w'.heap.size (some ⟨b, 0, none⟩) (nlim V) (lim V) ∧ nlim V ≤ c ∧ c ≤ maxLen ∧ Below w.heap.size w w' ∧ w.heap.size ≤ b
theorem carry_nn {g : Nat → Int} (h : ∀ i, 0 ≤ g i) : ∀ k, 0 ≤ carry g k
  | 0 => by unfold carry; omega
  | k + 1 => by
    have h1 := carry_nn h k
    have h2 := h k
    unfold carry
    omega
theorem out_set (g : Nat → Int) {n i : Nat} (h : i < n) : (outL g i ++ List.replicate (n - i) 0).set i ((g i + carry g i) % 1000000000) = outL g (i + 1) ++ List.replicate (n - (i + 1)) 0 := by
  have e : n - i = (n - (i + 1)) + 1 := by omega
  have hl := outL_len g i
  rw [e, List.replicate_succ, List.set_append_right _ _ (by omega), hl, Nat.sub_self, List.set_cons_zero, outL_succ, List.append_assoc]
  rfl
theorem zeros_row (n : Nat) : (Array.replicate n (Value.int .i64 0)) = (ints (List.replicate n 0)).toArray := by
  apply Array.ext'
  simp [ints]
set_option maxHeartbeats 4000000 in
set_option maxRecDepth 100000 in
theorem collect_any (F : Nat) (p1 p2 : Value) (g : Nat → Int) (V n : Nat) (w : World) (hen : ∀ args w, (callFunc F args).run Tryz.prog w = .ok (.enter F args) w) (hn : n ≤ 1000) (hV : V < LB ^ n) (hpl : place g n = (V : Int)) (h0 : ∀ i, i < n → 0 ≤ g i + carry g i ∧ g i + carry g i ≤ 4000000000000000000)
    (hof : ∀ i, i < n → ∀ W, Below w.heap.size w W → Calls Tryz.prog F #[.int .i64 (i : Nat), p1, p2] W fun en W' => en = .returned (.int .i64 (g i)) ∧ ∃ m, W' = W.drewN m) :
    Calls Tryz.prog 59 #[.int .i64 n, .func (.func F) #[] #[p1, p2]] w (LimPost V w) := by
  have hmk := fun (w : World) => make_run (P := Tryz.prog) 72 3 (.int .i64 0) 8 Tryz.underlying72 ints_info rfl n (by omega) (by omega) w
  have hmf : ∀ (fn : Fn) (first cap : Array Value) (w : World), (Instr.makeFunc fn first cap).run Tryz.prog w = .ok (.func fn first cap) w := fun _ _ _ _ => rfl
  have HOF := hide hof
  have HV := hide (And.intro hV hpl)
  have H0 := hide h0
  clear hof hV hpl h0
  go_enter Tryz.func59, Tryz.ntmps59
  go_upto_region 2 with (fail)
  have n0 : Blk (((w.alloc (Obj.cells (Array.replicate n (.int .i64 0)) 3)).alloc (Obj.cells #[.slice (some ⟨w.heap.size, 0, none⟩) n n] 72)).alloc (Obj.cells #[.int .i64 0] 3)) w.heap.size 3 (ints (outL g 0 ++ List.replicate (n - 0) 0)).toArray := by
    have := ((Blk.new w 3 (Array.replicate n (.int .i64 0))).alloc (Obj.cells #[.slice (some ⟨w.heap.size, 0, none⟩) n n] 72)).alloc (Obj.cells #[.int .i64 0] 3)
    rw [zeros_row] at this ⊢
    exact this
  have n1 : Blk (((w.alloc (Obj.cells (Array.replicate n (.int .i64 0)) 3)).alloc (Obj.cells #[.slice (some ⟨w.heap.size, 0, none⟩) n n] 72)).alloc (Obj.cells #[.int .i64 0] 3)) (w.heap.size + 1) 72 #[.slice (some ⟨w.heap.size, 0, none⟩) n n] := by
    have := (Blk.new (w.alloc (Obj.cells (Array.replicate n (.int .i64 0)) 3)) 72 #[.slice (some ⟨w.heap.size, 0, none⟩) n n]).alloc (Obj.cells #[.int .i64 0] 3)
    simpa using this
  have n2 : Blk (((w.alloc (Obj.cells (Array.replicate n (.int .i64 0)) 3)).alloc (Obj.cells #[.slice (some ⟨w.heap.size, 0, none⟩) n n] 72)).alloc (Obj.cells #[.int .i64 0] 3)) (w.heap.size + 1 + 1) 3 #[.int .i64 (carry g 0)] := by
    have := Blk.new ((w.alloc (Obj.cells (Array.replicate n (.int .i64 0)) 3)).alloc (Obj.cells #[.slice (some ⟨w.heap.size, 0, none⟩) n n] 72)) 3 #[.int .i64 0]
    have e : carry g 0 = 0 := rfl
    rw [e]
    simpa using this
  have hb0 : Below w.heap.size w (((w.alloc (Obj.cells (Array.replicate n (.int .i64 0)) 3)).alloc (Obj.cells #[.slice (some ⟨w.heap.size, 0, none⟩) n n] 72)).alloc (Obj.cells #[.int .i64 0] 3)) :=
    (((Below.refl _ _).alloc (Nat.le_refl _) _).alloc (by simp) _).alloc (by simp; omega) _
  have h01 : w.heap.size < w.heap.size + 1 := by omega
  have h12 : w.heap.size + 1 < w.heap.size + 1 + 1 := by omega
  generalize (((w.alloc (Obj.cells (Array.replicate n (.int .i64 0)) 3)).alloc (Obj.cells #[.slice (some ⟨w.heap.size, 0, none⟩) n n] 72)).alloc (Obj.cells #[.int .i64 0] 3)) = w0 at n0 n1 n2 hb0 ⊢
  generalize w.heap.size + 1 + 1 = b2 at n2 h12 ⊢
  generalize w.heap.size + 1 = b1 at n1 h01 h12 ⊢
  obtain ⟨b0, hq⟩ : ∃ b0, b0 = w.heap.size := ⟨_, rfl⟩
  have HQ := hide hq
  rw [← hq] at n0 n1 h01 hb0 ⊢
  clear hq hmk
  have N0 := hide n0
  have N1 := hide n1
  have N2 := hide n2
  have HB0 := hide hb0
  have m1 : ¬ b2 = b1 := by omega
  have m2 : ¬ b2 = b0 := by omega
  have m3 : ¬ b0 = b2 := by omega
  clear n0 n1 n2 hb0
  go_wp2
  go_loopw [13] (fun t13 wr => ∃ i : Nat, i ≤ n ∧ t13 = .int .i64 i ∧ Blk wr b0 3 (ints (outL g i ++ List.replicate (n - i) 0)).toArray ∧ Blk wr b1 72 #[.slice (some ⟨b0, 0, none⟩) n n] ∧ Blk wr b2 3 #[.int .i64 (carry g i)] ∧ Below b0 w wr) (fun t13 _ => n - (intOf t13).toNat)
  case atStart => exact ⟨0, Nat.zero_le _, rfl, N0.out, N1.out, N2.out, HB0.out⟩
  case round =>
    clear N0 N1 N2 HB0
    obtain ⟨i, hi, rfl, k0, k1, k2, hbr⟩ := hrel
    have K0 := hide k0
    have K1 := hide k1
    have K2 := hide k2
    have HBR := hide hbr
    clear k0 k1 k2 hbr
    by_cases hlt : i < n
    · have HC1 : Hid (Calls Tryz.prog F #[.int .i64 (i : Nat), p1, p2] wr fun en W' => en = .returned (.int .i64 (g i)) ∧ ∃ m, W' = wr.drewN m) := hide (HOF.out i hlt wr (by rw [← HQ.out]; exact HBR.out))
      obtain ⟨s0, s1⟩ := H0.out i hlt
      have hset := out_set g hlt
      go_wp2_with fail
      refine HC1.out.mono ?_
      rintro en W' ⟨rfl, m, hW⟩
      have c2 := (K2.out.drewN m).cell 0
      have c1 := (K1.out.drewN m).cell 0
      have c0 := (K0.out.drewN m).int (k := i) (by rw [List.length_append, outL_len, List.length_replicate]; omega)
      have f2 := (K2.out.drewN m).frozen 0
      have f0 := (K0.out.drewN m).frozen i
      rw [← hW] at c2 c1 c0 f2 f0
      have NEW : Hid (Blk ((W'.setCell ⟨b2, 0, none⟩ (.int .i64 ((g i + carry g i) / 1000000000))).setCell ⟨b0, i, none⟩ (.int .i64 ((g i + carry g i) % 1000000000))) b0 3 (ints (outL g (i + 1) ++ List.replicate (n - (i + 1)) 0)).toArray ∧
          Blk ((W'.setCell ⟨b2, 0, none⟩ (.int .i64 ((g i + carry g i) / 1000000000))).setCell ⟨b0, i, none⟩ (.int .i64 ((g i + carry g i) % 1000000000))) b1 72 #[.slice (some ⟨b0, 0, none⟩) n n] ∧
          Blk ((W'.setCell ⟨b2, 0, none⟩ (.int .i64 ((g i + carry g i) / 1000000000))).setCell ⟨b0, i, none⟩ (.int .i64 ((g i + carry g i) % 1000000000))) b2 3 #[.int .i64 (carry g (i + 1))] ∧
          Below b0 w ((W'.setCell ⟨b2, 0, none⟩ (.int .i64 ((g i + carry g i) / 1000000000))).setCell ⟨b0, i, none⟩ (.int .i64 ((g i + carry g i) % 1000000000)))) := hide (by
        subst hW
        refine ⟨?_, ?_, ?_, ?_⟩
        · have := ((K0.out.drewN m).far (p := ⟨b2, 0, none⟩) m3 (.int .i64 ((g i + carry g i) / 1000000000))).setInt i ((g i + carry g i) % 1000000000)
          rw [hset] at this
          exact this
        · exact ((K1.out.drewN m).far (p := ⟨b2, 0, none⟩) (fun h => m1 h.symm) _).far (p := ⟨b0, i, none⟩) (by show ¬ b1 = b0; omega) _
        · exact ((K2.out.drewN m).set_ 0 _).far (p := ⟨b0, i, none⟩) m2 _
        · exact ((below_drewN HBR.out m).setCell (p := ⟨b2, 0, none⟩) (by show b0 ≤ b2; omega) _).setCell (p := ⟨b0, i, none⟩) (Nat.le_refl _) _)
      have HPUT : Hid (Calls Tryz.prog 92 #[.int .i64 (i : Nat), .int .i64 (g i), .pointer (some ⟨b2, 0, none⟩), .pointer (some ⟨b1, 0, none⟩)] W' fun en w' =>
          en = .returned (.tuple #[]) ∧ w' = (W'.setCell ⟨b2, 0, none⟩ (.int .i64 ((g i + carry g i) / 1000000000))).setCell ⟨b0, i, none⟩ (.int .i64 ((g i + carry g i) % 1000000000))) :=
        hide (put_any n b2 b1 b0 i (carry g i) (g i) W' c2 f2 c1 ⟨_, c0⟩ f0 hlt (by omega) s0 s1 m1 m2)
      clear c2 c1 c0 f2 f0 hset s0 s1 hW
      go_wp2_with fail
      refine HPUT.out.mono ?_
      rintro en W2 ⟨rfl, hW2⟩
      rw [← hW2] at NEW
      clear hW2
      go_wp2
      go_roundw
      case rel => exact ⟨i + 1, by omega, by go_num, NEW.out.1, NEW.out.2.1, NEW.out.2.2.1, NEW.out.2.2.2⟩
      case measure => simp [intOf] <;> omega
    · obtain rfl : i = n := by omega
      have hrow : outL g i ++ List.replicate (i - i) 0 = padL V i := by
        rw [Nat.sub_self, List.replicate_zero, List.append_nil]
        exact coll_num HV.out.1 HV.out.2
      rw [hrow] at K0
      have c1 := K1.out.cell 0
      have HRI : Hid (RI wr wr.heap.size (some ⟨b0, 0, none⟩) i (padL V i)) := hide (RI.of_blk K0.out (padL_len V i))
      have HFB : Hid (Below w.heap.size w wr) := by show _; rw [← HQ.out]; exact HBR.out
      have d1 : decide ((i : Int) < (i : Int)) = false := decide_eq_false (by omega)
      clear hrow
      go_wp2_with fail
      refine (trimmed_lim b0 i V i wr HRI.out HV.out.1 (by omega) (Nat.le_refl _) (by unfold maxLen; omega)).mono ?_
      rintro en W' ⟨rfl, h1, h2, rfl⟩
      have H1 := hide h1
      go_wp2
      go_ret
      exact ⟨b0, i, rfl, H1.out, h2, by unfold maxLen; omega, HFB.out, Nat.le_of_eq HQ.out.symm⟩
end Go.Proofs.YtlkgoljpjeieiaaGreatDoor
