/-
  Chapter 3, natural: sums, products with a limb, differences.
-/
import Derived.Test.YtlkgoljpjeieiaaGreatDoorNatB
set_option linter.unusedVariables false
set_option linter.unusedSimpArgs false
namespace Go.Proofs.YtlkgoljpjeieiaaGreatDoor
open Go.RowKit Go.Deep Go.Maps

theorem lim_n {w : World} {B : Nat} {A : Option Addr} {n N : Nat} (h : RI w B A n (lim N)) : n = nlim N := by
  have := h.len
  rw [lim_len] at this
  exact this.symm
set_option maxRecDepth 100000 in
theorem addf_any (A1 A2 : Option Addr) (c1 c2 N1 N2 n1 n2 b1 b2 i : Nat) (w : World) (x1 : w.cell? ⟨b1, 0, none⟩ = some (.slice A1 n1 c1)) (x2 : w.cell? ⟨b2, 0, none⟩ = some (.slice A2 n2 c2))
    (h1 : RI w w.heap.size A1 n1 (lim N1)) (h2 : RI w w.heap.size A2 n2 (lim N2)) (hn1 : n1 ≤ 100) (hn2 : n2 ≤ 100) (hi : i ≤ 1000) :
    Calls Tryz.prog 60 #[.int .i64 i, .pointer (some ⟨b1, 0, none⟩), .pointer (some ⟨b2, 0, none⟩)] w fun en w' => en = .returned (.int .i64 ((dig N1 i : Int) + (dig N2 i : Int))) ∧ ∃ m, w' = w.drewN m := by
  have HC0 := hide (limb_any A1 c1 N1 n1 i w.drew h1.drew (by omega) (by omega))
  have HC1 := hide (limb_any A2 c2 N2 n2 i w.drew h2.drew (by omega) (by omega))
  have d1 := dig_lt N1 i
  have d2 := dig_lt N2 i
  have hLB : LB = 1000000000 := rfl
  rw [hLB] at d1 d2
  have hw : IntKind.i64.wrap ((dig N1 i : Int) + (dig N2 i : Int)) = (dig N1 i : Int) + (dig N2 i : Int) := IntWalk.i64_in _ (by omega)
  generalize dig N1 i = u at HC0 d1 hw ⊢
  generalize dig N2 i = v at HC1 d2 hw ⊢
  have K0 : Hid (w.drew.cell? ⟨b1, 0, none⟩ = some (.slice A1 n1 c1) ∧ w.drew.cell? ⟨b2, 0, none⟩ = some (.slice A2 n2 c2)) := hide ⟨x1, x2⟩
  clear h1 h2 hLB
  go_enter Tryz.func60, Tryz.ntmps60
  go_upto_region 1 with (fail)
  go_region_held3 (fun w' => w'.cell? ⟨b1, 0, none⟩ = some (.slice A1 n1 c1) ∧ w'.cell? ⟨b2, 0, none⟩ = some (.slice A2 n2 c2))
    (first | go_keep | exact K0.out)
    (first
      | (go_at_call 61; refine (HC0.out).mono ?_; rintro en wx ⟨rfl, rfl⟩; clear HC0)
      | (go_at_call 61; refine (HC1.out).mono ?_; rintro en wx ⟨rfl, rfl⟩; clear HC1))
  go_wp2
  go_ret
  refine ⟨?_, 1, rfl⟩
  rw [← hw]
  rfl
set_option maxRecDepth 100000 in
theorem timesf_any (A1 : Option Addr) (c1 N1 n1 q b1 b2 i : Nat) (w : World) (x1 : w.cell? ⟨b1, 0, none⟩ = some (.slice A1 n1 c1)) (x2 : w.cell? ⟨b2, 0, none⟩ = some (.int .i64 q))
    (h1 : RI w w.heap.size A1 n1 (lim N1)) (hn1 : n1 ≤ 100) (hq : q ≤ 1000000000) (hi : i ≤ 1000) :
    Calls Tryz.prog 117 #[.int .i64 i, .pointer (some ⟨b2, 0, none⟩), .pointer (some ⟨b1, 0, none⟩)] w fun en w' => en = .returned (.int .i64 ((q : Int) * (dig N1 i : Int))) ∧ ∃ m, w' = w.drewN m := by
  have HC0 := hide (limb_any A1 c1 N1 n1 i w.drew h1.drew (by omega) (by omega))
  have d1 := dig_lt N1 i
  have hLB : LB = 1000000000 := rfl
  rw [hLB] at d1
  have hm : q * dig N1 i ≤ 1000000000 * 1000000000 := Nat.mul_le_mul hq (Nat.le_of_lt d1)
  have hw : IntKind.i64.wrap ((q : Int) * (dig N1 i : Int)) = (q : Int) * (dig N1 i : Int) := IntWalk.i64_in _ (by have : ((q * dig N1 i : Nat) : Int) = (q : Int) * (dig N1 i : Int) := Int.natCast_mul _ _; omega)
  generalize dig N1 i = u at HC0 hw ⊢
  have K0 : Hid (w.drew.cell? ⟨b1, 0, none⟩ = some (.slice A1 n1 c1) ∧ w.drew.cell? ⟨b2, 0, none⟩ = some (.int .i64 q)) := hide ⟨x1, x2⟩
  clear h1 hLB hm d1
  go_enter Tryz.func117, Tryz.ntmps117
  go_upto_region 1 with (fail)
  go_region_held3 (fun w' => w'.cell? ⟨b1, 0, none⟩ = some (.slice A1 n1 c1) ∧ w'.cell? ⟨b2, 0, none⟩ = some (.int .i64 q))
    (first | go_keep | exact K0.out)
    (first
      | (go_at_call 61; refine (HC0.out).mono ?_; rintro en wx ⟨rfl, rfl⟩; clear HC0))
  go_wp2
  go_ret
  refine ⟨?_, 1, rfl⟩
  rw [← hw]
  rfl
set_option maxRecDepth 100000 in
theorem subf_any (A1 A2 : Option Addr) (c1 c2 N1 N2 n1 n2 b1 b2 i : Nat) (w : World) (x1 : w.cell? ⟨b1, 0, none⟩ = some (.slice A1 n1 c1)) (x2 : w.cell? ⟨b2, 0, none⟩ = some (.slice A2 n2 c2))
    (h1 : RI w w.heap.size A1 n1 (lim N1)) (h2 : RI w w.heap.size A2 n2 (lim N2)) (hn1 : n1 ≤ 100) (hn2 : n2 ≤ 100) (hi : i < n1) :
    Calls Tryz.prog 118 #[.int .i64 i, .pointer (some ⟨b1, 0, none⟩), .pointer (some ⟨b2, 0, none⟩)] w fun en w' => en = .returned (.int .i64 ((dig N1 i : Int) - (dig N2 i : Int))) ∧ ∃ m, w' = w.drewN m := by
  have HC1 := hide (limb_any A2 c2 N2 n2 i w.drew h2.drew (by omega) (by omega))
  obtain ⟨b, off, rfl, hb, g0⟩ := h1.at_ hi
  rw [lim_nth (by rw [← lim_n h1]; exact hi)] at g0
  have d1 := dig_lt N1 i
  have d2 := dig_lt N2 i
  have hLB : LB = 1000000000 := rfl
  rw [hLB] at d1 d2
  have hw : IntKind.i64.wrap ((dig N1 i : Int) - (dig N2 i : Int)) = (dig N1 i : Int) - (dig N2 i : Int) := IntWalk.i64_in _ (by omega)
  generalize dig N1 i = u at g0 d1 hw ⊢
  generalize dig N2 i = v at HC1 d2 hw ⊢
  have K0 : Hid (w.drew.cell? ⟨b1, 0, none⟩ = some (.slice (some ⟨b, off, none⟩) n1 c1) ∧ w.drew.cell? ⟨b2, 0, none⟩ = some (.slice A2 n2 c2) ∧ w.drew.cell? ⟨b, off + i, none⟩ = some (.int .i64 u)) := hide ⟨x1, x2, g0⟩
  have e0 : (0 : Int) ≤ (i : Int) := by omega
  have e1 : (i : Int) < (n1 : Int) := by omega
  clear h1 h2 hLB
  go_enter Tryz.func118, Tryz.ntmps118
  go_upto_region 1 with (fail)
  go_region_held3 (fun w' => w'.cell? ⟨b1, 0, none⟩ = some (.slice (some ⟨b, off, none⟩) n1 c1) ∧ w'.cell? ⟨b2, 0, none⟩ = some (.slice A2 n2 c2) ∧ w'.cell? ⟨b, off + i, none⟩ = some (.int .i64 u))
    (first | go_keep | exact K0.out)
    (first
      | (go_at_call 61; refine (HC1.out).mono ?_; rintro en wx ⟨rfl, rfl⟩; clear HC1))
  go_wp2
  go_ret
  refine ⟨?_, 1, rfl⟩
  rw [← hw]
  rfl
theorem enter_add : ∀ args w, (callFunc 60 args).run Tryz.prog w = .ok (.enter 60 args) w := enters_of Tryz.func60 (by kernel_rfl) rfl
theorem enter_times : ∀ args w, (callFunc 117 args).run Tryz.prog w = .ok (.enter 117 args) w := enters_of Tryz.func117 (by kernel_rfl) rfl
theorem enter_sub : ∀ args w, (callFunc 118 args).run Tryz.prog w = .ok (.enter 118 args) w := enters_of Tryz.func118 (by kernel_rfl) rfl
theorem lim_lt {w : World} {B : Nat} {A : Option Addr} {n N k : Nat} (h : RI w B A n (lim N)) (hk : n ≤ k) : N < LB ^ k := by
  have h1 := nlim_lt N
  rw [← lim_n h] at h1
  exact Nat.lt_of_lt_of_le h1 (Nat.pow_le_pow_right (by decide) hk)
theorem LimPost.of {V : Nat} {w w2 : World} {en : Ending} {w' : World} (h : LimPost V w2 en w') (hb : Below w.heap.size w w2) : LimPost V w en w' := by
  obtain ⟨b, c, e, h1, h2, h3, h4, h5⟩ := h
  exact ⟨b, c, e, h1, h2, h3, hb.trans (h4.mono hb.size), Nat.le_trans hb.size h5⟩
theorem two_boxes (w : World) (u v : Value) (tu tv : TypeId) : Below w.heap.size w ((w.alloc (Obj.cells #[u] tu)).alloc (Obj.cells #[v] tv)) ∧
    (∀ W, Below ((w.alloc (Obj.cells #[u] tu)).alloc (Obj.cells #[v] tv)).heap.size ((w.alloc (Obj.cells #[u] tu)).alloc (Obj.cells #[v] tv)) W → W.cell? ⟨w.heap.size, 0, none⟩ = some u ∧ W.cell? ⟨w.heap.size + 1, 0, none⟩ = some v) := by
  have n0 : Blk ((w.alloc (Obj.cells #[u] tu)).alloc (Obj.cells #[v] tv)) w.heap.size tu #[u] := (Blk.new _ _ _).alloc _
  have n1 : Blk ((w.alloc (Obj.cells #[u] tu)).alloc (Obj.cells #[v] tv)) (w.heap.size + 1) tv #[v] := by
    have := Blk.new (w.alloc (Obj.cells #[u] tu)) tv #[v]
    simpa using this
  refine ⟨((Below.refl _ _).alloc (Nat.le_refl _) _).alloc (by simp) _, fun W hW => ⟨?_, ?_⟩⟩
  · rw [hW.cell (p := ⟨w.heap.size, 0, none⟩) n0.lt]
    exact n0.cell 0
  · rw [hW.cell (p := ⟨w.heap.size + 1, 0, none⟩) n1.lt]
    exact n1.cell 0
theorem dig_small (n i : Nat) : dig n i < 1000000000 := dig_lt n i
set_option maxHeartbeats 1000000 in
set_option maxRecDepth 100000 in
theorem ladd_any (A1 A2 : Option Addr) (c1 c2 N1 N2 n1 n2 : Nat) (w : World) (h1 : RI w w.heap.size A1 n1 (lim N1)) (h2 : RI w w.heap.size A2 n2 (lim N2)) (hn1 : n1 ≤ 50) (hn2 : n2 ≤ 50) :
    Calls Tryz.prog 40 #[.slice A1 n1 c1, .slice A2 n2 c2] w (LimPost (N1 + N2) w) := by
  have hmf : ∀ (fn : Fn) (first cap : Array Value) (w : World), (Instr.makeFunc fn first cap).run Tryz.prog w = .ok (.func fn first cap) w := fun _ _ _ _ => rfl
  obtain ⟨hb, hbox⟩ := two_boxes w (.slice A1 n1 c1) (.slice A2 n2 c2) 72 72
  have HB := hide hb
  have HCOL : Hid (∀ k : Nat, n1 ≤ k → n2 ≤ k → k ≤ 50 → Calls Tryz.prog 59 #[.int .i64 ((k : Int) + 1), .func (.func 60) #[] #[.pointer (some ⟨w.heap.size, 0, none⟩), .pointer (some ⟨w.heap.size + 1, 0, none⟩)]]
      ((w.alloc (Obj.cells #[.slice A1 n1 c1] 72)).alloc (Obj.cells #[.slice A2 n2 c2] 72)) (LimPost (N1 + N2) ((w.alloc (Obj.cells #[.slice A1 n1 c1] 72)).alloc (Obj.cells #[.slice A2 n2 c2] 72)))) := hide (fun k hk1 hk2 hk => by
    have l1 := lim_lt h1 hk1
    have l2 := lim_lt h2 hk2
    have l1' := lim_lt h1 (Nat.le_succ_of_le hk1)
    have l2' := lim_lt h2 (Nat.le_succ_of_le hk2)
    have hV : N1 + N2 < LB ^ (k + 1) := by
      have : LB ^ (k + 1) = LB ^ k * 1000000000 := Nat.pow_succ ..
      omega
    have hpl : place (fun i => (dig N1 i : Int) + (dig N2 i : Int)) (k + 1) = ((N1 + N2 : Nat) : Int) := by
      rw [place_add, place_num N1 l1', place_num N2 l2']
      omega
    have hg : ∀ i, -2000000000 ≤ (dig N1 i : Int) + (dig N2 i : Int) ∧ (dig N1 i : Int) + (dig N2 i : Int) ≤ 2000000000 := fun i => by
      have := dig_small N1 i
      have := dig_small N2 i
      omega
    have h0 : ∀ i, i < k + 1 → 0 ≤ ((dig N1 i : Int) + (dig N2 i : Int)) + carry (fun i => (dig N1 i : Int) + (dig N2 i : Int)) i ∧ ((dig N1 i : Int) + (dig N2 i : Int)) + carry (fun i => (dig N1 i : Int) + (dig N2 i : Int)) i ≤ 4000000000000000000 := fun i _ => by
      have e1 := carry_nn (g := fun i => (dig N1 i : Int) + (dig N2 i : Int)) (fun i => by show 0 ≤ (dig N1 i : Int) + (dig N2 i : Int); omega) i
      have e2 := (carry_bd (g := fun i => (dig N1 i : Int) + (dig N2 i : Int)) (M := 2000000000) (by omega) hg i).2
      have e3 := hg i
      omega
    have := collect_any 60 (.pointer (some ⟨w.heap.size, 0, none⟩)) (.pointer (some ⟨w.heap.size + 1, 0, none⟩)) (fun i => (dig N1 i : Int) + (dig N2 i : Int)) (N1 + N2) (k + 1)
      ((w.alloc (Obj.cells #[.slice A1 n1 c1] 72)).alloc (Obj.cells #[.slice A2 n2 c2] 72)) enter_add (by omega) hV hpl h0 (fun i hi W hW =>
        addf_any A1 A2 c1 c2 N1 N2 n1 n2 _ _ i W (hbox W hW).1 (hbox W hW).2 (((h1.allocs _).allocs _).next hW) (((h2.allocs _).allocs _).next hW) (by omega) (by omega) (by omega))
    have e : ((k + 1 : Nat) : Int) = (k : Int) + 1 := by omega
    rw [e] at this
    exact this)
  clear h1 h2 hb hbox
  go_enter Tryz.func40, Tryz.ntmps40
  go_wp2_with fail
  · refine (HCOL.out n2 (by omega) (Nat.le_refl _) hn2).mono ?_
    rintro en w' hp
    obtain ⟨b, c, rfl, q1, q2, q3, q4⟩ := hp.of HB.out
    have Q := hide (And.intro q1 (And.intro q2 (And.intro q3 q4)))
    clear hp q1 q2 q3 q4
    go_wp2
    go_ret
    exact ⟨b, c, rfl, Q.out.1, Q.out.2.1, Q.out.2.2.1, Q.out.2.2.2⟩
  · refine (HCOL.out n1 (Nat.le_refl _) (by omega) hn1).mono ?_
    rintro en w' hp
    obtain ⟨b, c, rfl, q1, q2, q3, q4⟩ := hp.of HB.out
    have Q := hide (And.intro q1 (And.intro q2 (And.intro q3 q4)))
    clear hp q1 q2 q3 q4
    go_wp2
    go_ret
    exact ⟨b, c, rfl, Q.out.1, Q.out.2.1, Q.out.2.2.1, Q.out.2.2.2⟩
set_option maxHeartbeats 1000000 in
set_option maxRecDepth 100000 in
theorem ltimes_any (A1 : Option Addr) (c1 N1 n1 q : Nat) (w : World) (h1 : RI w w.heap.size A1 n1 (lim N1)) (hn1 : n1 ≤ 50) (hq : q < 1000000000) :
    Calls Tryz.prog 85 #[.slice A1 n1 c1, .int .i64 q] w (LimPost (q * N1) w) := by
  have hmf : ∀ (fn : Fn) (first cap : Array Value) (w : World), (Instr.makeFunc fn first cap).run Tryz.prog w = .ok (.func fn first cap) w := fun _ _ _ _ => rfl
  obtain ⟨hb, hbox⟩ := two_boxes w (.slice A1 n1 c1) (.int .i64 q) 72 3
  have HB := hide hb
  have HCOL : Hid (Calls Tryz.prog 59 #[.int .i64 ((n1 : Int) + 1), .func (.func 117) #[] #[.pointer (some ⟨w.heap.size + 1, 0, none⟩), .pointer (some ⟨w.heap.size, 0, none⟩)]]
      ((w.alloc (Obj.cells #[.slice A1 n1 c1] 72)).alloc (Obj.cells #[.int .i64 q] 3)) (LimPost (q * N1) ((w.alloc (Obj.cells #[.slice A1 n1 c1] 72)).alloc (Obj.cells #[.int .i64 q] 3)))) := hide (by
    have l1 := lim_lt h1 (Nat.le_refl _)
    have l1' := lim_lt h1 (Nat.le_succ n1)
    have hV : q * N1 < LB ^ (n1 + 1) := by
      have e : LB ^ (n1 + 1) = LB * LB ^ n1 := by rw [Nat.pow_succ, Nat.mul_comm]
      rw [e]
      exact Nat.mul_lt_mul_of_lt_of_le hq (Nat.le_of_lt l1) (Nat.pow_pos (by decide))
    have hpl : place (fun i => (q : Int) * (dig N1 i : Int)) (n1 + 1) = ((q * N1 : Nat) : Int) := by
      rw [place_mul, place_num N1 l1', Int.natCast_mul]
    have hg0 : ∀ i, 0 ≤ (q : Int) * (dig N1 i : Int) ∧ (q : Int) * (dig N1 i : Int) ≤ 1000000000000000000 := fun i => by
      have h3 : q * dig N1 i ≤ 1000000000 * 1000000000 := Nat.mul_le_mul (Nat.le_of_lt hq) (Nat.le_of_lt (dig_small N1 i))
      have h4 : ((q * dig N1 i : Nat) : Int) = (q : Int) * (dig N1 i : Int) := Int.natCast_mul _ _
      omega
    have h0 : ∀ i, i < n1 + 1 → 0 ≤ (q : Int) * (dig N1 i : Int) + carry (fun i => (q : Int) * (dig N1 i : Int)) i ∧ (q : Int) * (dig N1 i : Int) + carry (fun i => (q : Int) * (dig N1 i : Int)) i ≤ 4000000000000000000 := fun i _ => by
      have e1 := carry_nn (g := fun i => (q : Int) * (dig N1 i : Int)) (fun i => (hg0 i).1) i
      have e2 := (carry_bd (g := fun i => (q : Int) * (dig N1 i : Int)) (M := 1000000000000000000) (by omega) (fun i => ⟨by have := (hg0 i).1; omega, (hg0 i).2⟩) i).2
      have e3 := hg0 i
      omega
    have := collect_any 117 (.pointer (some ⟨w.heap.size + 1, 0, none⟩)) (.pointer (some ⟨w.heap.size, 0, none⟩)) (fun i => (q : Int) * (dig N1 i : Int)) (q * N1) (n1 + 1)
      ((w.alloc (Obj.cells #[.slice A1 n1 c1] 72)).alloc (Obj.cells #[.int .i64 q] 3)) enter_times (by omega) hV hpl h0 (fun i hi W hW =>
        timesf_any A1 c1 N1 n1 q _ _ i W (hbox W hW).1 (hbox W hW).2 (((h1.allocs _).allocs _).next hW) (by omega) (by omega) (by omega))
    have e : ((n1 + 1 : Nat) : Int) = (n1 : Int) + 1 := by omega
    rw [e] at this
    exact this)
  clear h1 hb hbox
  go_enter Tryz.func85, Tryz.ntmps85
  go_wp2_with fail
  refine HCOL.out.mono ?_
  rintro en w' hp
  obtain ⟨b, c, rfl, q1, q2, q3, q4⟩ := hp.of HB.out
  have Q := hide (And.intro q1 (And.intro q2 (And.intro q3 q4)))
  clear hp q1 q2 q3 q4
  go_wp2
  go_ret
  exact ⟨b, c, rfl, Q.out.1, Q.out.2.1, Q.out.2.2.1, Q.out.2.2.2⟩
set_option maxHeartbeats 1000000 in
set_option maxRecDepth 100000 in
theorem lsub_any (A1 A2 : Option Addr) (c1 c2 N1 N2 n1 n2 : Nat) (w : World) (h1 : RI w w.heap.size A1 n1 (lim N1)) (h2 : RI w w.heap.size A2 n2 (lim N2)) (hN1 : N1 < LB) (hle : N2 ≤ N1) :
    Calls Tryz.prog 86 #[.slice A1 n1 c1, .slice A2 n2 c2] w (LimPost (N1 - N2) w) := by
  have hmf : ∀ (fn : Fn) (first cap : Array Value) (w : World), (Instr.makeFunc fn first cap).run Tryz.prog w = .ok (.func fn first cap) w := fun _ _ _ _ => rfl
  have hn1 : n1 ≤ 1 := by
    rw [lim_n h1]
    exact nlim_bd (by rw [Nat.pow_one]; exact hN1)
  have hn2 : n2 ≤ 1 := by
    rw [lim_n h2]
    exact nlim_bd (by rw [Nat.pow_one]; omega)
  obtain ⟨hb, hbox⟩ := two_boxes w (.slice A1 n1 c1) (.slice A2 n2 c2) 72 72
  have HB := hide hb
  have HCOL : Hid (Calls Tryz.prog 59 #[.int .i64 (n1 : Int), .func (.func 118) #[] #[.pointer (some ⟨w.heap.size, 0, none⟩), .pointer (some ⟨w.heap.size + 1, 0, none⟩)]]
      ((w.alloc (Obj.cells #[.slice A1 n1 c1] 72)).alloc (Obj.cells #[.slice A2 n2 c2] 72)) (LimPost (N1 - N2) ((w.alloc (Obj.cells #[.slice A1 n1 c1] 72)).alloc (Obj.cells #[.slice A2 n2 c2] 72)))) := hide (by
    have l1 := lim_lt h1 (Nat.le_refl _)
    have hV : N1 - N2 < LB ^ n1 := by omega
    have hpl : place (fun i => (dig N1 i : Int) - (dig N2 i : Int)) n1 = ((N1 - N2 : Nat) : Int) := by
      rw [place_sub, place_num N1 l1, place_num N2 (by omega)]
      omega
    have d0 : ∀ N, N < LB → dig N 0 = N := fun N h => by
      unfold dig
      rw [Nat.pow_zero, Nat.div_one, Nat.mod_eq_of_lt h]
    have h0 : ∀ i, i < n1 → 0 ≤ ((dig N1 i : Int) - (dig N2 i : Int)) + carry (fun i => (dig N1 i : Int) - (dig N2 i : Int)) i ∧ ((dig N1 i : Int) - (dig N2 i : Int)) + carry (fun i => (dig N1 i : Int) - (dig N2 i : Int)) i ≤ 4000000000000000000 := fun i hi => by
      obtain rfl : i = 0 := by omega
      have e1 := d0 N1 hN1
      have e2 := d0 N2 (by omega)
      have e3 := dig_small N1 0
      have e4 : carry (fun i => (dig N1 i : Int) - (dig N2 i : Int)) 0 = 0 := rfl
      rw [e4, e1, e2]
      omega
    exact collect_any 118 (.pointer (some ⟨w.heap.size, 0, none⟩)) (.pointer (some ⟨w.heap.size + 1, 0, none⟩)) (fun i => (dig N1 i : Int) - (dig N2 i : Int)) (N1 - N2) n1
      ((w.alloc (Obj.cells #[.slice A1 n1 c1] 72)).alloc (Obj.cells #[.slice A2 n2 c2] 72)) enter_sub (by omega) hV hpl h0 (fun i hi W hW =>
        subf_any A1 A2 c1 c2 N1 N2 n1 n2 _ _ i W (hbox W hW).1 (hbox W hW).2 (((h1.allocs _).allocs _).next hW) (((h2.allocs _).allocs _).next hW) (by omega) (by omega) hi))
  clear h1 h2 hb hbox
  go_enter Tryz.func86, Tryz.ntmps86
  go_wp2_with fail
  refine HCOL.out.mono ?_
  rintro en w' hp
  obtain ⟨b, c, rfl, q1, q2, q3, q4⟩ := hp.of HB.out
  have Q := hide (And.intro q1 (And.intro q2 (And.intro q3 q4)))
  clear hp q1 q2 q3 q4
  go_wp2
  go_ret
  exact ⟨b, c, rfl, Q.out.1, Q.out.2.1, Q.out.2.2.1, Q.out.2.2.2⟩
end Go.Proofs.YtlkgoljpjeieiaaGreatDoor
