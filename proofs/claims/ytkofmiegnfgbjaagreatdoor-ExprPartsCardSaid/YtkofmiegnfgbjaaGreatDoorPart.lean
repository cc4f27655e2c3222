/-
  The law's part: the nodes of a node, moved to the beginning.
-/
import Derived.Test.YtkofmiegnfgbjaaGreatDoorMov
import Derived.Test.YtkofmiegnfgbjaaGreatDoorTxtP
set_option linter.unusedVariables false
set_option linter.unusedSimpArgs false
namespace Go.Proofs.YtkofmiegnfgbjaaGreatDoor
open Go.RowKit Go.Deep Go.Maps

theorem shiftW_eq {d : Int} {x : Nod} (h : ∀ z ∈ x.kids, -10000 ≤ z + d ∧ z + d ≤ 10000) : shiftW d x = shiftI d x := by
  unfold shiftW shiftI
  have : x.kids.map (fun z => wrap64 (z + d)) = x.kids.map fun z => z + d := List.map_congr_left fun z hz => by
    have := h z hz
    exact IntWalk.wrap64_in _ (by omega)
  rw [this]
theorem shiftW_map {d : Int} {e : List Nod} (h : ∀ x ∈ e, ∀ z ∈ x.kids, -10000 ≤ z + d ∧ z + d ≤ 10000) : e.map (shiftW d) = e.map (shiftI d) := List.map_congr_left fun x hx => shiftW_eq (h x hx)
theorem cellsN_app : ∀ (e : List Nod) (ks : List (Option Addr × Nat)) (e' : List Nod) (ks' : List (Option Addr × Nat)), ks.length = e.length → cellsN (e ++ e') (ks ++ ks') = cellsN e ks ++ cellsN e' ks'
  | [], [], _, _, _ => rfl
  | x :: e, k :: ks, e', ks', h => by
    have := cellsN_app e ks e' ks' (by simpa using h)
    simp only [List.cons_append, cellsN, this]
  | [], _ :: _, _, _, h => by simp at h
  | _ :: _, [], _, _, h => by simp at h
theorem Reads.cut4 {w : World} {B b off N n k : Nat} {pre mid post : List Value} (h : Reads w B 4 (some ⟨b, off, none⟩) N (pre ++ (mid ++ post))) (hp : pre.length = k * 4) (hm : mid.length = n * 4) : Reads w B 4 (some ⟨b, off + k * 4, none⟩) n mid := by
  refine ⟨hm, fun hn => ?_⟩
  have hN : 0 < N := by
    have := h.1
    simp only [List.length_append] at this
    omega
  obtain ⟨ad, hA, hb, hc⟩ := h.2 hN
  injection hA with hA
  subst hA
  refine ⟨⟨b, off + k * 4, none⟩, rfl, hb, fun j u hu => ?_⟩
  have hj : j < mid.length := (List.getElem?_eq_some_iff.1 hu).1
  have := hc (k * 4 + j) u (by
    rw [List.getElem?_append_right (by omega), List.getElem?_append_left (by omega), ← hu]
    congr 1
    omega)
  rw [add_lit] at this ⊢
  rw [Nat.add_assoc]
  exact this
/-- A part of an expression in memory. -/
theorem ExprAt.cut {w : World} {B be offe : Nat} {e : List Nod} (h : ExprAt w B (some ⟨be, offe, none⟩) e) (k n : Nat) (hk : k + n ≤ e.length) : ExprAt w B (some ⟨be, offe + k * 4, none⟩) ((e.drop k).take n) := by
  obtain ⟨ks, h1, h2, h3⟩ := h
  refine ⟨(ks.drop k).take n, by simp; omega, ?_, ?_⟩
  · have hpre : (ks.take k).length = (e.take k).length := by simp; omega
    have hmid : ((ks.drop k).take n).length = ((e.drop k).take n).length := by simp; omega
    have he : e = e.take k ++ ((e.drop k).take n ++ (e.drop k).drop n) := by rw [List.take_append_drop, List.take_append_drop]
    have hk2 : ks = ks.take k ++ ((ks.drop k).take n ++ (ks.drop k).drop n) := by rw [List.take_append_drop, List.take_append_drop]
    have hcell : cellsN e ks = cellsN (e.take k) (ks.take k) ++ (cellsN ((e.drop k).take n) ((ks.drop k).take n) ++ cellsN ((e.drop k).drop n) ((ks.drop k).drop n)) := by
      conv => lhs; rw [he, hk2]
      rw [cellsN_app _ _ _ _ hpre, cellsN_app _ _ _ _ hmid]
    rw [hcell] at h2
    have hl : ((e.drop k).take n).length = n := by simp; omega
    rw [hl]
    exact Reads.cut4 h2 (by rw [cellsN_len _ _ hpre]; simp; omega) (by rw [cellsN_len _ _ hmid, hl])
  · intro i x kk hx hkk
    rw [List.getElem?_take] at hx hkk
    split at hx
    · rename_i hi
      rw [if_pos hi, List.getElem?_drop] at hkk
      rw [List.getElem?_drop] at hx
      exact h3 (k + i) x kk hx hkk
    · cases hx
set_option maxHeartbeats 8000000 in
set_option maxRecDepth 20000 in
theorem part_any (A : Option Addr) (c : Nat) (e : List Nod) (i : Nat) (w : World) (he : ExprAt w w.heap.size A e) (hv : validL e = true) (hi : i < e.length) (hn : ∀ x ∈ e, x.name.size ≤ maxLen) (hc : e.length ≤ c) (hcm : c ≤ maxLen) :
    Calls Tryz.prog 22 #[.slice A e.length c, .int .i64 i] w fun en w' => ∃ A2 c2 l, en = .returned (.slice A2 l.length c2) ∧ ExprAt w' w'.heap.size A2 l ∧ validL l = true ∧ (∀ x ∈ l, x.name.size ≤ maxLen) ∧ Below w.heap.size w w' := by
  obtain ⟨s, K, hg, hat, hiK, hmap, hvs⟩ := part_plain hv hi
  have hl300 : e.length ≤ 300 := by
    obtain ⟨t, _, h2, h3, _⟩ := valid_tree hv
    rw [h2, Tr.flat_len]
    exact h3
  obtain ⟨be, offe, K0, c0, rfl, hbe, _⟩ := he.at_ hi
  have HE := hide he
  have HV := hide hv
  have HMAP := hide hmap
  have HVS := hide hvs
  have hfk : ∀ x ∈ e, x.kids.length ≤ 3 := fun x hx => by
    obtain ⟨j, hj, rfl⟩ := List.getElem_of_mem hx
    have h1 := (valid_nodes hv).2.2 j hj
    rw [nodAt_get' hj]
    exact formed_kids h1.1
  have HFK := hide hfk
  have HN := hide hn
  have HAT := hide hat
  have HG := hide hg
  have HIK := hide hiK
  clear he hv hmap hvs hfk hat hg hiK hn
  unfold maxLen at hcm
  go_enter Tryz.func22, Tryz.ntmps22
  go_wp2
  go_loop [5] (fun t5 => ∃ (f : Nat) (u : Tr), t5 = .int .i64 f ∧ u.good ∧ AtL e K (u.flat K) ∧ f + 1 = K + u.size ∧ f ≤ i) (fun t5 => (intOf t5).toNat)
  case atStart => exact ⟨i, s, rfl, HG.out, HAT.out, HIK.out, Nat.le_refl _⟩
  case round =>
    obtain ⟨f, u, rfl, hug, hua, hfu, hfi⟩ := hrel
    have hfl : f < e.length := by omega
    obtain ⟨b2, o2, K2, c2, hA2, hb2, x0, x1, x2, x3, hKd⟩ := HE.out.at_ hfl
    injection hA2 with hA2
    injection hA2 with e1 e2
    subst e1 e2
    have hfg := first_go hug hua
    rw [show K + u.size - 1 = f from by omega] at hfg
    generalize nodAt e f = x at x3 hKd hfg x0 x1 x2
    clear x0 x1 x2
    rcases hfg with ⟨hk0, hs1⟩ | ⟨a, r, hag, has, haat, hkids⟩
    · rw [hk0] at x3
      obtain rfl : f = K := by omega
      have HCUT := hide (HE.out.cut f s.size (by have := HIK.out; omega))
      have hsp := s.size_pos
      have hik := HIK.out
      have x3 : w.cell? ⟨be, offe + f * 4 + 3, none⟩ = some (.slice K2 0 c2) := x3
      have hic : ((i : Int) + 1) ≤ (c : Int) := by omega
      have hfi2 : (f : Int) ≤ (i : Int) + 1 := by omega
      clear hk0 hs1 hKd hua hug hfu
      have hlen : ((e.drop f).take s.size).length = s.size := by simp; omega
      have hsub : ∀ x ∈ (e.drop f).take s.size, x ∈ e := fun x hx => List.mem_of_mem_drop (List.mem_of_mem_take hx)
      have hm := moved_any (some ⟨be, offe + f * 4, none⟩) (c - f) ((e.drop f).take s.size) (-(f : Int)) w HCUT.out (by omega) (fun x hx => by have := HFK.out x (hsub x hx); omega)
      have heq : ((e.drop f).take s.size).map (shiftW (-(f : Int))) = s.flat 0 := by
        rw [shiftW_map, HMAP.out]
        intro x hx z hz
        obtain ⟨j, hj, rfl⟩ := List.getElem_of_mem (hsub x hx)
        have h1 := (valid_nodes HV.out).2.2 j hj
        rw [nodAt_get' hj] at hz
        have := h1.2 z hz
        omega
      have hnm : ∀ x ∈ s.flat 0, x.name.size ≤ maxLen := by
        rw [← HMAP.out]
        intro x hx
        obtain ⟨y, hy, rfl⟩ := List.mem_map.1 hx
        exact HN.out y (hsub y hy)
      rw [hlen, heq] at hm
      have HM := hide hm
      have HNM := hide hnm
      have HFL := hide (Tr.flat_len s 0)
      clear hm hnm heq hsub hlen
      go_wp2_with fail
      refine HM.out.mono ?_
      rintro en w' ⟨A2, c3, F, rfl, hex, hb⟩
      have HEX := hide hex.expr
      have HB := hide hb
      clear hex hb
      go_wp2
      go_ret
      exact ⟨A2, c3, s.flat 0, by rw [HFL.out]; simp, HEX.out, HVS.out, HNM.out, HB.out⟩
    · have hap := a.size_pos
      rw [hkids] at x3 hKd
      obtain ⟨bk, offk, rfl, hbk, g0⟩ := hKd.at_ (k := 0) (by simp)
      have g0 : w.cell? ⟨bk, offk, none⟩ = some (.int .i64 (((K + a.size : Nat) : Int) - 1)) := g0
      have hkl : (0 : Int) < ((r.length + 1 : Nat) : Int) := by omega
      obtain ⟨nf, hnf⟩ : ∃ nf : Nat, nf = K + a.size - 1 := ⟨_, rfl⟩
      have hnf2 : ((K + a.size : Nat) : Int) - 1 = (nf : Int) := by omega
      rw [hnf2] at g0
      have hlt : nf < f := by omega
      have HNF : Hid (nf + 1 = K + a.size) := hide (by omega)
      have x3 : w.cell? ⟨be, offe + f * 4 + 3, none⟩ = some (.slice (some ⟨bk, offk, none⟩) (r.length + 1) c2) := x3
      have n1 : ¬ ((nf : Int) < 0) := by omega
      have n2 : ¬ ((f : Int) ≤ (nf : Int)) := by omega
      clear hkids hnf hnf2 hKd hua hug hfu
      go_wp2
      go_round
      case rel => exact ⟨nf, a, by go_num, hag, haat, HNF.out, by omega⟩
      case measure => simp [intOf]; omega
end Go.Proofs.YtkofmiegnfgbjaaGreatDoor
