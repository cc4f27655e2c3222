/-
  Chapter 37: FilterAny.
-/
import Derived.Test.YtkofmiegnfgbjaaGreatDoorParM
import Derived.Test.YtkofmiegnfgbjaaGreatDoorAnyP
set_option linter.unusedVariables false
set_option linter.unusedSimpArgs false
namespace Go.Proofs.YtkofmiegnfgbjaaGreatDoor
open Go.RowKit Go.Deep Go.Maps

theorem mem_take_iff {xs : List Int} {x : Int} : x ∈ xs ↔ ∃ j, j < xs.length ∧ nth xs j = x := by
  constructor
  · intro h
    obtain ⟨j, hj, rfl⟩ := List.getElem_of_mem h
    exact ⟨j, hj, nth_eq hj⟩
  · rintro ⟨j, hj, rfl⟩
    exact nth_mem hj
set_option maxHeartbeats 2000000 in
theorem has37_any (A : Option Addr) (c : Nat) (xs : List Int) (x : Int) (w : World) (h : RI w w.heap.size A xs.length xs) (hm : xs.length ≤ 100000) :
    Calls Tryz.prog 40 #[.slice A xs.length c, .int .i64 x] w fun e w' => e = .returned (.bool (decide (x ∈ xs))) ∧ w = w' := by
  have H := hide h
  clear h
  go_enter Tryz.func40, Tryz.ntmps40
  go_wp2
  go_loopw [5] (fun t5 wr => ∃ i : Nat, i ≤ xs.length ∧ t5 = .int .i64 i ∧ (∀ j, j < i → nth xs j ≠ x) ∧ w = wr) (fun t5 _ => xs.length - (intOf t5).toNat)
  case atStart => exact ⟨0, Nat.zero_le _, rfl, fun j hj => absurd hj (Nat.not_lt_zero _), rfl⟩
  case round =>
    obtain ⟨i, hi, rfl, hall, rfl⟩ := hrel
    have HALL := hide hall
    clear hall
    by_cases hlt : i < xs.length
    · obtain ⟨b1, o1, rfl, hb1, g1⟩ := H.out.at_ (k := i) hlt
      have HNX : Hid (nth xs i ≠ x → ∀ j, j < i + 1 → nth xs j ≠ x) := hide (fun he j hj => by
        by_cases hji : j < i
        · exact HALL.out j hji
        · obtain rfl : j = i := by omega
          exact he)
      have HYE : Hid (nth xs i = x → decide (x ∈ xs) = true) := hide (fun h => decide_eq_true (mem_take_iff.2 ⟨i, hlt, h⟩))
      generalize nth xs i = y at g1 HNX HYE
      by_cases hxy : y = x
      · have hxy' : (y == x) = true := beq_iff_eq.2 hxy
        have HF := hide (HYE.out hxy)
        clear HNX HYE HALL hxy
        go_wp2
        go_ret
        exact ⟨by rw [HF.out]; rfl, rfl⟩
      · have hxy' : (y == x) = false := beq_eq_false_iff_ne.2 hxy
        have HN2 := hide (HNX.out hxy)
        clear HNX HYE HALL hxy
        go_wp2
        go_roundw
        case rel => exact ⟨i + 1, by omega, by go_num, HN2.out, trivial⟩
        case measure => simp [intOf]; omega
    · obtain rfl : i = xs.length := by omega
      have HT : Hid (decide (x ∈ xs) = false) := hide (decide_eq_false (fun h => by
        obtain ⟨j, hj, e⟩ := mem_take_iff.1 h
        exact HALL.out j hj e))
      go_wp2
      go_ret
      exact ⟨by rw [HT.out]; rfl, rfl⟩

theorem cellsSb_set (z : Int) : ∀ (e : List Sb) (ks : List (Option Addr × Nat)) (k : Nat), ks.length = e.length → k < e.length →
    (cellsSb e ks).set (k * 4) (.int .i64 z) = cellsSb (e.set k { sbAt e k with prog := z }) ks ∧ (cellsSb e ks).set (k * 4 + 1) (.int .i64 z) = cellsSb (e.set k { sbAt e k with tile := z }) ks ∧
      (cellsSb e ks).set (k * 4 + 2) (.int .i64 z) = cellsSb (e.set k { sbAt e k with filt := z }) ks
  | [], _, k, _, hk => absurd hk (Nat.not_lt_zero _)
  | x :: e, [], k, h, _ => by simp at h
  | x :: e, y :: ks, 0, h, _ => ⟨rfl, rfl, rfl⟩
  | x :: e, y :: ks, k + 1, h, hk => by
    obtain ⟨h0, h1, h2⟩ := cellsSb_set z e ks k (by simpa using h) (by simpa using hk)
    have e0 : sbAt (x :: e) (k + 1) = sbAt e k := rfl
    rw [show (k + 1) * 4 = k * 4 + 1 + 1 + 1 + 1 by omega, show k * 4 + 1 + 1 + 1 + 1 + 1 = (k * 4 + 1) + 1 + 1 + 1 + 1 by omega, show k * 4 + 1 + 1 + 1 + 1 + 2 = (k * 4 + 2) + 1 + 1 + 1 + 1 by omega]
    simp only [cellsSb, List.set_cons_succ, e0, h0, h1, h2, and_self]
/-- Subscriptions of the call's own, one of them with other fields. -/
theorem subs_set {w : World} {B : Nat} {l : List Sb} {ks : List (Option Addr × Nat)} {k : Nat} {s : Sb} (hk : k < l.length) (hs : s.whn = (sbAt l k).whn)
    (hx : ∀ (i : Nat) (x : Sb) (q : Option Addr × Nat), l[i]? = some x → ks[i]? = some q → ExprAt w B q.1 x.whn) :
    ∀ (i : Nat) (x : Sb) (q : Option Addr × Nat), (l.set k s)[i]? = some x → ks[i]? = some q → ExprAt w B q.1 x.whn := by
  intro i x q h1 h2
  rw [List.getElem?_set] at h1
  by_cases e : k = i
  · subst e
    rw [if_pos rfl, if_pos hk] at h1
    injection h1 with h1
    subst h1
    rw [hs]
    exact hx k _ q (sbAt_get hk) h2
  · rw [if_neg e] at h1
    exact hx i x q h1 h2
theorem Own.spot {w : World} {base : Nat} {e : TypeId} {size : Nat} {A : Option Addr} {n c : Nat} {xs : List Value} (h : Own w base e size A n c xs) (hn : 0 < n) :
    ∃ g, A = some ⟨g, 0, none⟩ ∧ base ≤ g ∧ g < w.heap.size ∧ ∀ j, j < n * size → w.cell? ⟨g, j, none⟩ = xs[j]? ∧ w.frozen? ⟨g, j, none⟩ = false := by
  obtain ⟨g, cap, hv, hb, hlt⟩ := World.ownsRow.form h (by omega)
  injection hv with e1 _ e3
  subst e1
  exact ⟨g, rfl, hb, hlt, fun j hj => ⟨World.ownsRow.cellAt h j hj, World.ownsRow.frozenAt h j⟩⟩
theorem wide_whn (tile : Bool) (s : Sb) : (wide37 tile s).whn = s.whn := by unfold wide37; split <;> rfl
theorem sbsOk_set {l : List Sb} {k : Nat} {s : Sb} (h : SbsOk l) (hk : k < l.length) (hs : s.whn = (sbAt l k).whn) : SbsOk (l.set k s) := by
  intro x hx
  rcases List.mem_or_eq_of_mem_set hx with h1 | h1
  · exact h x h1
  · rw [h1, hs]
    exact h _ (sbAt_mem hk)
theorem Own.farS {w : World} {base : Nat} {e : TypeId} {size : Nat} {g : Nat} {n c : Nat} {xs : List Value} (h : Own w base e size (some ⟨g, 0, none⟩) n c xs) {p : Addr} (hp : g ≠ p.block) (u : Value) : Own (w.setCell p u) base e size (some ⟨g, 0, none⟩) n c xs := by
  refine ⟨h.1, ?_⟩
  rcases h.2 with h2 | ⟨g', cap, cur, hv, hg, hh, r⟩
  · exact Or.inl h2
  · injection hv with e1 e2 e3
    injection e1 with e1
    injection e1 with e1 _ _
    subst e1
    exact Or.inr ⟨g, cap, cur, by rw [e3], hg, (Below.heap_setCell w p u g hp).trans hh, r⟩
theorem sub_info : (Tryz.prog.info? 52).map (fun i => (i.zero, i.size, i.bytes)) = some (some (.agg #[.int .i64 0, .int .i64 0, .int .i64 0, .slice none 0 0]), 4, 48) := by kernel_rfl
set_option maxRecDepth 100000 in
set_option maxHeartbeats 8000000 in
theorem fany_any (A : Option Addr) (c : Nat) (l : List Sb) (a : Al) (which : Int) (tile : Bool) (at_ pr : Int) (w : World) (h : SubsAt w w.heap.size A l) (ho : SbsOk l) (hn : l.length ≤ maxLen) (hw : 0 ≤ which ∧ which < 256) (hat : 0 ≤ at_ ∧ at_ < 65536) (hpr : 0 ≤ pr ∧ pr < 256) :
    Calls Tryz.prog 9 #[.slice A l.length c, .agg a.cells, .int .u8 which, .bool tile, .int .u16 at_, .int .u8 pr] w fun e w' => e = .returned (.bool true) ∧ Below w.heap.size w w' := by
  have HO := hide ho
  have hb0 : Below w.heap.size w (w.alloc (Obj.cells a.cells 54)) := (Below.refl _ _).alloc (Nat.le_refl _) _
  have hq0 : Blk (w.alloc (Obj.cells a.cells 54)) w.heap.size 54 a.cells := Blk.new _ _ _
  have H := hide (h.next hb0)
  have HN := hide hn
  have HB0 := hide hb0
  have HQ0 := hide hq0
  have HW := hide hw
  have HAT := hide hat
  have HPR := hide hpr
  clear h ho hn hb0 hq0 hw hat hpr
  go_enter Tryz.func9, Tryz.ntmps9
  go_wp2_with fail
  generalize w.alloc (Obj.cells a.cells 54) = w0 at H HB0 HQ0 ⊢
  obtain ⟨q, hq⟩ : ∃ q, q = w.heap.size := ⟨_, rfl⟩
  rw [← hq] at HQ0 ⊢
  clear hq
  refine (head37_any w0).mono ?_
  rintro e w1 ⟨rfl, hb1⟩
  have HB1 := hide (HB0.out.trans (hb1.mono HB0.out.size))
  have H1 := hide (H.out.next hb1)
  have HQ1 := hide (HQ0.out.below hb1 HQ0.out.lt)
  clear hb1 H HB0 HQ0
  go_wp2_with fail
  refine (lfew37_any A c l w1 H1.out HO.out HN.out).mono ?_
  rintro e w1' ⟨rfl, rfl⟩
  cases hf : few37 l
  · clear hf
    go_wp2
    go_ret
    exact ⟨rfl, HB1.out⟩
  have HL := hide (few37_len hf)
  clear hf
  by_cases h0 : l.length = 0
  · have b0 : ((l.length : Int) == 0) = true := by rw [h0]; rfl
    clear h0
    go_wp2
    go_ret
    exact ⟨rfl, HB1.out⟩
  have b0 : ((l.length : Int) == 0) = false := beq_eq_false_iff_ne.2 (by omega)
  have HP := hide (Nat.pos_of_ne_zero h0)
  clear h0
  obtain ⟨c0, c1, c2, c3, c4⟩ := al_hold HQ1.out
  go_wp2_with fail
  refine (fmatch_any A c l a w1 H1.out HO.out HN.out).mono ?_
  rintro e w2 ⟨A2, c2', rfl, hr2', hb2⟩
  have HR2 := hide hr2'
  have HB2 := hide (HB1.out.trans (hb2.mono HB1.out.size))
  have HQ2 := hide (HQ1.out.below hb2 HQ1.out.lt)
  have H2 := hide (H1.out.next hb2)
  clear hr2' hb2 HQ1 HB1 H1 c0 c1 c2 c3 c4
  by_cases hme : (matchF l a).2 = 0
  · rw [hme]
    have HME := hide hme
    clear hme
    obtain ⟨k, hk⟩ : ∃ k, k = which.toNat % l.length := ⟨_, rfl⟩
    have HK : Hid (k < l.length) := hide (by rw [hk]; exact Nat.mod_lt _ HP.out)
    have hkr : which % (l.length : Int) = (k : Int) := by
      obtain ⟨m, rfl⟩ : ∃ m : Nat, which = (m : Int) := ⟨which.toNat, by have := HW.out; omega⟩
      rw [hk]
      rfl
    have hr1 : (0 : Int) ≤ which := HW.out.1
    have hr2 : which < 256 := HW.out.2
    have hll : l.length ≤ 65 := HL.out
    have hlp : 0 < l.length := HP.out
    clear hk
    obtain ⟨ks, hk1, hk2, hk3⟩ := H2.out
    have HK1 := hide hk1
    have HK2 := hide hk2
    have HK3 := hide hk3
    clear hk1 hk2 hk3
    have HO5 : Hid (Own (w2.alloc (Obj.cells #[] 52)) w2.heap.size 52 4 (some ⟨w2.heap.size, 0, none⟩) 0 0 []) := hide (World.ownsRow_made w2 #[] 0 (Nat.le_refl _) (Nat.zero_le _) rfl)
    have HB5 : Hid (Below w2.heap.size w2 (w2.alloc (Obj.cells #[] 52))) := hide ((Below.refl _ _).alloc (Nat.le_refl _) _)
    have HR5 := hide (HK2.out.alloc (Nat.le_refl _) (Obj.cells #[] 52))
    have hp0 : 0 + l.length ≤ maxLen := by unfold maxLen; omega
    have hp1 : (0 + l.length) * 48 ≤ 140737488355328 := by omega
    go_upto_if 56 with (first
      | (at_builtin; refine wpList_app_own (by rfl) (.tmp 50) (.tmp 51) 50 rfl w2.heap.size 52 (.agg #[.int .i64 0, .int .i64 0, .int .i64 0, .slice none 0 0]) 4 48 Tryz.underlying50 sub_info rfl (by omega) (some ⟨w2.heap.size, 0, none⟩) 0 0 [] rfl HO5.out _ _ l.length _ (cellsSb l ks) rfl HR5.out (cellsSb_one _ _) hp0 hp1 HB5.out.size ?_; intro A6 c6 w6 hown6 hb6; rw [Nat.zero_add, List.nil_append] at hown6; have HO6 := hide hown6; have HB6 := hide (HB5.out.trans hb6); rw [Nat.zero_add]; have HO7 : Hid (Own (w6.alloc (Obj.cells #[] 52)) w6.heap.size 52 4 (some ⟨w6.heap.size, 0, none⟩) 0 0 []) := hide (World.ownsRow_made w6 #[] 0 (Nat.le_refl _) (Nat.zero_le _) rfl); have HB7 : Hid (Below w6.heap.size w6 (w6.alloc (Obj.cells #[] 52))) := hide ((Below.refl _ _).alloc (Nat.le_refl _) _); have HR7 := hide ((HK2.out.below HB6.out).alloc HB6.out.size (Obj.cells #[] 52)); clear hown6 hb6)
      | (at_builtin; refine wpList_app_own (by rfl) (.tmp 53) (.tmp 54) 50 rfl w6.heap.size 52 (.agg #[.int .i64 0, .int .i64 0, .int .i64 0, .slice none 0 0]) 4 48 Tryz.underlying50 sub_info rfl (by omega) (some ⟨w6.heap.size, 0, none⟩) 0 0 [] rfl HO7.out _ _ l.length _ (cellsSb l ks) rfl HR7.out (cellsSb_one _ _) hp0 hp1 HB7.out.size ?_; intro A8 c8 w8 hown8 hb8; rw [Nat.zero_add, List.nil_append] at hown8; have HO8 := hide hown8; have HB8 := hide (HB7.out.trans hb8); rw [Nat.zero_add]; clear hown8 hb8))
    have HO6b := hide (HO6.out.below HB8.out)
    obtain ⟨gw, rfl, hbw, hlw, _⟩ := HO6.out.spot HP.out
    obtain ⟨go, rfl, hbo, hlo, hco⟩ := HO8.out.spot HP.out
    have hltw8 : gw < w8.heap.size := Nat.lt_of_lt_of_le hlw HB8.out.size
    have HNE : Hid (gw ≠ go) := hide (by omega)
    have hkl : k * 4 + 3 < l.length * 4 := by have := HK.out; omega
    obtain ⟨q0, q1, q2, q3⟩ := cellsSb_get l ks k (sbAt_get HK.out) (List.getElem?_eq_getElem (by rw [HK1.out]; exact HK.out))
    obtain ⟨s0, s1, s2⟩ := cellsSb_set (-1) l ks k HK1.out HK.out
    have HS1 := hide s1
    have HS2 := hide s2
    have CW1 : w8.cell? ⟨gw, k * 4 + 1, none⟩ = some (.int .i64 (sbAt l k).tile) := by
      obtain ⟨g, e, _, _, hc⟩ := HO6b.out.spot HP.out
      injection e with e; injection e with e _ _; subst e
      rw [(hc _ (by omega)).1, q1]
    have FW1 : w8.frozen? ⟨gw, k * 4 + 1, none⟩ = false := by
      obtain ⟨g, e, _, _, hc⟩ := HO6b.out.spot HP.out
      injection e with e; injection e with e _ _; subst e
      exact (hc _ (by omega)).2
    have CW2 : w8.cell? ⟨gw, k * 4 + 2, none⟩ = some (.int .i64 (sbAt l k).filt) := by
      obtain ⟨g, e, _, _, hc⟩ := HO6b.out.spot HP.out
      injection e with e; injection e with e _ _; subst e
      rw [(hc _ (by omega)).1, q2]
    have FW2 : w8.frozen? ⟨gw, k * 4 + 2, none⟩ = false := by
      obtain ⟨g, e, _, _, hc⟩ := HO6b.out.spot HP.out
      injection e with e; injection e with e _ _; subst e
      exact (hc _ (by omega)).2
    have HHB8 := hide (HB6.out.trans (HB8.out.mono HB6.out.size))
    have HBW := hide hbw
    have HBO := hide (Nat.le_trans HB6.out.size hbo)
    clear HO5 HB5 HR5 HO7 HB7 HR7 HO6 HB8 HB6 hbw hbo hlw hlo hco hltw8 q0 q1 q2 q3 s0 s1 s2 hp0 hp1
    generalize (sbAt l k).tile = ot at CW1
    generalize (sbAt l k).filt = of_ at CW2
    have k0 : (0 : Int) ≤ (k : Int) := Int.natCast_nonneg k
    have k1 : (k : Int) < (l.length : Int) := Int.ofNat_lt.2 HK.out
    go_cut [] (fun wx => Own wx w2.heap.size 52 4 (some ⟨gw, 0, none⟩) l.length c6 (cellsSb (l.set k (wide37 tile (sbAt l k))) ks) ∧ Own wx w6.heap.size 52 4 (some ⟨go, 0, none⟩) l.length c8 (cellsSb l ks) ∧ Below w2.heap.size w2 wx)
    case first =>
      cases tile
      · go_wp2_with fail
        go_meet
        exact ⟨by rw [show wide37 false (sbAt l k) = { sbAt l k with filt := -1 } from rfl, ← HS2.out]; exact HO6b.out.set _ _, HO8.out.farS (fun e => HNE.out e.symm) _, HHB8.out.setCell HBW.out _⟩
      · go_wp2_with fail
        go_meet
        exact ⟨by rw [show wide37 true (sbAt l k) = { sbAt l k with tile := -1 } from rfl, ← HS1.out]; exact HO6b.out.set _ _, HO8.out.farS (fun e => HNE.out e.symm) _, HHB8.out.setCell HBW.out _⟩
    case rest =>
    obtain ⟨hw9, ho9, hb9⟩ := hcut
    have HW9 := hide hw9
    have HO9 := hide ho9
    have HB9 := hide hb9
    clear hw9 ho9 hb9 HO6b HO8 HHB8 CW1 CW2 FW1 FW2 HS1 HS2
    generalize wc = w9 at HW9 HO9 HB9 ⊢
    obtain ⟨gw', ew, _, hlw9, _⟩ := HW9.out.spot HP.out
    injection ew with ew; injection ew with ew _ _; subst ew
    obtain ⟨q0, q1, q2, q3⟩ := cellsSb_get l ks k (sbAt_get HK.out) (List.getElem?_eq_getElem (by rw [HK1.out]; exact HK.out))
    obtain ⟨z, hz⟩ : ∃ z, z = pr % 64 := ⟨_, rfl⟩
    obtain ⟨mo, hmo⟩ : ∃ mo, mo = at_ % 38400 := ⟨_, rfl⟩
    have HZ : Hid (0 ≤ z ∧ z ≤ 63) := hide (by rw [hz]; have := HPR.out; omega)
    have HMO : Hid (0 ≤ mo ∧ mo ≤ 38399) := hide (by rw [hmo]; have := HAT.out; omega)
    obtain ⟨s0, s1, s2⟩ := cellsSb_set z l ks k HK1.out HK.out
    have CO0 : w9.cell? ⟨go, k * 4, none⟩ = some (.int .i64 (sbAt l k).prog) := by
      obtain ⟨g, e, _, _, hc⟩ := HO9.out.spot HP.out
      injection e with e; injection e with e _ _; subst e
      rw [(hc _ (by omega)).1, q0]
    have FO0 : w9.frozen? ⟨go, k * 4, none⟩ = false := by
      obtain ⟨g, e, _, _, hc⟩ := HO9.out.spot HP.out
      injection e with e; injection e with e _ _; subst e
      exact (hc _ (by omega)).2
    generalize (sbAt l k).prog = op_ at CO0
    have HO10 : Hid (Own (w9.setCell ⟨go, k * 4, none⟩ (.int .i64 z)) w6.heap.size 52 4 (some ⟨go, 0, none⟩) l.length c8 (cellsSb (l.set k { sbAt l k with prog := z }) ks)) := hide (by rw [← s0]; exact HO9.out.set _ _)
    have HW10 : Hid (Own (w9.setCell ⟨go, k * 4, none⟩ (.int .i64 z)) w2.heap.size 52 4 (some ⟨gw, 0, none⟩) l.length c6 (cellsSb (l.set k (wide37 tile (sbAt l k))) ks)) := hide (HW9.out.farS HNE.out _)
    have HB10 : Hid (Below w2.heap.size w2 (w9.setCell ⟨go, k * 4, none⟩ (.int .i64 z))) := hide (HB9.out.setCell HBO.out _)
    have HQ9 := hide (HQ2.out.below HB9.out HQ2.out.lt)
    obtain ⟨c0, c1, c2, c3, c4⟩ := al_hold HQ9.out
    have p1 : (0 : Int) ≤ pr := HPR.out.1
    have p2 : pr < 256 := HPR.out.2
    have a1 : (0 : Int) ≤ at_ := HAT.out.1
    have a2 : at_ < 65536 := HAT.out.2
    have hgq : ¬ q = go := fun e => by have := HBO.out; have := HQ2.out.lt; omega
    have hgq' : ¬ go = q := fun e => hgq e.symm
    clear q0 q1 q2 q3 s0 s1 s2 hlw9 HW9 HO9 HB9
    go_upto_region 15 with (fail)
    rw [← hz, ← hmo]
    have HO11 := hide (HO10.out.alloc (Obj.cells { a with mom := mo }.cells 54))
    have HW11 := hide (HW10.out.alloc (Obj.cells { a with mom := mo }.cells 54))
    have HB11 := hide (HB10.out.alloc HB10.out.size (Obj.cells { a with mom := mo }.cells 54))
    obtain ⟨qb, hqb⟩ : ∃ qb, qb = w9.heap.size := ⟨_, rfl⟩
    have HQB : Hid (Blk ((w9.setCell ⟨go, k * 4, none⟩ (.int .i64 z)).alloc (Obj.cells { a with mom := mo }.cells 54)) qb 54 { a with mom := mo }.cells) := hide (by
      have := Blk.new (w9.setCell ⟨go, k * 4, none⟩ (.int .i64 z)) 54 { a with mom := mo }.cells
      have e : (w9.setCell ⟨go, k * 4, none⟩ (.int .i64 z)).heap.size = w9.heap.size := by simp [World.setCell]
      rwa [e, ← hqb] at this)
    rw [← hqb]
    have HQ11 := hide (HQ2.out.below HB11.out HQ2.out.lt)
    change Code.wp _ _ _ _ ((w9.setCell ⟨go, k * 4, none⟩ (.int .i64 z)).alloc (Obj.cells { a with mom := mo }.cells 54))
    generalize (w9.setCell ⟨go, k * 4, none⟩ (.int .i64 z)).alloc (Obj.cells { a with mom := mo }.cells 54) = w11 at HO11 HW11 HB11 HQB HQ11 ⊢
    clear HO10 HW10 HB10 HQ9 c0 c1 c2 c3 c4 CO0 FO0 p1 p2 a1 a2 hz hmo hgq hgq' hqb
    obtain ⟨c0, c1, c2, c3, c4⟩ := al_hold HQ11.out
    have SW : Hid (SubsAt w11 w11.heap.size (some ⟨gw, 0, none⟩) (l.set k (wide37 tile (sbAt l k)))) := hide ⟨ks, by rw [List.length_set]; exact HK1.out, by rw [List.length_set]; exact HW11.out.reads, fun i x q hx hq => ((subs_set HK.out (wide_whn _ _) HK3.out i x q hx hq).below HB11.out).more HB11.out.size⟩
    have SO : Hid (SubsAt w11 w11.heap.size (some ⟨go, 0, none⟩) (l.set k { sbAt l k with prog := z })) := hide ⟨ks, by rw [List.length_set]; exact HK1.out, by rw [List.length_set]; exact HO11.out.reads, fun i x q hx hq => ((subs_set (s := { sbAt l k with prog := z }) HK.out rfl HK3.out i x q hx hq).below HB11.out).more HB11.out.size⟩
    have OW : Hid (SbsOk (l.set k (wide37 tile (sbAt l k)))) := hide (sbsOk_set HO.out HK.out (wide_whn _ _))
    have OO : Hid (SbsOk (l.set k { sbAt l k with prog := z })) := hide (sbsOk_set HO.out HK.out rfl)
    have LW : Hid ((l.set k (wide37 tile (sbAt l k))).length = l.length) := hide (List.length_set ..)
    have LO : Hid ((l.set k { sbAt l k with prog := z }).length = l.length) := hide (List.length_set ..)
    have MW := hide (wide_match (tile := tile) HME.out HK.out)
    have MO : Hid (matchF (l.set k { sbAt l k with prog := z }) { a with mom := mo } = matchF l a) := hide (other_match HME.out HK.out HZ.out HMO.out)
    generalize l.set k (wide37 tile (sbAt l k)) = lw at SW OW LW MW
    generalize l.set k { sbAt l k with prog := z } = lo at SO OO LO MO
    have HR11 := hide (HR2.out.next HB11.out)
    have HB12 := hide (HB2.out.trans (HB11.out.mono HB2.out.size))
    clear HW11 HO11 HK1 HK2 HK3 HB2 HR2 HQ2 H2 HNE HBW HBO HB11 hkr hr1 hr2
    go_wp2_with fail
    refine (fmatch_n (some ⟨gw, 0, none⟩) l.length c6 lw a w11 LW.out SW.out OW.out HN.out).mono ?_
    rintro e w12 ⟨A12, c12, rfl, hr12, hb12⟩
    have HR12 := hide hr12
    have HB13 := hide (HB12.out.trans (hb12.mono HB12.out.size))
    have HRm := hide (HR11.out.next hb12)
    have SO12 := hide (SO.out.next hb12)
    have QB12 := hide (HQB.out.below hb12 HQB.out.lt)
    have HLW : Hid ((matchF lw a).1.length ≤ 65) := hide (Nat.le_trans (matchF_len _ _) (by rw [LW.out]; exact HL.out))
    have HLM : Hid ((matchF l a).1.length ≤ 65) := hide (Nat.le_trans (matchF_len _ _) HL.out)
    clear hr12 hb12 HB12 HR11 SO HQB SW OW HQ11 c0 c1 c2 c3 c4
    generalize matchF lw a = mw at HR12 MW HLW ⊢
    obtain ⟨mw, ew⟩ := mw
    obtain ⟨m1, m2, m3⟩ := MW.out
    dsimp only at m1 m2 m3 HR12 HLW ⊢
    subst m1
    have M2 := hide m2
    have M3 := hide m3
    clear m2 m3 MW
    obtain ⟨c0, c1, c2, c3, c4⟩ := al_hold QB12.out
    dsimp only at c0 c1 c2 c3 c4
    go_wp2_with fail
    refine (fmatch_n (some ⟨go, 0, none⟩) l.length c8 lo { a with mom := mo } w12 LO.out SO12.out OO.out HN.out).mono ?_
    rintro e w13 ⟨A13, c13, rfl, hr13, hb13⟩
    rw [MO.out] at hr13 ⊢
    rw [HME.out]
    have HR13 := hide hr13
    have HB14 := hide (HB13.out.trans (hb13.mono HB13.out.size))
    have HRm2 := hide (HRm.out.next hb13)
    have HRw2 := hide (HR12.out.next hb13)
    clear hr13 hb13 HB13 HRm HR12 SO12 QB12 OO MO c0 c1 c2 c3 c4 HME LO LW
    generalize (matchF l a).1 = mm at HR13 HRm2 HLM M2 M3 ⊢
    have hmx : mm.length ≤ 100000 := by have := HLM.out; omega
    have hwx : mw.length ≤ 100000 := by have := HLW.out; omega
    go_wp2_with fail
    refine (ints37_any A13 c13 mm A2 c2' mm w13 HR13.out HRm2.out hmx hmx).mono ?_
    rintro e wz ⟨rfl, nz, rfl⟩
    rw [decide_eq_true rfl]
    have HBZ := hide (below_drewN HB14.out nz)
    have HRM := hide (HRm2.out.drewNs nz)
    have HRW := hide (HRw2.out.drewNs nz)
    generalize w13.drewN nz = wz at HBZ HRM HRW ⊢
    clear HB14 HRm2 HRw2 HR13
    go_wp2_with fail
    go_loopw [25] (fun t25 wr => ∃ i : Nat, i ≤ l.length ∧ t25 = .int .i64 i ∧ wr = wz) (fun t25 _ => l.length - (intOf t25).toNat)
    case atStart => exact ⟨0, Nat.zero_le _, rfl, rfl⟩
    case round =>
      obtain ⟨i, hi, rfl, rfl⟩ := hrel
      have k0 : (0 : Int) ≤ (k : Int) := Int.natCast_nonneg k
      by_cases hin : i < l.length
      · have hin' : (i : Int) < (l.length : Int) := Int.ofNat_lt.2 hin
        by_cases hik : i = k
        · subst hik
          have H3 := M3
          clear M2 M3
          go_wp2_with fail
          refine (has37_any A2 c2' mm (i : Int) wr HRM.out hmx).mono ?_
          rintro en wx ⟨rfl, rfl⟩
          by_cases hm : (i : Int) ∈ mm
          · rw [decide_eq_true hm]
            have hw := H3.out hm
            clear H3 hm
            go_wp2_with fail
            refine (has37_any A12 c12 mw (i : Int) wr HRW.out hwx).mono ?_
            rintro en wx ⟨rfl, rfl⟩
            rw [decide_eq_true hw]
            clear hw
            go_wp2
            go_roundw
            case rel => exact ⟨i + 1, by omega, by go_num, trivial⟩
            case measure => simp [intOf]; omega
          · rw [decide_eq_false hm]
            clear H3 hm
            go_wp2
            go_roundw
            case rel => exact ⟨i + 1, by omega, by go_num, trivial⟩
            case measure => simp [intOf]; omega
        · have hik' : ¬ (i : Int) = (k : Int) := by omega
          have H2 : Hid (decide ((i : Int) ∈ mw) = decide ((i : Int) ∈ mm)) := hide (M2.out i hin hik)
          clear M2 M3
          go_wp2_with fail
          refine (has37_any A12 c12 mw (i : Int) wr HRW.out hwx).mono ?_
          rintro en wx ⟨rfl, rfl⟩
          rw [H2.out]
          clear H2
          go_wp2_with fail
          refine (has37_any A2 c2' mm (i : Int) wr HRM.out hmx).mono ?_
          rintro en wx ⟨rfl, rfl⟩
          generalize decide ((i : Int) ∈ mm) = bb
          cases bb
          · go_wp2
            go_roundw
            case rel => exact ⟨i + 1, by omega, by go_num, trivial⟩
            case measure => simp [intOf]; omega
          · go_wp2
            go_roundw
            case rel => exact ⟨i + 1, by omega, by go_num, trivial⟩
            case measure => simp [intOf]; omega
      · obtain rfl : i = l.length := by omega
        go_wp2
        go_ret
        exact ⟨rfl, HBZ.out⟩
  · have h1 : (matchF l a).2 = 1 := by rw [(matchF_err hme).1]
    rw [h1]
    clear hme h1
    go_wp2
    go_ret
    exact ⟨rfl, HB2.out⟩
theorem u16_in37 {r : Int} (hr : (Lit.int .u16 r).wf = true) : 0 ≤ r ∧ r < 65536 := by
  have h1 : r ≤ IntKind.u16.max ∧ IntKind.u16.min ≤ r := by simpa [Lit.wf, and_comm] using hr
  have e1 : IntKind.u16.max = 65535 := by decide
  have e2 : IntKind.u16.min = 0 := by decide
  omega
theorem fany_walk (A : Option Addr) (c : Nat) (l : List Sb) (a : Al) (which : Int) (tile : Bool) (at_ pr : Int) (w : World) (h : SubsAt w w.heap.size A l) (ho : SbsOk l) (hn : l.length ≤ maxLen) (hc : l.length ≤ c) (hc2 : c ≤ maxLen)
    (_ : (Lit.int .i64 a.tile).wf = true ∧ (Lit.int .i64 a.cell).wf = true ∧ (Lit.int .i64 a.filt).wf = true ∧ (Lit.int .i64 a.val).wf = true ∧ (Lit.int .i64 a.mom).wf = true)
    (hw : (Lit.int .u8 which).wf = true) (hat : (Lit.int .u16 at_).wf = true) (hpr : (Lit.int .u8 pr).wf = true) :
    Calls Tryz.prog 9 #[.slice A l.length c, .agg a.cells, .int .u8 which, .bool tile, .int .u16 at_, .int .u8 pr] w fun e w' => e = .returned (.bool true) ∧ Below w.heap.size w w' :=
  fany_any A c l a which tile at_ pr w h ho hn (u8_in37 hw) (u16_in37 hat) (u8_in37 hpr)
end Go.Proofs.YtkofmiegnfgbjaaGreatDoor
