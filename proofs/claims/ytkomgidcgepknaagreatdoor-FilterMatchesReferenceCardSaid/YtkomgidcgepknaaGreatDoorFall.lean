/-
  Chapter 37: the program, its head and the plain laws (joined by bundle.py from XSubP .. XSelP).
-/
import Derived.Test.YtkomgidcgepknaaGreatDoorBnds
import Derived.Test.YtkomgidcgepknaaGreatDoorMeM
import Derived.Test.YtkomgidcgepknaaGreatDoorLiftK
import Derived.Test.YtkomgidcgepknaaGreatDoorFewB
import Derived.Test.YtkomgidcgepknaaGreatDoorExpL
import Derived.DeepKeys4
import Derived.RangeFuncBox
import Derived.RangeFuncLeaves
import Derived.Shelf.Abstract
import Derived.OwnWalkIn
import Derived.TacticsInMore
import Derived.LoopNIn
import Derived.LoopIn
import Derived.Maps.AppendAt
import Derived.Shelf.RegionOpen
import Derived.RangeFuncCalls
import Derived.Deep.RegionHeld3
import Derived.Test.YtkomgidcgepknaaGreatDoorMeE
import Derived.Test.YtkomgidcgepknaaGreatDoorShelf
import Derived.Lib.SlKeysI
import Derived.Lib.OwnBridge
import Derived.RangeFuncNested
import Derived.Deep.AppendLies
import Derived.Deep.RegionLaw
import Derived.Deep.DeepCutAuto
import Derived.Test.YtkomgidcgepknaaGreatDoorExpP
import Derived.Test.YtkomgidcgepknaaGreatDoorMerB
set_option linter.unusedVariables false
set_option linter.unusedSimpArgs false
namespace Go.Proofs.YtkomgidcgepknaaGreatDoor
open Go.RowKit

/-- A subscription. -/
structure Sb where
  prog : Int
  tile : Int
  filt : Int
  whn : List Nod
def Sb.none_ : Sb := ⟨0, 0, 0, []⟩
def sbAt (l : List Sb) (i : Nat) : Sb := l.getD i Sb.none_
theorem sbAt_get {l : List Sb} {i : Nat} (h : i < l.length) : l[i]? = some (sbAt l i) := by
  unfold sbAt
  rw [List.getD_eq_getElem?_getD, List.getElem?_eq_getElem h]
  rfl
theorem sbAt_mem {l : List Sb} {i : Nat} (h : i < l.length) : sbAt l i ∈ l := List.mem_of_getElem? (sbAt_get h)
theorem sb_take {l : List Sb} {k : Nat} (h : k < l.length) : l.take (k + 1) = l.take k ++ [sbAt l k] := by
  rw [List.take_succ_eq_append_getElem h]
  congr 2
  have := sbAt_get (l := l) (i := k) h
  rw [List.getElem?_eq_getElem h] at this
  exact Option.some.inj this
/-- An alert. -/
structure Al where
  tile : Int
  cell : Int
  filt : Int
  val : Int
  mom : Int
def Al.cells (a : Al) : Array Value := #[.int .i64 a.tile, .int .i64 a.cell, .int .i64 a.filt, .int .i64 a.val, .int .i64 a.mom]

/-- The cells of subscriptions; beside them, for each, the address and the capacity of its condition. -/
def cellsSb : List Sb → List (Option Addr × Nat) → List Value
  | x :: e, k :: ks => .int .i64 x.prog :: .int .i64 x.tile :: .int .i64 x.filt :: .slice k.1 x.whn.length k.2 :: cellsSb e ks
  | _, _ => []
theorem cellsSb_len : ∀ (e : List Sb) (ks : List (Option Addr × Nat)), ks.length = e.length → (cellsSb e ks).length = e.length * 4
  | [], _, _ => rfl
  | x :: e, [], h => by simp at h
  | x :: e, k :: ks, h => by
    have := cellsSb_len e ks (by simpa using h)
    simp only [cellsSb, List.length_cons, this]
    omega
theorem cellsSb_snoc (x : Sb) (k : Option Addr × Nat) : ∀ (e : List Sb) (ks : List (Option Addr × Nat)), ks.length = e.length →
    cellsSb (e ++ [x]) (ks ++ [k]) = cellsSb e ks ++ [.int .i64 x.prog, .int .i64 x.tile, .int .i64 x.filt, .slice k.1 x.whn.length k.2]
  | [], [], _ => rfl
  | [], _ :: _, h => by simp at h
  | y :: e, [], h => by simp at h
  | y :: e, l :: ks, h => by
    have := cellsSb_snoc x k e ks (by simpa using h)
    simp only [List.cons_append, cellsSb, this]
theorem cellsSb_get {x : Sb} {k : Option Addr × Nat} : ∀ (e : List Sb) (ks : List (Option Addr × Nat)) (i : Nat), e[i]? = some x → ks[i]? = some k →
    (cellsSb e ks)[i * 4]? = some (.int .i64 x.prog) ∧ (cellsSb e ks)[i * 4 + 1]? = some (.int .i64 x.tile) ∧ (cellsSb e ks)[i * 4 + 2]? = some (.int .i64 x.filt) ∧ (cellsSb e ks)[i * 4 + 3]? = some (.slice k.1 x.whn.length k.2)
  | [], _, i, h, _ => by simp at h
  | y :: e, [], i, _, h => by simp at h
  | y :: e, l :: ks, 0, h, h' => by
    simp only [List.getElem?_cons_zero, Option.some.injEq] at h h'
    subst h h'
    exact ⟨rfl, rfl, rfl, rfl⟩
  | y :: e, l :: ks, i + 1, h, h' => by
    have := cellsSb_get e ks i (by simpa using h) (by simpa using h')
    rw [show (i + 1) * 4 = (i * 4) + 1 + 1 + 1 + 1 from by omega]
    simpa only [cellsSb, List.getElem?_cons_succ] using this
theorem cellsSb_one : ∀ (e : List Sb) (ks : List (Option Addr × Nat)), ∀ u ∈ cellsSb e ks, u.oneCell' = true
  | [], _, u, h => by simp [cellsSb] at h
  | y :: e, [], u, h => by simp [cellsSb] at h
  | y :: e, l :: ks, u, h => by
    simp only [cellsSb, List.mem_cons] at h
    rcases h with rfl | rfl | rfl | rfl | h
    · rfl
    · rfl
    · rfl
    · rfl
    · exact cellsSb_one e ks u h
/-- '.slice A n c' reads as the subscriptions l, below block B. -/
def SubsAt (w : World) (B : Nat) (A : Option Addr) (l : List Sb) : Prop :=
  ∃ ks : List (Option Addr × Nat), ks.length = l.length ∧ Reads w B 4 A l.length (cellsSb l ks) ∧
    ∀ (i : Nat) (x : Sb) (k : Option Addr × Nat), l[i]? = some x → ks[i]? = some k → ExprAt w B k.1 x.whn
section
variable {w w' : World} {B B' : Nat} {A : Option Addr} {l : List Sb}
theorem SubsAt.keep (h : SubsAt w B A l) (hk : ∀ p : Addr, p.block < B → w'.cell? p = w.cell? p) : SubsAt w' B A l := by
  obtain ⟨ks, h1, h2, h3⟩ := h
  exact ⟨ks, h1, h2.keep hk, fun i x k hx hk' => (h3 i x k hx hk').keep hk⟩
theorem SubsAt.more (h : SubsAt w B A l) (hB : B ≤ B') : SubsAt w B' A l := by
  obtain ⟨ks, h1, h2, h3⟩ := h
  exact ⟨ks, h1, h2.more hB, fun i x k hx hk' => (h3 i x k hx hk').more hB⟩
theorem SubsAt.below (h : SubsAt w B A l) (hb : Below B w w') : SubsAt w' B A l := h.keep fun _ hp => hb.cell hp
theorem SubsAt.next (h : SubsAt w w.heap.size A l) (hb : Below w.heap.size w w') : SubsAt w' w'.heap.size A l := (h.below hb).more hb.size
theorem SubsAt.none_ : SubsAt w B A [] := ⟨[], rfl, ⟨rfl, fun h => absurd h (Nat.lt_irrefl _)⟩, fun i x k h => by simp at h⟩
/-- The fields of subscription i. -/
theorem SubsAt.at_ (h : SubsAt w B A l) {i : Nat} (hi : i < l.length) : ∃ b off K c, A = some ⟨b, off, none⟩ ∧ b < B ∧ w.cell? ⟨b, off + i * 4, none⟩ = some (.int .i64 (sbAt l i).prog) ∧
    w.cell? ⟨b, off + i * 4 + 1, none⟩ = some (.int .i64 (sbAt l i).tile) ∧ w.cell? ⟨b, off + i * 4 + 2, none⟩ = some (.int .i64 (sbAt l i).filt) ∧
    w.cell? ⟨b, off + i * 4 + 3, none⟩ = some (.slice K (sbAt l i).whn.length c) ∧ ExprAt w B K (sbAt l i).whn := by
  obtain ⟨ks, h1, h2, h3⟩ := h
  have hx := sbAt_get hi
  have hk : ks[i]? = some ks[i] := List.getElem?_eq_getElem (by omega)
  obtain ⟨g0, g1, g2, g3⟩ := cellsSb_get l ks i hx hk
  have h0 := (cellsSb_get l ks 0 (sbAt_get (by omega)) (List.getElem?_eq_getElem (by omega))).1
  obtain ⟨b, off, hA, hb, hc⟩ := h2.at4 (by omega) h0
  exact ⟨b, off, (ks[i]).1, (ks[i]).2, hA, hb, hc _ _ g0, by have := hc _ _ g1; rwa [← Nat.add_assoc] at this, by have := hc _ _ g2; rwa [← Nat.add_assoc] at this, by have := hc _ _ g3; rwa [← Nat.add_assoc] at this, h3 i _ _ hx hk⟩
end

/-- The ranges of the variables of conditions. -/
def rngs37 : List Rng := [⟨⟨#[118, 97, 108, 117, 101]⟩, 0, 65535⟩, ⟨⟨#[99, 101, 108, 108]⟩, 0, 3⟩, ⟨⟨#[116, 105, 108, 101]⟩, 0, 511⟩, ⟨⟨#[102, 105, 108, 116, 101, 114]⟩, 0, 7⟩]
/-- The variables of an alert. -/
def vars37 (a : Al) : List Vr := [⟨⟨#[118, 97, 108, 117, 101]⟩, a.val⟩, ⟨⟨#[99, 101, 108, 108]⟩, a.cell⟩, ⟨⟨#[116, 105, 108, 101]⟩, a.tile⟩, ⟨⟨#[102, 105, 108, 116, 101, 114]⟩, a.filt⟩]
def btw (n lo hi : Int) : Bool := decide (lo ≤ n) && decide (n ≤ hi)
def sbValid (s : Sb) : Bool := decide ((boundsL s.whn rngs37).2.2 = 0) && btw s.prog 0 63 && btw s.tile (-1) 511 && btw s.filt (-1) 7
def alValid (a : Al) : Bool := btw a.tile 0 511 && btw a.cell 0 3 && btw a.filt 0 7 && btw a.val 0 65535 && btw a.mom 0 38399
/-- Is a list of subscriptions valid? -/
def sbsValid (l : List Sb) : Bool := decide (l.length ≤ 64) && l.all sbValid
/-- The indices of the subscriptions with a tile and a filter. -/
def idxs (l : List Sb) (t f : Int) : List Int := ((List.range l.length).filter fun i : Nat => decide ((sbAt l i).tile = t ∧ (sbAt l i).filt = f)).map fun i : Nat => (i : Int)
theorem sbAt_snoc_lt {l : List Sb} {s : Sb} {i : Nat} (h : i < l.length) : sbAt (l ++ [s]) i = sbAt l i := by
  unfold sbAt
  rw [List.getD_eq_getElem?_getD, List.getD_eq_getElem?_getD, List.getElem?_append_left h]
theorem sbAt_snoc_eq {l : List Sb} {s : Sb} : sbAt (l ++ [s]) l.length = s := by
  unfold sbAt
  rw [List.getD_eq_getElem?_getD, List.getElem?_append_right (Nat.le_refl _), Nat.sub_self]
  rfl
theorem idxs_snoc (l : List Sb) (s : Sb) (t f : Int) : idxs (l ++ [s]) t f = idxs l t f ++ if s.tile = t ∧ s.filt = f then [(l.length : Int)] else [] := by
  unfold idxs
  rw [List.length_append, List.length_cons, List.length_nil, List.range_succ, List.filter_append, List.map_append]
  congr 1
  · congr 1
    exact List.filter_congr fun i hi => by rw [sbAt_snoc_lt (List.mem_range.1 hi)]
  · rw [List.filter_cons, sbAt_snoc_eq]
    by_cases h : s.tile = t ∧ s.filt = f
    · rw [if_pos h, if_pos (decide_eq_true h)]
      rfl
    · rw [if_neg h, if_neg (by simpa using h)]
      rfl
theorem idxs_len (l : List Sb) (t f : Int) : (idxs l t f).length ≤ l.length := by
  unfold idxs
  rw [List.length_map]
  exact Nat.le_trans (List.length_filter_le _ _) (by simp)
theorem idxs_mem {l : List Sb} {t f : Int} {x : Int} (h : x ∈ idxs l t f) : ∃ i : Nat, x = (i : Int) ∧ i < l.length ∧ (sbAt l i).tile = t ∧ (sbAt l i).filt = f := by
  unfold idxs at h
  obtain ⟨i, hi, rfl⟩ := List.mem_map.1 h
  obtain ⟨h1, h2⟩ := List.mem_filter.1 hi
  have h3 := of_decide_eq_true h2
  exact ⟨i, rfl, List.mem_range.1 h1, h3.1, h3.2⟩
/-- The indices that the index goes through for an alert, in its order. -/
def catL37 (l : List Sb) (a : Al) : List Int := idxs l (-1) (-1) ++ idxs l (-1) a.filt ++ idxs l a.tile (-1) ++ idxs l a.tile a.filt
/-- Has a condition a value greater than 0? -/
def hitL (l : List Sb) (a : Al) (i : Int) : Bool := decide ((evalM (sbAt l i.toNat).whn (vars37 a)).2 = 0) && decide (0 < (evalM (sbAt l i.toNat).whn (vars37 a)).1)
end Go.Proofs.YtkomgidcgepknaaGreatDoor

set_option linter.unusedVariables false
set_option linter.unusedSimpArgs false
namespace Go.Proofs.YtkomgidcgepknaaGreatDoor
open Go.RowKit Go.Deep Go.Maps

theorem fin_any (n lo hi : Int) (w : World) : Calls Tryz.prog 51 #[.int .i64 n, .int .i64 lo, .int .i64 hi] w fun e w' => e = .returned (.bool (btw n lo hi)) ∧ w = w' := by
  obtain ⟨b, hb⟩ : ∃ b, b = btw n lo hi := ⟨_, rfl⟩
  rw [← hb]
  by_cases h1 : lo ≤ n
  · have d1 : decide (lo ≤ n) = true := decide_eq_true h1
    by_cases h2 : n ≤ hi
    · have d2 : decide (n ≤ hi) = true := decide_eq_true h2
      have HB : Hid (b = true) := hide (by rw [hb, btw, d1, d2]; rfl)
      clear hb
      go_enter Tryz.func51, Tryz.ntmps51
      go_wp2
      go_ret
      exact ⟨by rw [HB.out]; rfl, rfl⟩
    · have d2 : decide (n ≤ hi) = false := decide_eq_false h2
      have HB : Hid (b = false) := hide (by rw [hb, btw, d1, d2]; rfl)
      clear hb
      go_enter Tryz.func51, Tryz.ntmps51
      go_wp2
      go_ret
      exact ⟨by rw [HB.out]; rfl, rfl⟩
  · have d1 : decide (lo ≤ n) = false := decide_eq_false h1
    have HB : Hid (b = false) := hide (by rw [hb, btw, d1]; rfl)
    clear hb
    go_enter Tryz.func51, Tryz.ntmps51
    go_wp2
    go_ret
    exact ⟨by rw [HB.out]; rfl, rfl⟩

theorem franges_any (w : World) : Calls Tryz.prog 50 #[] w fun e w' => ∃ A c, e = .returned (.slice A 4 c) ∧ RRg w' w'.heap.size A 4 rngs37 ∧ Below w.heap.size w w' := by
  go_enter Tryz.func50, Tryz.ntmps50
  go_wp2
  go_ret
  refine ⟨_, _, rfl, ?_, (Below.refl _ _).alloc (Nat.le_refl _) _⟩
  have h := reads_new w (cellsR rngs37).toArray 89 3 4 rfl
  exact h.more (by rw [World.size_alloc]; exact Nat.le_refl _)

set_option maxHeartbeats 2000000 in
theorem alert_any (a : Al) (w : World) : Calls Tryz.prog 54 #[.agg a.cells] w fun e w' => e = .returned (.bool (alValid a)) ∧ Below w.heap.size w w' := by
  have hb : Blk (w.alloc (Obj.cells #[.int .i64 a.tile, .int .i64 a.cell, .int .i64 a.filt, .int .i64 a.val, .int .i64 a.mom] 28)) w.heap.size 28 #[.int .i64 a.tile, .int .i64 a.cell, .int .i64 a.filt, .int .i64 a.val, .int .i64 a.mom] := Blk.new _ _ _
  have HB : Hid (Below w.heap.size w (w.alloc (Obj.cells #[.int .i64 a.tile, .int .i64 a.cell, .int .i64 a.filt, .int .i64 a.val, .int .i64 a.mom] 28))) := hide ((Below.refl _ _).alloc (Nat.le_refl _) _)
  have c0 := hb.cell 0
  have c1 := hb.cell 1
  have c2 := hb.cell 2
  have c3 := hb.cell 3
  have c4 := hb.cell 4
  have HV : Hid (alValid a = (btw a.tile 0 511 && btw a.cell 0 3 && btw a.filt 0 7 && btw a.val 0 65535 && btw a.mom 0 38399)) := rfl
  unfold Al.cells
  go_enter Tryz.func54, Tryz.ntmps54
  go_upto_region 1 with (fail)
  generalize w.alloc (Obj.cells #[.int .i64 a.tile, .int .i64 a.cell, .int .i64 a.filt, .int .i64 a.val, .int .i64 a.mom] 28) = w1 at hb HB c0 c1 c2 c3 c4 ⊢
  obtain ⟨q, hq⟩ : ∃ q, q = w.heap.size := ⟨_, rfl⟩
  rw [← hq] at c0 c1 c2 c3 c4 ⊢
  clear hq hb
  go_wp2_with fail
  refine (fin_any a.tile 0 511 w1).mono ?_
  rintro e w' ⟨rfl, rfl⟩
  cases h0 : btw a.tile 0 511
  · have HR : Hid (alValid a = false) := hide (by rw [HV.out, h0]; rfl)
    clear h0
    go_wp2
    go_ret
    exact ⟨by rw [HR.out]; rfl, HB.out⟩
  · have H0 := hide h0
    clear h0
    go_wp2_with fail
    refine (fin_any a.cell 0 3 w1).mono ?_
    rintro e w' ⟨rfl, rfl⟩
    cases h1 : btw a.cell 0 3
    · have HR : Hid (alValid a = false) := hide (by rw [HV.out, h1]; simp)
      clear h1
      go_wp2
      go_ret
      exact ⟨by rw [HR.out]; rfl, HB.out⟩
    · have H1 := hide h1
      clear h1
      go_wp2_with fail
      refine (fin_any a.filt 0 7 w1).mono ?_
      rintro e w' ⟨rfl, rfl⟩
      cases h2 : btw a.filt 0 7
      · have HR : Hid (alValid a = false) := hide (by rw [HV.out, h2]; simp)
        clear h2
        go_wp2
        go_ret
        exact ⟨by rw [HR.out]; rfl, HB.out⟩
      · have H2 := hide h2
        clear h2
        go_wp2_with fail
        refine (fin_any a.val 0 65535 w1).mono ?_
        rintro e w' ⟨rfl, rfl⟩
        cases h3 : btw a.val 0 65535
        · have HR : Hid (alValid a = false) := hide (by rw [HV.out, h3]; simp)
          clear h3
          go_wp2
          go_ret
          exact ⟨by rw [HR.out]; rfl, HB.out⟩
        · have HR : Hid (alValid a = btw a.mom 0 38399) := hide (by rw [HV.out, H0.out, H1.out, H2.out, h3]; rfl)
          clear h3
          go_wp2_with fail
          refine (fin_any a.mom 0 38399 w1).mono ?_
          rintro e w' ⟨rfl, rfl⟩
          generalize btw a.mom 0 38399 = b at HR ⊢
          go_wp2
          go_ret
          exact ⟨by rw [HR.out]; rfl, HB.out⟩

theorem rngs37_names : ∀ r ∈ rngs37, r.name.size ≤ maxLen := by decide
set_option maxHeartbeats 4000000 in
theorem sbValid_any (s : Sb) (K : Option Addr) (c : Nat) (w : World) (he : ExprAt w w.heap.size K s.whn) (hn : ∀ x ∈ s.whn, x.name.size ≤ maxLen) (hm : s.whn.length ≤ maxLen) :
    Calls Tryz.prog 16 #[.agg #[.int .i64 s.prog, .int .i64 s.tile, .int .i64 s.filt, .slice K s.whn.length c]] w fun e w' => e = .returned (.bool (sbValid s)) ∧ Below w.heap.size w w' := by
  have hb : Blk (w.alloc (Obj.cells #[.int .i64 s.prog, .int .i64 s.tile, .int .i64 s.filt, .slice K s.whn.length c] 26)) w.heap.size 26 #[.int .i64 s.prog, .int .i64 s.tile, .int .i64 s.filt, .slice K s.whn.length c] := Blk.new _ _ _
  have hbel : Below w.heap.size w (w.alloc (Obj.cells #[.int .i64 s.prog, .int .i64 s.tile, .int .i64 s.filt, .slice K s.whn.length c] 26)) := (Below.refl _ _).alloc (Nat.le_refl _) _
  have HB := hide hbel
  have HE := hide (he.next hbel)
  have HN := hide hn
  have HM := hide hm
  have HV : Hid (sbValid s = (decide ((boundsL s.whn rngs37).2.2 = 0) && btw s.prog 0 63 && btw s.tile (-1) 511 && btw s.filt (-1) 7)) := rfl
  clear he hn hbel hm
  go_enter Tryz.func16, Tryz.ntmps16
  go_upto_region 1 with (fail)
  generalize w.alloc (Obj.cells #[.int .i64 s.prog, .int .i64 s.tile, .int .i64 s.filt, .slice K s.whn.length c] 26) = w1 at hb HB HE ⊢
  obtain ⟨q, hq⟩ : ∃ q, q = w.heap.size := ⟨_, rfl⟩
  rw [← hq] at hb ⊢
  have HK := hide hb
  have HKL := hide hb.lt
  clear hq hb
  have HKG := hide (show ∀ wq : World, Below w1.heap.size w1 wq → wq.cell? ⟨q, 3, none⟩ = some (.slice K s.whn.length c) from fun wq h => (h.cell (p := ⟨q, 3, none⟩) HKL.out).trans (HK.out.cell 3))
  have c3 : w1.cell? ⟨q, 3, none⟩ = some (.slice K s.whn.length c) := HK.out.cell 3
  have SD : Hid (w1.drew.cell? ⟨q, 3, none⟩ = some (.slice K s.whn.length c)) := c3
  obtain ⟨res, hres⟩ : ∃ res, res = boundsL s.whn rngs37 := ⟨_, rfl⟩
  have HRES := hide hres.symm
  rw [← hres] at HV
  clear hres
  obtain ⟨rl, rh, re⟩ := res
  dsimp only at HV
  go_upto_region 1 with (fail)
  go_region_held3 (fun w' => w'.cell? ⟨q, 3, none⟩ = some (.slice K s.whn.length c)) (first | go_keep | exact SD.out | exact SK.out | exact SK2.out)
    (first
      | (go_at_call 50; refine (franges_any w1.drew).mono ?_; rintro en w2 ⟨A2, c2, rfl, hr2, b2⟩; have HR2 := hide hr2; have B2 : Hid (Below w1.heap.size w1 w2) := hide (Below.trans (Below.drew (Below.refl _ _)) b2); have SK : Hid (w2.cell? ⟨q, 3, none⟩ = some (.slice K s.whn.length c)) := HKG.out w2 B2.out; clear hr2 b2)
      | (go_at_call 49; refine (bounds_any K c s.whn A2 4 c2 rngs37 w2 (HE.out.next B2.out) HN.out HM.out HR2.out (by unfold maxLen; omega) rngs37_names).mono ?_; rintro en w3 ⟨rfl, b3⟩; rw [HRES.out]; dsimp only; have B3 : Hid (Below w1.heap.size w1 w3) := hide (B2.out.trans (b3.mono B2.out.size)); have SK2 : Hid (w3.cell? ⟨q, 3, none⟩ = some (.slice K s.whn.length c)) := HKG.out w3 B3.out; clear b3))
  have HBB := hide (HB.out.trans (B3.out.mono HB.out.size))
  have k3 := HK.out.below B3.out HKL.out
  have c0 : w3.cell? ⟨q, 0, none⟩ = some (.int .i64 s.prog) := k3.cell 0
  have c1 : w3.cell? ⟨q, 1, none⟩ = some (.int .i64 s.tile) := k3.cell 1
  have c2' : w3.cell? ⟨q, 2, none⟩ = some (.int .i64 s.filt) := k3.cell 2
  clear SD SK SK2 B2 B3 HR2 HKG HK HKL c3 k3 HRES HE
  by_cases hre : re = 0
  · subst hre
    go_wp2_with fail
    refine (fin_any s.prog 0 63 w3).mono ?_
    rintro e w' ⟨rfl, rfl⟩
    cases h0 : btw s.prog 0 63
    · have HR : Hid (sbValid s = false) := hide (by rw [HV.out, h0]; simp)
      clear h0
      go_wp2
      go_ret
      exact ⟨by rw [HR.out]; rfl, HBB.out⟩
    · have H0 := hide h0
      clear h0
      go_wp2_with fail
      refine (fin_any s.tile (-1) 511 w3).mono ?_
      rintro e w' ⟨rfl, rfl⟩
      cases h1 : btw s.tile (-1) 511
      · have HR : Hid (sbValid s = false) := hide (by rw [HV.out, h1]; simp)
        clear h1
        go_wp2
        go_ret
        exact ⟨by rw [HR.out]; rfl, HBB.out⟩
      · have HR : Hid (sbValid s = btw s.filt (-1) 7) := hide (by rw [HV.out, H0.out, h1]; rfl)
        clear h1
        go_wp2_with fail
        refine (fin_any s.filt (-1) 7 w3).mono ?_
        rintro e w' ⟨rfl, rfl⟩
        generalize btw s.filt (-1) 7 = b at HR ⊢
        go_wp2
        go_ret
        exact ⟨by rw [HR.out]; rfl, HBB.out⟩
  · have hre' : (re == 0) = false := beq_eq_false_iff_ne.2 hre
    have HR : Hid (sbValid s = false) := hide (by rw [HV.out, decide_eq_false hre]; rfl)
    clear hre
    go_wp2
    go_ret
    exact ⟨by rw [HR.out]; rfl, HBB.out⟩
end Go.Proofs.YtkomgidcgepknaaGreatDoor

set_option linter.unusedVariables false
set_option linter.unusedSimpArgs false
namespace Go.Proofs.YtkomgidcgepknaaGreatDoor
open Go.RowKit Go.Deep Go.Maps

theorem wrong_any (s : Sb) (K : Option Addr) (c : Nat) (w : World) (he : ExprAt w w.heap.size K s.whn) (hn : ∀ x ∈ s.whn, x.name.size ≤ maxLen) (hm : s.whn.length ≤ maxLen) :
    Calls Tryz.prog 46 #[.agg #[.int .i64 s.prog, .int .i64 s.tile, .int .i64 s.filt, .slice K s.whn.length c]] w fun e w' => e = .returned (.bool (!sbValid s)) ∧ Below w.heap.size w w' := by
  have hb : Blk (w.alloc (Obj.cells #[.int .i64 s.prog, .int .i64 s.tile, .int .i64 s.filt, .slice K s.whn.length c] 26)) w.heap.size 26 #[.int .i64 s.prog, .int .i64 s.tile, .int .i64 s.filt, .slice K s.whn.length c] := Blk.new _ _ _
  have hbel : Below w.heap.size w (w.alloc (Obj.cells #[.int .i64 s.prog, .int .i64 s.tile, .int .i64 s.filt, .slice K s.whn.length c] 26)) := (Below.refl _ _).alloc (Nat.le_refl _) _
  have HB := hide hbel
  have HE := hide (he.next hbel)
  have c0 := hb.cell 0
  have c1 := hb.cell 1
  have c2 := hb.cell 2
  have c3 := hb.cell 3
  have HN := hide hn
  have HM := hide hm
  clear he hn hbel hm hb
  go_enter Tryz.func46, Tryz.ntmps46
  go_upto_region 1 with (fail)
  generalize w.alloc (Obj.cells #[.int .i64 s.prog, .int .i64 s.tile, .int .i64 s.filt, .slice K s.whn.length c] 26) = w1 at HB HE c0 c1 c2 c3 ⊢
  obtain ⟨q, hq⟩ : ∃ q, q = w.heap.size := ⟨_, rfl⟩
  rw [← hq] at c0 c1 c2 c3 ⊢
  clear hq
  go_wp2_with fail
  refine (sbValid_any s K c w1 HE.out HN.out HM.out).mono ?_
  rintro e w2 ⟨rfl, hb2⟩
  have HB2 := hide (HB.out.trans (hb2.mono HB.out.size))
  clear hb2
  cases hv : sbValid s
  · have HV := hide hv
    clear hv
    go_wp2
    go_ret
    exact ⟨by rw [HV.out]; rfl, HB2.out⟩
  · have HV := hide hv
    clear hv
    go_wp2
    go_ret
    exact ⟨by rw [HV.out]; rfl, HB2.out⟩

/-- The facts about subscriptions that the walks lean on. -/
def SbsOk (l : List Sb) : Prop := ∀ s ∈ l, (∀ x ∈ s.whn, x.name.size ≤ maxLen) ∧ s.whn.length ≤ maxLen ∧ ∀ x ∈ s.whn, x.kids.length ≤ maxLen
set_option maxHeartbeats 4000000 in
theorem sindex_any (A : Option Addr) (c : Nat) (l : List Sb) (w : World) (h : SubsAt w w.heap.size A l) (ho : SbsOk l) (hn : l.length ≤ maxLen) :
    Calls Tryz.prog 92 #[.slice A l.length c, .func (.func 46) #[] #[]] w fun e w' => (∃ z : Int, e = .returned (.int .i64 z) ∧ (0 ≤ z ↔ ∃ s ∈ l, sbValid s = false)) ∧ Below w.heap.size w w' := by
  have H := hide h
  have HO := hide ho
  unfold maxLen at hn
  obtain ⟨n, hnn⟩ : ∃ n, n = l.length := ⟨_, rfl⟩
  have HNN := hide hnn
  rw [← hnn] at hn ⊢
  clear h ho hnn
  go_enter Tryz.func92, Tryz.ntmps92
  go_wp2
  go_loopw [5, 8] (fun t5 t8 wr => ∃ i : Nat, i ≤ n ∧ t8 = .int .i64 i ∧ (∀ j, j < i → sbValid (sbAt l j) = true) ∧ Below w.heap.size w wr) (fun _ t8 _ => n - (intOf t8).toNat)
  case atStart => exact ⟨0, Nat.zero_le _, rfl, fun j hj => absurd hj (Nat.not_lt_zero _), Below.refl _ _⟩
  case round =>
    obtain ⟨i, hi, rfl, hall, hbr⟩ := hrel
    have HALL := hide hall
    have HBR := hide hbr
    clear hall hbr
    by_cases hlt : i < n
    · have hil : i < l.length := by rw [← HNN.out]; exact hlt
      obtain ⟨b, off, K, kc, rfl, hbb, g0, g1, g2, g3, hex⟩ := (H.out.below HBR.out).at_ hil
      have HEX := hide (hex.more HBR.out.size)
      have HS := hide (HO.out _ (sbAt_mem hil))
      have HST := hide (show ∃ s ∈ l, s = sbAt l i from ⟨_, sbAt_mem hil, rfl⟩)
      have HNX : Hid (sbValid (sbAt l i) = true → ∀ j, j < i + 1 → sbValid (sbAt l j) = true) := hide (fun hv j hj => by
        by_cases hji : j < i
        · exact HALL.out j hji
        · obtain rfl : j = i := by omega
          exact hv)
      clear hex HALL hil
      generalize sbAt l i = s at g0 g1 g2 g3 HEX HS HST HNX
      go_wp2_with fail
      refine (wrong_any s K kc wr HEX.out HS.out.1 HS.out.2.1).mono ?_
      rintro e w2 ⟨rfl, hb2⟩
      have HB2 := hide (HBR.out.trans (hb2.mono HBR.out.size))
      clear hb2 g0 g1 g2 g3 HEX HS
      cases hv : sbValid s
      · have HV := hide hv
        clear hv
        go_wp2
        go_ret
        refine ⟨⟨(i : Int), rfl, fun _ => ?_, fun _ => by omega⟩, HB2.out⟩
        obtain ⟨s', hs', rfl⟩ := HST.out
        exact ⟨_, hs', HV.out⟩
      · have HV := hide (HNX.out hv)
        clear hv
        go_wp2
        go_roundw
        case rel => exact ⟨i + 1, by omega, by go_num, HV.out, HB2.out⟩
        case measure => simp [intOf]; omega
    · obtain rfl : i = n := by omega
      go_wp2
      go_ret
      refine ⟨⟨-1, rfl, fun h => by omega, fun ⟨s, hs, hv⟩ => ?_⟩, HBR.out⟩
      obtain ⟨j, hj, rfl⟩ := List.getElem_of_mem hs
      have h1 := HALL.out j (by rw [HNN.out]; exact hj)
      have h2 : sbAt l j = l[j] := by
        have := sbAt_get hj
        rw [List.getElem?_eq_getElem hj] at this
        exact (Option.some.inj this).symm
      rw [h2, hv] at h1
      cases h1
theorem sall_iff {l : List Sb} : (∃ s ∈ l, sbValid s = false) ↔ l.all sbValid = false := by
  rw [List.all_eq_false]
  constructor
  · rintro ⟨s, h1, h2⟩
    exact ⟨s, h1, by simp [h2]⟩
  · rintro ⟨s, h1, h2⟩
    exact ⟨s, h1, by simpa using h2⟩
theorem scontains_any (A : Option Addr) (c : Nat) (l : List Sb) (w : World) (h : SubsAt w w.heap.size A l) (ho : SbsOk l) (hn : l.length ≤ maxLen) :
    Calls Tryz.prog 47 #[.slice A l.length c, .func (.func 46) #[] #[]] w fun e w' => e = .returned (.bool (!l.all sbValid)) ∧ Below w.heap.size w w' := by
  go_enter Tryz.func47, Tryz.ntmps47
  go_wp2_with fail
  refine (sindex_any A c l w h ho hn).mono ?_
  rintro e w2 ⟨⟨z, rfl, hz⟩, hb2⟩
  have HB2 := hide hb2
  have HZ := hide (hz.trans sall_iff)
  clear hb2 hz h ho
  by_cases h0 : 0 ≤ z
  · have d0 : decide (0 ≤ z) = true := decide_eq_true h0
    have HR := hide (HZ.out.1 h0)
    clear h0
    go_wp2
    go_ret
    exact ⟨by rw [HR.out]; rfl, HB2.out⟩
  · have d0 : decide (0 ≤ z) = false := decide_eq_false h0
    have HR : Hid (l.all sbValid = true) := hide (by
      cases hq : l.all sbValid
      · exact absurd (HZ.out.2 hq) h0
      · rfl)
    clear h0
    go_wp2
    go_ret
    exact ⟨by rw [HR.out]; rfl, HB2.out⟩
end Go.Proofs.YtkomgidcgepknaaGreatDoor

set_option linter.unusedVariables false
set_option linter.unusedSimpArgs false
namespace Go.Proofs.YtkomgidcgepknaaGreatDoor
open Go.RowKit Go.Deep Go.Maps

/-- '.slice A n c' reads as the expression e, its nodes below block B, their operands below kb. -/
def ExprA (w : World) (B kb : Nat) (A : Option Addr) (e : List Nod) : Prop :=
  ∃ ks : List (Option Addr × Nat), ks.length = e.length ∧ Reads w B 4 A e.length (cellsN e ks) ∧
    ∀ (i : Nat) (x : Nod) (k : Option Addr × Nat), e[i]? = some x → ks[i]? = some k → RI w kb k.1 x.kids.length x.kids
/-- A row of nodes of the call's own that reads as the expression e, their operands below kb. -/
def ExprK (w : World) (base kb : Nat) (A : Option Addr) (c : Nat) (e : List Nod) : Prop :=
  ∃ ks : List (Option Addr × Nat), ks.length = e.length ∧ Own w base 56 4 A e.length c (cellsN e ks) ∧
    ∀ (i : Nat) (x : Nod) (k : Option Addr × Nat), e[i]? = some x → ks[i]? = some k → RI w kb k.1 x.kids.length x.kids
section
variable {w w' : World} {B base kb : Nat} {A : Option Addr} {c : Nat} {e : List Nod}
theorem ExprA.of (h : ExprAt w B A e) : ExprA w B B A e := h
theorem ExprA.expr (h : ExprA w B kb A e) (hB : kb ≤ B) : ExprAt w B A e := by
  obtain ⟨ks, h1, h2, h3⟩ := h
  exact ⟨ks, h1, h2, fun i x k hx hk => (h3 i x k hx hk).more hB⟩
theorem ExprA.below (h : ExprA w B kb A e) (hb : Below B w w') (hB : kb ≤ B) : ExprA w' B kb A e := by
  obtain ⟨ks, h1, h2, h3⟩ := h
  exact ⟨ks, h1, h2.below hb, fun i x k hx hk => (h3 i x k hx hk).below (hb.mono hB)⟩
theorem ExprA.more (h : ExprA w B kb A e) {B' : Nat} (hB : B ≤ B') : ExprA w B' kb A e := by
  obtain ⟨ks, h1, h2, h3⟩ := h
  exact ⟨ks, h1, h2.more hB, h3⟩
theorem ExprK.expr (h : ExprK w base kb A c e) (hB : kb ≤ w.heap.size) : ExprAt w w.heap.size A e := by
  obtain ⟨ks, h1, h2, h3⟩ := h
  exact ⟨ks, h1, h2.reads, fun i x k hx hk => (h3 i x k hx hk).more hB⟩
theorem ExprK.keep (h : ExprK w base kb A c e) (hk : ∀ q : Addr, q.block < kb → w'.cell? q = w.cell? q) (hh : ∀ g, base ≤ g → g < w.heap.size → (Value.slice A e.length c).ownBlock = some g → w'.heap[g]? = w.heap[g]?) : ExprK w' base kb A c e := by
  obtain ⟨ks, h1, h2, h3⟩ := h
  exact ⟨ks, h1, h2.keepC (fun g hg hr => hh g hg (World.ownsRow.lt h2 g hr).2 hr), fun i x k hx hk' => Reads.keep (h3 i x k hx hk') hk⟩
theorem ExprK.low (h : ExprK w base kb A c e) {base' : Nat} (hB : base' ≤ base) : ExprK w base' kb A c e := by
  obtain ⟨ks, h1, h2, h3⟩ := h
  refine ⟨ks, h1, ⟨h2.1, ?_⟩, h3⟩
  rcases h2.2 with h | ⟨g, cap, cur, hv, hgb, hh, r⟩
  · exact Or.inl h
  · exact Or.inr ⟨g, cap, cur, hv, Nat.le_trans hB hgb, hh, r⟩
end

theorem slice_nil (c : Nat) (w : World) : (Go.binOp .eql 24 (.slice none 0 c) (.slice none 0 0)).run Tryz.prog w = .ok (.bool true) w := by kernel_rfl
theorem slice_some (ad : Addr) (n c : Nat) (w : World) : (Go.binOp .eql 24 (.slice (some ad) n c) (.slice none 0 0)).run Tryz.prog w = .ok (.bool false) w := by kernel_rfl
set_option maxHeartbeats 2000000 in
set_option maxRecDepth 20000 in
theorem sclone_any (A : Option Addr) (c : Nat) (e : List Nod) (kb : Nat) (w : World) (h : ExprA w w.heap.size kb A e) (hkb : kb ≤ w.heap.size) (hm : e.length ≤ 100000) :
    Calls Tryz.prog 48 #[.slice A e.length c] w fun en w' => ∃ A' c', en = .returned (.slice A' e.length c') ∧ ExprK w' w.heap.size kb A' c' e ∧ Below w.heap.size w w' := by
  obtain ⟨ks, h1, h2, h3⟩ := h
  cases A with
  | none =>
    have he : e = [] := by
      rcases Nat.eq_zero_or_pos e.length with h0 | h0
      · exact List.eq_nil_of_length_eq_zero h0
      · obtain ⟨ad, hA, _⟩ := h2.2 h0
        cases hA
    subst he
    clear h1 h2 h3
    have hsn := slice_nil c w
    go_enter Tryz.func48, Tryz.ntmps48
    go_wp2
    go_ret
    exact ⟨none, 0, rfl, ⟨[], rfl, Own.nil _ _ _ _, fun i x k hx => by simp at hx⟩, Below.refl _ _⟩
  | some ad =>
    have HB0 : Hid (Below w.heap.size w (w.alloc (Obj.cells #[] 56))) := hide ((Below.refl _ _).alloc (Nat.le_refl _) _)
    have HO0 : Hid (Own (w.alloc (Obj.cells #[] 56)) w.heap.size 56 4 (some ⟨w.heap.size, 0, none⟩) 0 0 []) := hide (Own.of_lit w #[] 0 (Nat.le_refl _) (Nat.zero_le _) rfl)
    have HR := hide (h2.below HB0.out)
    have H1 := hide h1
    have H3 := hide h3
    have hq := HB0.out.size
    have hmx : 0 + e.length ≤ maxLen := by unfold maxLen; omega
    have hby : (0 + e.length) * 56 ≤ 140737488355328 := by omega
    clear h1 h2 h3
    have hss := slice_some ad e.length c w
    go_enter Tryz.func48, Tryz.ntmps48
    go_wp2_with (at_builtin; refine wpList_app rfl (.tmp 5) (.tmp 6) 24 rfl w.heap.size 56 (.agg #[.int .i64 0, .int .i64 0, .string ByteArray.empty, .slice none 0 0]) 4 56 Tryz.underlying24 nod_info rfl (by omega) _ 0 0 [] rfl HO0.out _ _ e.length _ (cellsN e ks) rfl HR.out (cellsN_one _ _) hmx hby hq ?_; intro A7 c7 w7 hown7 hb7 _; rw [Nat.zero_add, List.nil_append] at hown7; rw [Nat.zero_add]; have HO7 := hide hown7; have HB7 := hide (HB0.out.trans hb7); clear hown7 hb7)
    go_ret
    exact ⟨A7, c7, rfl, ⟨ks, H1.out, HO7.out, fun i x k hx hk => (H3.out i x k hx hk).below (HB7.out.mono hkb)⟩, HB7.out⟩

/-- The key of a tile and a filter. -/
def ky37 (k : Int × Int) : Value := .agg #[.int .i64 k.1, .int .i64 k.2]
/-- The cells of the conditions. -/
def cellsW (l : List Sb) (ks : List (Option Addr × Nat)) : List Value := List.zipWith (fun s k => .slice k.1 s.whn.length k.2) l ks
theorem cellsW_len {l : List Sb} {ks : List (Option Addr × Nat)} (h : ks.length = l.length) : (cellsW l ks).length = l.length := by simp [cellsW, h]
theorem cellsW_snoc (l : List Sb) (s : Sb) (ks : List (Option Addr × Nat)) (k : Option Addr × Nat) (h : ks.length = l.length) : cellsW (l ++ [s]) (ks ++ [k]) = cellsW l ks ++ [.slice k.1 s.whn.length k.2] := by
  unfold cellsW
  rw [List.zipWith_append h.symm]
  rfl
theorem cellsW_get {l : List Sb} {ks : List (Option Addr × Nat)} {i : Nat} {s : Sb} {k : Option Addr × Nat} (h : l[i]? = some s) (h' : ks[i]? = some k) : (cellsW l ks)[i]? = some (.slice k.1 s.whn.length k.2) := by
  unfold cellsW
  rw [List.getElem?_zipWith, h, h']
theorem cellsW_one (l : List Sb) (ks : List (Option Addr × Nat)) : ∀ u ∈ cellsW l ks, u.oneCell' = true := by
  intro u hu
  unfold cellsW at hu
  obtain ⟨i, hi, rfl⟩ := List.getElem_of_mem hu
  simp [Value.oneCell']

/-- The index at p: its map tells the subscriptions lm, its conditions are those of lw. -/
structure IxIn (w : World) (base kb p m : Nat) (A : Option Addr) (c : Nat) (V : Int × Int → Value) (kss : List (Option Addr × Nat)) (lm lw : List Sb) : Prop where
  blk : Blk w p 80 #[.map (some m), .slice A lw.length c]
  hp : base ≤ p
  hm : base ≤ m
  map : MapIs ky37 w Tryz.prog 81 (.slice none 0 0) m lm.length V
  row : ∀ k, ∃ Ag cg, V k = .slice Ag (idxs lm k.1 k.2).length cg ∧ Own w base 3 1 Ag (idxs lm k.1 k.2).length cg (ints (idxs lm k.1 k.2))
  far : ∀ k k' g, (V k).ownBlock = some g → (V k').ownBlock = some g → k = k'
  kln : kss.length = lw.length
  whn : Own w base 24 1 A lw.length c (cellsW lw kss)
  exp : ∀ (i : Nat) (s : Sb) (k : Option Addr × Nat), lw[i]? = some s → kss[i]? = some k → ExprK w base kb k.1 k.2 s.whn
/-- The index at p of the subscriptions l. -/
def IxAt (w : World) (base kb p : Nat) (l : List Sb) : Prop := ∃ m A c V kss, IxIn w base kb p m A c V kss l l
section
variable {w w' : World} {base kb p m : Nat} {A : Option Addr} {c : Nat} {V : Int × Int → Value} {kss : List (Option Addr × Nat)} {lm lw : List Sb}
theorem IxIn.keep (h : IxIn w base kb p m A c V kss lm lw) (hk : ∀ q : Addr, q.block < kb → w'.cell? q = w.cell? q) (hh : ∀ g, base ≤ g → g < w.heap.size → w'.heap[g]? = w.heap[g]?) : IxIn w' base kb p m A c V kss lm lw :=
  ⟨(hh p h.hp h.blk.lt).trans h.blk, h.hp, h.hm, h.map.kept (hh m h.hm h.map.lt), fun k => by
    obtain ⟨Ag, cg, h1, h2⟩ := h.row k
    exact ⟨Ag, cg, h1, h2.keepC (fun g hg hr => hh g hg (World.ownsRow.lt h2 g hr).2)⟩, h.far, h.kln, h.whn.keepC (fun g hg hr => hh g hg (World.ownsRow.lt h.whn g hr).2),
    fun i s k hs hk' => (h.exp i s k hs hk').keep hk (fun g hg hl _ => hh g hg hl)⟩
theorem IxIn.below (h : IxIn w base kb p m A c V kss lm lw) (hb : Below w.heap.size w w') (hkb : kb ≤ w.heap.size) : IxIn w' base kb p m A c V kss lm lw :=
  h.keep (fun q hq => hb.cell (by omega)) (fun g _ hg => hb.block g hg)
theorem IxAt.keep {l : List Sb} (h : IxAt w base kb p l) (hk : ∀ q : Addr, q.block < kb → w'.cell? q = w.cell? q) (hh : ∀ g, base ≤ g → g < w.heap.size → w'.heap[g]? = w.heap[g]?) : IxAt w' base kb p l := by
  obtain ⟨m, A, c, V, kss, h⟩ := h
  exact ⟨m, A, c, V, kss, h.keep hk hh⟩
theorem IxAt.below {l : List Sb} (h : IxAt w base kb p l) (hb : Below w.heap.size w w') (hkb : kb ≤ w.heap.size) : IxAt w' base kb p l := by
  obtain ⟨m, A, c, V, kss, h⟩ := h
  exact ⟨m, A, c, V, kss, h.below hb hkb⟩
end
end Go.Proofs.YtkomgidcgepknaaGreatDoor

set_option linter.unusedVariables false
set_option linter.unusedSimpArgs false
namespace Go.Proofs.YtkomgidcgepknaaGreatDoor
open Go.RowKit Go.Deep Go.Maps

theorem keyed37 : Go.Maps.Keyed Tryz.prog 81 :=
  Go.Maps.Keyed.of_law (deep_law_laid (of_decide_eq_true (by kernel_rfl)) (m := 2) (by omega) (of_decide_eq_true (by kernel_rfl)) (by kernel_rfl) (by rw [Tryz.underlying81]))
theorem key_lits (d : Nat) (a b : Int) (ha : (Lit.int .i64 a).wf = true) (hb : (Lit.int .i64 b).wf = true) :
    Tryz.prog.keyLits (d + 1 + 1) 81 [.int .i64 a, .int .i64 b] = some [.int .i64 a, .int .i64 b] := by
  have hc : Tryz.prog.cellsOf 81 = 2 := by kernel_rfl
  have hc1 : Tryz.prog.cellsOf 3 = 1 := by kernel_rfl
  simp [Program.keyLits, Tryz.underlying81, Tryz.underlying3, hc, hc1, ha, hb, List.range, List.range.loop]
theorem key_some (a b : Int) (ha : (Lit.int .i64 a).wf = true) (hb : (Lit.int .i64 b).wf = true) : (keyOf Tryz.prog 81 (.agg #[.int .i64 a, .int .i64 b])).isSome = true := by
  unfold keyOf
  rw [Tryz.underlying81]
  simp only []
  have h1 : Tryz.prog.keyType 81 = true := by kernel_rfl
  have h2 : (Value.agg #[.int .i64 a, .int .i64 b]).formed Tryz.prog 81 = true := by
    simp [Value.formed, Tryz.underlying81]
    kernel_rfl
  rw [h1, h2]
  have h3 : Tryz.prog.types.size + 1 = Tryz.prog.types.size - 1 + 1 + 1 := by
    have : Tryz.prog.types.size ≠ 0 := of_decide_eq_true (by kernel_rfl)
    omega
  have h4 := key_lits (Tryz.prog.types.size - 1) a b ha hb
  rw [← h3] at h4
  simp only [Bool.and_self, if_true, Value.cells]
  rw [h4]
  rfl
theorem ky37_inj : ∀ i j : Int × Int, ky37 i = ky37 j → i = j := by
  intro i j h
  unfold ky37 at h
  simp at h
  exact Prod.ext h.1 h.2
theorem zero_ints (u : World) : (zeroValue 31).run Tryz.prog u = .ok (.slice none 0 0) u := by kernel_rfl
theorem setBlock_alloc (w : World) (b : Nat) (x o : Obj) (h : b < w.heap.size) : ChangeMaps.setBlock (w.alloc o) b x = (ChangeMaps.setBlock w b x).alloc o := by
  unfold ChangeMaps.setBlock World.alloc
  simp only [World.mk.injEq, true_and, and_true]
  apply Array.ext'
  simp only [Array.toList_setIfInBounds, Array.toList_push]
  rw [List.set_append_left _ _ (by simpa using h)]
theorem setBlock_size (w : World) (b : Nat) (x : Obj) : (ChangeMaps.setBlock w b x).heap.size = w.heap.size := by simp [ChangeMaps.setBlock]
theorem setBlock_same (w : World) (b : Nat) (x : Obj) (h : b < w.heap.size) : (ChangeMaps.setBlock w b x).heap[b]? = some x := by
  simp [ChangeMaps.setBlock, h]
theorem setBlock_far (w : World) (b k : Nat) (x : Obj) (h : k ≠ b) : (ChangeMaps.setBlock w b x).heap[k]? = w.heap[k]? := by
  simp [ChangeMaps.setBlock, Array.getElem?_setIfInBounds, Ne.symm h]
theorem wf_small {z : Int} (h : -1 ≤ z ∧ z ≤ 600) : (Lit.int .i64 z).wf = true := by
  simp only [Lit.wf, Bool.and_eq_true, IntKind.min, IntKind.max]
  simp [IntKind.signed, IntKind.bits]
  omega

theorem Own.blk {w : World} {base : Nat} {e : TypeId} {size : Nat} {A : Option Addr} {n c : Nat} {xs : List Value} (h : Own w base e size A n c xs) {g : Nat} (hg : (Value.slice A n c).ownBlock = some g) : ∃ cs fr, w.heap[g]? = some (.cells cs e fr) := by
  rcases h.2 with ⟨hv, _⟩ | ⟨g', cap, cur, hv, _, hh, _⟩
  · rw [hv] at hg; cases hg
  · rw [hv] at hg
    have hg' : some g' = some g := hg
    injection hg' with hg'
    subst hg'
    exact ⟨_, _, hh⟩
theorem MapIs.blk {ι : Type} {ky : ι → Value} {w : World} {P : Program} {k : TypeId} {z : Value} {b n : Nat} {V : ι → Value} (h : MapIs ky w P k z b n V) : ∃ es cl, w.heap[b]? = some (.map es cl) := by
  obtain ⟨D, ⟨es, clock, h1, _⟩, _⟩ := h
  exact ⟨es, clock, h1⟩
section
variable {w w' : World} {base kb p m : Nat} {A : Option Addr} {c : Nat} {V : Int × Int → Value} {kss : List (Option Addr × Nat)} {lm lw : List Sb}
theorem IxIn.ne_map (h : IxIn w base kb p m A c V kss lm lw) {g : Nat} {cs : Array Value} {t : TypeId} {fr : Nat × Nat} (hg : w.heap[g]? = some (.cells cs t fr)) : g ≠ m := by
  obtain ⟨es, cl, h1⟩ := h.map.blk
  rintro rfl
  rw [h1] at hg
  cases hg
theorem IxIn.ne_row (h : IxIn w base kb p m A c V kss lm lw) {g : Nat} {cs : Array Value} {t : TypeId} {fr : Nat × Nat} (hg : w.heap[g]? = some (.cells cs t fr)) (ht : t ≠ 3) (k : Int × Int) : some g ≠ (V k).ownBlock := by
  obtain ⟨Ag, cg, h1, h2⟩ := h.row k
  intro e
  rw [h1] at e
  obtain ⟨cs', fr', h3⟩ := Own.blk h2 e.symm
  rw [h3] at hg
  injection hg with hg
  injection hg with _ hg _
  exact ht hg.symm
theorem IxIn.row_lt (h : IxIn w base kb p m A c V kss lm lw) (k : Int × Int) {g : Nat} (hg : (V k).ownBlock = some g) : base ≤ g ∧ g < w.heap.size ∧ g ≠ m := by
  obtain ⟨Ag, cg, h1, h2⟩ := h.row k
  rw [h1] at hg
  have h3 := World.ownsRow.lt h2 g hg
  obtain ⟨cs', fr', h4⟩ := Own.blk h2 hg
  exact ⟨h3.1, h3.2, h.ne_map h4⟩
/-- The index with one subscription more in its map. -/
theorem IxIn.put9 {w4 : World} (h : IxIn w base kb p m A c V kss lm lw) (hkb : kb ≤ base) (s : Sb) {g cap : Nat} {es' : Array MapEntry} {clock' : Nat}
    (hown : Own w4 base 3 1 (some ⟨g, 0, none⟩) ((idxs lm s.tile s.filt).length + 1) cap (ints (idxs lm s.tile s.filt) ++ [.int .i64 (lm.length : Int)]))
    (hgrow : ∀ k, k < w.heap.size → k ≠ m → some k ≠ (V (s.tile, s.filt)).ownBlock → w4.heap[k]? = w.heap[k]?) (hsize : w.heap.size + 1 ≤ w4.heap.size)
    (hat : (V (s.tile, s.filt)).ownBlock = some g ∨ g = w.heap.size + 1)
    (hmap : ∀ u : World, u.heap[m]? = some (.map es' clock') → MapIs ky37 u Tryz.prog 81 (.slice none 0 0) m (lm.length + 1) (upd V (s.tile, s.filt) (.slice (some ⟨g, 0, none⟩) ((idxs lm s.tile s.filt).length + 1) cap))) :
    IxIn (ChangeMaps.setBlock w4 m (.map es' clock')) base kb p m A c (upd V (s.tile, s.filt) (.slice (some ⟨g, 0, none⟩) ((idxs lm s.tile s.filt).length + 1) cap)) kss (lm ++ [s]) lw ∧
    ∀ k, k < w.heap.size → k ≠ m → some k ≠ (V (s.tile, s.filt)).ownBlock → (ChangeMaps.setBlock w4 m (.map es' clock')).heap[k]? = w.heap[k]? := by
  have hml := h.map.lt
  have K5 : ∀ k, k < w.heap.size → k ≠ m → some k ≠ (V (s.tile, s.filt)).ownBlock → (ChangeMaps.setBlock w4 m (.map es' clock')).heap[k]? = w.heap[k]? := fun k h1 h2 h3 => (setBlock_far _ _ _ _ h2).trans (hgrow k h1 h2 h3)
  have gm : g ≠ m := by
    rcases hat with h1 | h1
    · exact (h.row_lt _ h1).2.2
    · omega
  have hnode : 56 ≠ 3 := by decide
  have hexpr : 24 ≠ 3 := by decide
  have hindex : 80 ≠ 3 := by decide
  refine ⟨⟨?_, h.hp, h.hm, ?_, fun k => ?_, fun k k' g' h1 h2 => ?_, h.kln, ?_, fun i s' k hs hk => ?_⟩, K5⟩
  · exact (K5 p h.blk.lt (h.ne_map h.blk) (h.ne_row h.blk hindex _)).trans h.blk
  · rw [List.length_append]
    exact hmap _ (setBlock_same _ _ _ (by omega))
  · by_cases hk : k = (s.tile, s.filt)
    · subst hk
      rw [upd_same, idxs_snoc, if_pos ⟨rfl, rfl⟩, ints_append, List.length_append]
      exact ⟨_, _, rfl, Own.keepC hown (fun g' _ hg' => by
        have : some g = some g' := hg'
        injection this with this
        subst this
        exact setBlock_far _ _ _ _ gm)⟩
    · rw [upd_other _ _ _ _ hk, idxs_snoc, if_neg (fun e => hk (Prod.ext e.1.symm e.2.symm)), List.append_nil]
      obtain ⟨Ag, cg, h1, h2⟩ := h.row k
      refine ⟨Ag, cg, h1, h2.keepC (fun g' hg' hr => ?_)⟩
      have hr' : (V k).ownBlock = some g' := by rw [h1]; exact hr
      have hl := h.row_lt k hr'
      exact K5 g' hl.2.1 hl.2.2 (fun e => hk (h.far k _ g' hr' e.symm))
  · by_cases hk : k = (s.tile, s.filt)
    · by_cases hk' : k' = (s.tile, s.filt)
      · rw [hk, hk']
      · subst hk
        rw [upd_same] at h1
        rw [upd_other _ _ _ _ hk'] at h2
        have hg' : some g = some g' := h1
        injection hg' with hg'
        subst hg'
        rcases hat with h3 | h3
        · exact h.far _ _ g h3 h2
        · have := (h.row_lt k' h2).2.1
          omega
    · rw [upd_other _ _ _ _ hk] at h1
      by_cases hk' : k' = (s.tile, s.filt)
      · subst hk'
        rw [upd_same] at h2
        have hg' : some g = some g' := h2
        injection hg' with hg'
        subst hg'
        rcases hat with h3 | h3
        · exact h.far _ _ g h1 h3
        · have := (h.row_lt k h1).2.1
          omega
      · rw [upd_other _ _ _ _ hk'] at h2
        exact h.far _ _ g' h1 h2
  · exact h.whn.keepC (fun g' hg' hr => by
      obtain ⟨cs, fr, hb⟩ := Own.blk h.whn hr
      exact K5 g' (World.ownsRow.lt h.whn g' hr).2 (h.ne_map hb) (h.ne_row hb hexpr _))
  · refine (h.exp i s' k hs hk).keep (fun q hq => World.cell?_of_block (K5 q.block ?_ ?_ ?_)) (fun g' hg' hl hr => ?_)
    · have := h.hm; omega
    · have := h.hm; omega
    · intro e
      have := (h.row_lt _ e.symm).1
      omega
    · obtain ⟨ks, _, h2, _⟩ := h.exp i s' k hs hk
      obtain ⟨cs, fr, hb⟩ := Own.blk h2 hr
      exact K5 g' hl (h.ne_map hb) (h.ne_row hb hnode _)
end
section
variable {w w' : World} {base kb p m : Nat} {A : Option Addr} {c : Nat} {V : Int × Int → Value} {kss : List (Option Addr × Nat)} {lm lw : List Sb}
theorem cells_ne {w : World} {g : Nat} {cs cs' : Array Value} {t t' : TypeId} {fr fr' : Nat × Nat} {g' : Nat} (h : w.heap[g]? = some (.cells cs t fr)) (h' : w.heap[g']? = some (.cells cs' t' fr')) (ht : t ≠ t') : g ≠ g' := by
  rintro rfl
  rw [h] at h'
  injection h' with h'
  injection h' with _ h' _
  exact ht h'
/-- The index with one condition more. -/
theorem IxIn.put10 {w9 : World} (h : IxIn w base kb p m A c V kss lm lw) (hkb : kb ≤ base) (s : Sb) {K : Option Addr} {kc : Nat} (hex : ExprK w base kb K kc s.whn) {A9 : Option Addr} {c9 : Nat}
    (hown : Own w9 base 24 1 A9 (lw.length + 1) c9 (cellsW lw kss ++ [.slice K s.whn.length kc])) (hg : w.grownBy w9 (Value.slice A lw.length c).ownBlock) :
    Blk w9 p 80 #[.map (some m), .slice A lw.length c] ∧
    IxIn (w9.setCell ⟨p, 1, none⟩ (.slice A9 (lw.length + 1) c9)) base kb p m A9 c9 V (kss ++ [(K, kc)]) lm (lw ++ [s]) := by
  have hnode : 56 ≠ 24 := by decide
  have hint : 3 ≠ 24 := by decide
  have hindex : 80 ≠ 24 := by decide
  have hindexn : 80 ≠ 56 := by decide
  have hindexi : 80 ≠ 3 := by decide
  -- blocks of other types than the row's are as they were
  have K9 : ∀ g, g < w.heap.size → some g ≠ (Value.slice A lw.length c).ownBlock → g ≠ p → (w9.setCell ⟨p, 1, none⟩ (.slice A9 (lw.length + 1) c9)).heap[g]? = w.heap[g]? := fun g h1 h2 h3 =>
    (Below.heap_setCell w9 ⟨p, 1, none⟩ _ g h3).trans (hg.block g h1 h2)
  have nrow : ∀ g cs t fr, w.heap[g]? = some (.cells cs t fr) → t ≠ 24 → some g ≠ (Value.slice A lw.length c).ownBlock := fun g cs t fr hb ht e => by
    obtain ⟨cs', fr', hb'⟩ := Own.blk h.whn e.symm
    exact cells_ne hb hb' ht rfl
  have hb9 : Blk w9 p 80 #[.map (some m), .slice A lw.length c] := (hg.block p h.blk.lt (nrow p _ _ _ h.blk hindex)).trans h.blk
  have hmrow : some m ≠ (Value.slice A lw.length c).ownBlock := fun e => by
    obtain ⟨cs', fr', hb'⟩ := Own.blk h.whn e.symm
    exact h.ne_map hb' rfl
  have hexk : ∀ {e : List Nod} {K : Option Addr} {kc : Nat}, ExprK w base kb K kc e → ExprK (w9.setCell ⟨p, 1, none⟩ (.slice A9 (lw.length + 1) c9)) base kb K kc e := fun {e K kc} he => by
    refine he.keep (fun q hq => World.cell?_of_block (K9 q.block ?_ ?_ ?_)) (fun g hgb hl hr => ?_)
    · have := h.hp; have := h.blk.lt; omega
    · intro e
      have := (World.ownsRow.lt h.whn _ e.symm).1
      omega
    · have := h.hp; omega
    · obtain ⟨ks, _, h2, _⟩ := he
      obtain ⟨cs, fr, hb⟩ := Own.blk h2 hr
      exact K9 g hl (nrow g _ _ _ hb hnode) (fun e => cells_ne h.blk hb hindexn e.symm)
  refine ⟨hb9, ⟨?_, h.hp, h.hm, ?_, fun k => ?_, h.far, by simp [h.kln], ?_, fun i s' k hs hk => ?_⟩⟩
  · have := hb9.set_ 1 (.slice A9 (lw.length + 1) c9)
    rw [List.length_append]
    exact this
  · exact h.map.kept (K9 m h.map.lt hmrow (fun e => h.ne_map h.blk e.symm))
  · obtain ⟨Ag, cg, h1, h2⟩ := h.row k
    refine ⟨Ag, cg, h1, h2.keepC (fun g hgb hr => ?_)⟩
    obtain ⟨cs, fr, hb⟩ := Own.blk h2 hr
    exact K9 g (World.ownsRow.lt h2 g hr).2 (nrow g _ _ _ hb hint) (fun e => cells_ne h.blk hb hindexi e.symm)
  · rw [List.length_append, cellsW_snoc _ _ _ _ h.kln]
    refine Own.keepC hown (fun g hgb hr => Below.heap_setCell w9 ⟨p, 1, none⟩ _ g (fun e => ?_))
    have e : g = p := e
    subst e
    obtain ⟨cs, fr, hb⟩ := Own.blk hown hr
    exact cells_ne hb9 hb hindex rfl
  · by_cases hi : i < lw.length
    · rw [List.getElem?_append_left hi] at hs
      rw [List.getElem?_append_left (by rw [h.kln]; exact hi)] at hk
      exact hexk (h.exp i s' k hs hk)
    · have hi2 : i = lw.length := by
        have := (List.getElem?_eq_some_iff.1 hs).1
        simp at this; omega
      subst hi2
      rw [List.getElem?_append_right (Nat.le_refl _), Nat.sub_self] at hs
      rw [List.getElem?_append_right (by rw [h.kln]; exact Nat.le_refl _), h.kln, Nat.sub_self] at hk
      simp only [List.getElem?_cons_zero, Option.some.injEq] at hs hk
      subst hs hk
      exact hexk hex
theorem expr_info : (Tryz.prog.info? 24).map (fun i => (i.zero, i.size, i.bytes)) = some (some (.slice none 0 0), 1, 24) := by kernel_rfl
end
end Go.Proofs.YtkomgidcgepknaaGreatDoor

set_option linter.unusedVariables false
set_option linter.unusedSimpArgs false
namespace Go.Proofs.YtkomgidcgepknaaGreatDoor
open Go.RowKit Go.Deep Go.Maps Go.Shelf
attribute [local go_sem] Oper.semAt_some

/-- The indices of the subscriptions with a tile and a filter, each with its bound. -/
def idxF (l : List Sb) (t f : Int) : List (Fin l.length) := (List.range l.length).filterMap fun i => if h : i < l.length ∧ (sbAt l i).tile = t ∧ (sbAt l i).filt = f then some ⟨i, h.1⟩ else none
def finI {n : Nat} (x : Fin n) : Int := (x.val : Int)
theorem idxF_map (l : List Sb) (t f : Int) : (idxF l t f).map finI = idxs l t f := by
  unfold idxF idxs
  have key : ∀ (m : List Nat), (∀ i ∈ m, i < l.length) → (m.filterMap fun i => if h : i < l.length ∧ (sbAt l i).tile = t ∧ (sbAt l i).filt = f then some (⟨i, h.1⟩ : Fin l.length) else none).map finI = (m.filter fun i : Nat => decide ((sbAt l i).tile = t ∧ (sbAt l i).filt = f)).map fun i : Nat => (i : Int) := by
    intro m
    induction m with
    | nil => intro _; rfl
    | cons i m ih =>
      intro hm
      have ih' := ih (fun j hj => hm j (List.mem_cons_of_mem _ hj))
      have hi := hm i List.mem_cons_self
      by_cases h : (sbAt l i).tile = t ∧ (sbAt l i).filt = f
      · rw [List.filterMap_cons, dif_pos ⟨hi, h⟩, List.filter_cons_of_pos (by simpa using h), List.map_cons, List.map_cons, ih']
        rfl
      · rw [List.filterMap_cons, dif_neg (fun e => h e.2), List.filter_cons_of_neg (by simpa using h), ih']
  exact key _ (fun i hi => List.mem_range.1 hi)
theorem idxF_len (l : List Sb) (t f : Int) : (idxF l t f).length = (idxs l t f).length := by rw [← idxF_map, List.length_map]
theorem idxF_nth {l : List Sb} {t f : Int} {j : Nat} (h : j < (idxF l t f).length) : nth (idxs l t f) j = finI ((idxF l t f)[j]) := by
  rw [nth_eq (by rw [← idxF_len]; exact h)]
  have : (idxs l t f)[j]? = some (finI ((idxF l t f)[j])) := by
    rw [← idxF_map, List.getElem?_map, List.getElem?_eq_getElem h]
    rfl
  rw [List.getElem?_eq_getElem (by rw [← idxF_len]; exact h)] at this
  exact Option.some.inj this
theorem takeF {α : Type} {l : List α} {j : Nat} (h : j < l.length) : l.take (j + 1) = l.take j ++ [l[j]] := by rw [List.take_succ_eq_append_getElem h]
/-- What the iterator hands on, in its order. -/
def catF (l : List Sb) (a : Al) : List (Fin l.length) := ((idxF l (-1) (-1) ++ idxF l (-1) a.filt) ++ idxF l a.tile (-1)) ++ idxF l a.tile a.filt
/-- What has come behind the first blocks. -/
def prefL (l : List Sb) (a : Al) : Nat → List (Fin l.length)
  | 0 => []
  | 1 => idxF l (-1) (-1)
  | 2 => idxF l (-1) (-1) ++ idxF l (-1) a.filt
  | 3 => (idxF l (-1) (-1) ++ idxF l (-1) a.filt) ++ idxF l a.tile (-1)
  | _ => catF l a
def blkL (l : List Sb) (a : Al) : Nat → List (Fin l.length)
  | 0 => idxF l (-1) (-1)
  | 1 => idxF l (-1) a.filt
  | 2 => idxF l a.tile (-1)
  | _ => idxF l a.tile a.filt
theorem pref_take (l : List Sb) (a : Al) (q k : Nat) (hq : q < 4) : ∃ rest, prefL l a q ++ (blkL l a q).take k ++ rest = catF l a := by
  obtain rfl | rfl | rfl | rfl : q = 0 ∨ q = 1 ∨ q = 2 ∨ q = 3 := by omega
  · exact ⟨(idxF l (-1) (-1)).drop k ++ idxF l (-1) a.filt ++ idxF l a.tile (-1) ++ idxF l a.tile a.filt, by simp only [prefL, blkL, catF, List.nil_append, ← List.append_assoc, List.take_append_drop]⟩
  · exact ⟨(idxF l (-1) a.filt).drop k ++ idxF l a.tile (-1) ++ idxF l a.tile a.filt, by simp only [prefL, blkL, catF, List.append_assoc]; rw [← List.append_assoc (List.take k _), List.take_append_drop]⟩
  · exact ⟨(idxF l a.tile (-1)).drop k ++ idxF l a.tile a.filt, by simp only [prefL, blkL, catF, List.append_assoc]; rw [← List.append_assoc (List.take k _), List.take_append_drop]⟩
  · exact ⟨(idxF l a.tile a.filt).drop k, by simp only [prefL, blkL, catF, List.append_assoc, List.take_append_drop]⟩
theorem catF_map (l : List Sb) (a : Al) : (catF l a).map finI = catL37 l a := by
  unfold catF catL37
  simp only [List.map_append, idxF_map]

/-- What a round keeps: the blocks below n₀, and the two boxes. -/
def Kp37 (n₀ Ba Bx : Nat) (W W' : World) : Prop := ∀ k, (k < n₀ ∨ k = Ba ∨ k = Bx) → W'.heap[k]? = W.heap[k]?
theorem Kp37.refl {n₀ Ba Bx : Nat} (W : World) : Kp37 n₀ Ba Bx W W := fun _ _ => rfl
theorem Kp37.trans {n₀ Ba Bx : Nat} {A B C : World} (h : Kp37 n₀ Ba Bx A B) (k : Kp37 n₀ Ba Bx B C) : Kp37 n₀ Ba Bx A C := fun i hi => (k i hi).trans (h i hi)
theorem Kp37.put {n₀ Ba Bx B : Nat} (h0 : n₀ ≤ B) (h1 : Ba < B) (h2 : Bx < B) (W : World) (l : Nat) (o o' : Obj) (hl : B ≤ l) (_ : W.heap[l]? = some o) (_ : o.isCells = false) (_ : o.isWalk = false) : Kp37 n₀ Ba Bx W (W.putObj l o') := fun i hi => by
  have : l ≠ i := by omega
  simp [World.putObj, Array.getElem?_setIfInBounds, this]
theorem ixk {w0 W : World} {base kb p m : Nat} {A : Option Addr} {c : Nat} {V : Int × Int → Value} {kss : List (Option Addr × Nat)} {lm lw : List Sb} (h : IxIn w0 base kb p m A c V kss lm lw) (hkb : kb ≤ w0.heap.size) (hk : ∀ k, k < w0.heap.size → W.heap[k]? = w0.heap[k]?) : IxIn W base kb p m A c V kss lm lw :=
  h.keep (fun q hq => World.cell?_of_block (hk q.block (by omega))) (fun g _ hg => hk g hg)

theorem idx2_0 (x y : Int) (w : World) : (Instr.index 81 (.agg #[.int .i64 x, .int .i64 y]) (.int .i64 0)).run Tryz.prog w = .ok (.int .i64 x) w := by kernel_rfl
theorem idx2_1 (x y : Int) (w : World) : (Instr.index 81 (.agg #[.int .i64 x, .int .i64 y]) (.int .i64 1)).run Tryz.prog w = .ok (.int .i64 y) w := by kernel_rfl
set_option maxRecDepth 100000 in
set_option maxHeartbeats 8000000 in
theorem conc1_in (F : Fence) (n : Nat) (hf : F.fn 107) (hro : F.round = none) (hn : 1 ≤ n) (l Ba Bx : Nat) (a : Al) (subs : List Sb) (w0 : World) (base kb p m : Nat) (Ar : Option Addr) (cr : Nat) (V : Int × Int → Value) (kss : List (Option Addr × Nat))
    (hix : IxIn w0 base kb p m Ar cr V kss subs subs) (hkb : kb ≤ w0.heap.size) (ha1 : 0 ≤ a.tile ∧ a.tile ≤ 511) (ha2 : 0 ≤ a.filt ∧ a.filt ≤ 7) (hsl : subs.length ≤ 1000)
    (J Jx : List (Fin subs.length) → World → Prop)
    (hY : ∀ pre x W, J pre W → pre.length < (catF subs a).length → YieldAt F (n - 1) Tryz.prog l #[.int .i64 (finI x)] W fun e W' =>
      (e = .returned (.bool true) ∧ J (pre ++ [x]) W' ∧ Kp37 w0.heap.size Ba Bx W W') ∨ (e = .returned (.bool false) ∧ Jx (pre ++ [x]) W'))
    (W : World) (hW : ∀ k, k < w0.heap.size → W.heap[k]? = w0.heap[k]?) (hBa : Blk W Ba 28 a.cells) (hBx : Blk W Bx 35 #[.pointer (some ⟨p, 0, none⟩)]) (h0 : J [] W) :
    CallsIn F n Tryz.prog 107 #[.func (.yield l) #[] #[], .pointer (some ⟨Ba, 0, none⟩), .pointer (some ⟨Bx, 0, none⟩)] W fun e W' => (∃ v, e = .returned v) ∧
      ((∃ ys, ys = catF subs a ∧ J ys W') ∨ (∃ pre, pre <+: catF subs a ∧ Jx pre W')) := by
  have a0 : W.cell? ⟨Ba, 0, none⟩ = some (.int .i64 a.tile) := hBa.cell 0
  have a2 : W.cell? ⟨Ba, 2, none⟩ = some (.int .i64 a.filt) := hBa.cell 2
  have hx0 := @idx2_0
  have hx1 := @idx2_1
  refine callsIn_of_wp Tryz.func107 rfl hf ?_ hro
  simp only [Tryz.ntmps107, List.size_toArray, List.length_cons, List.length_nil, Nat.reduceAdd, Nat.reduceSub, Array.replicate_succ, Array.replicate_zero, List.push_toArray, List.append_toArray, List.nil_append, List.cons_append]
  gi_wp2
  gi_loopw [5, 7, 9, 13] (fun t5 t7 t9 t13 wr => ∃ i : Nat, i ≤ 2 ∧ t13 = .int .i64 i ∧ J (prefL subs a (2 * i)) wr ∧ Kp37 w0.heap.size Ba Bx W wr) (fun _ _ _ t13 _ => 2 - (intOf t13).toNat)
  case atStart => exact ⟨0, by omega, rfl, h0, Kp37.refl _⟩
  case round =>
    clear a0 a2
    obtain ⟨i, hi, rfl, hJo, hko⟩ := hrel
    have hba := (hko Ba (.inr (.inl rfl))).trans hBa
    have a0 : wr.cell? ⟨Ba, 0, none⟩ = some (.int .i64 a.tile) := Blk.cell (cs := a.cells) hba 0
    have a2 : wr.cell? ⟨Ba, 2, none⟩ = some (.int .i64 a.filt) := Blk.cell (cs := a.cells) hba 2
    clear hba
    obtain rfl | rfl | rfl : i = 0 ∨ i = 1 ∨ i = 2 := by omega
    · gi_wp2
      gi_loopw [7, 9, 19] (fun t7 t9 t19 wr => ∃ j : Nat, j ≤ 2 ∧ t19 = .int .i64 j ∧ J (prefL subs a (0 + j)) wr ∧ Kp37 w0.heap.size Ba Bx W wr) (fun _ _ t19 _ => 2 - (intOf t19).toNat)
      case atStart => exact ⟨0, by omega, rfl, hJo, hko⟩
      case round =>
        clear hJo a0 a2
        obtain ⟨j, hj, rfl, hJm, hkm⟩ := hrel
        obtain rfl | rfl | rfl : j = 0 ∨ j = 1 ∨ j = 2 := by omega
        · have hixr := ixk hix hkb (fun k hk => (hkm k (.inl hk)).trans (hW k hk))
          obtain ⟨kl, hkl⟩ := Option.isSome_iff_exists.1 (key_some (-1) (-1) (wf_small (by omega)) (wf_small (by omega)))
          obtain ⟨Ag, cg, hv, hown⟩ := hix.row (-1, -1)
          dsimp only at hv hown
          have hlk : (Instr.lookup 77 (.map (some m)) (.agg #[.int .i64 (-1), .int .i64 (-1)]) false).run Tryz.prog wr = .ok (.slice Ag (idxs subs (-1) (-1)).length cg) wr := by
            rw [← hv]
            exact hixr.map.lookup keyed37 Tryz.underlying77 (zero_ints wr) (-1, -1) hkl
          have x0 : wr.cell? ⟨Bx, 0, none⟩ = some (.pointer (some ⟨p, 0, none⟩)) := (World.cell?_of_block (a := ⟨Bx, 0, none⟩) (hkm Bx (.inr (.inr rfl)))).trans (hBx.cell 0)
          have p0 : wr.cell? ⟨p, 0, none⟩ = some (.map (some m)) := hixr.blk.cell 0
          have hil : (idxs subs (-1) (-1)).length ≤ 1000 := Nat.le_trans (idxs_len _ _ _) hsl
          have hfl := idxF_len subs (-1) (-1)
          have HFN := hide (fun (k : Nat) (h : k < (idxF subs (-1) (-1)).length) => idxF_nth h)
          have HOWN := hide hown
          obtain ⟨ln, hln⟩ : ∃ ln, ln = (idxs subs (-1) (-1)).length := ⟨_, rfl⟩
          rw [← hln] at hil hfl hlk
          have HLN := hide hln
          clear hown hv hln
          gi_wp2
          clear hlk hkl x0 p0
          gi_loopw [9, 31] (fun t9 t31 wi => ∃ k : Nat, k ≤ ln ∧ t31 = .int .i64 k ∧ J (prefL subs a 0 ++ (idxF subs (-1) (-1)).take k) wi ∧ Kp37 w0.heap.size Ba Bx W wi) (fun _ t31 _ => ln - (intOf t31).toNat)
          case atStart => exact ⟨0, Nat.zero_le _, rfl, by simpa using hJm, hkm⟩
          case round =>
            clear hJm
            obtain ⟨k, hk, rfl, hJi, hki⟩ := hrel
            by_cases hlt : k < ln
            · have hkf : k < (idxF subs (-1) (-1)).length := by rw [hfl]; exact hlt
              obtain ⟨g, rfl, hgb, hgl, hgc, _⟩ := Own.at_ HOWN.out (k := k) (by rw [← HLN.out]; exact hlt)
              have hcell : wr.cell? ⟨g, k, none⟩ = some (.int .i64 (finI ((idxF subs (-1) (-1))[k]))) := by
                rw [← HFN.out k hkf]
                exact ((World.cell?_of_block (a := ⟨g, k, none⟩) ((hki g (.inl hgl)).trans (hW g hgl))).trans hgc).trans (ints_get (by rw [← HLN.out]; exact hlt))
              have htk := takeF hkf
              generalize (idxF subs (-1) (-1))[k] = x at hcell htk
              have hcat : ∃ rest, prefL subs a 0 ++ (idxF subs (-1) (-1)).take k ++ [x] ++ rest = catF subs a := by
                rw [List.append_assoc (prefL subs a 0), ← htk]
                exact pref_take subs a 0 (k + 1) (by omega)
              obtain ⟨rest, hrest⟩ := hcat
              obtain ⟨fn, tmps, assign, body, hy, hR⟩ := hY _ x wr hJi (by rw [← hrest]; simp)
              gi_wp2
              refine hR.mono ?_
              rintro e W3 (⟨rfl, hJ3, hk3⟩ | ⟨rfl, hJx3⟩)
              · gi_wp2
                go_roundw
                case rel => (repeat apply Exists.intro); exact ⟨⟨k + 1, by omega, by go_num, by rw [htk, ← List.append_assoc]; exact hJ3, hki.trans hk3⟩, rfl⟩
                case measure => simp [intOf]; omega
              · gi_wp2
                refine bodyPost_ret (results_none rfl _ _ _) rfl ?_
                exact ⟨⟨_, rfl⟩, .inr ⟨_, ⟨rest, hrest⟩, hJx3⟩⟩
            · obtain rfl : k = ln := by omega
              rw [List.take_of_length_le (by rw [hfl]; exact Nat.le_refl _)] at hJi
              gi_wp2
              go_roundw
              case rel => exact ⟨0 + 1, by omega, by go_num, by exact hJi, hki⟩
              case measure => simp [intOf]
        · have hixr := ixk hix hkb (fun k hk => (hkm k (.inl hk)).trans (hW k hk))
          obtain ⟨kl, hkl⟩ := Option.isSome_iff_exists.1 (key_some (-1) (a.filt) (wf_small (by omega)) (wf_small (by omega)))
          obtain ⟨Ag, cg, hv, hown⟩ := hix.row (-1, a.filt)
          dsimp only at hv hown
          have hlk : (Instr.lookup 77 (.map (some m)) (.agg #[.int .i64 (-1), .int .i64 (a.filt)]) false).run Tryz.prog wr = .ok (.slice Ag (idxs subs (-1) (a.filt)).length cg) wr := by
            rw [← hv]
            exact hixr.map.lookup keyed37 Tryz.underlying77 (zero_ints wr) (-1, a.filt) hkl
          have x0 : wr.cell? ⟨Bx, 0, none⟩ = some (.pointer (some ⟨p, 0, none⟩)) := (World.cell?_of_block (a := ⟨Bx, 0, none⟩) (hkm Bx (.inr (.inr rfl)))).trans (hBx.cell 0)
          have p0 : wr.cell? ⟨p, 0, none⟩ = some (.map (some m)) := hixr.blk.cell 0
          have hil : (idxs subs (-1) (a.filt)).length ≤ 1000 := Nat.le_trans (idxs_len _ _ _) hsl
          have hfl := idxF_len subs (-1) (a.filt)
          have HFN := hide (fun (k : Nat) (h : k < (idxF subs (-1) (a.filt)).length) => idxF_nth h)
          have HOWN := hide hown
          obtain ⟨ln, hln⟩ : ∃ ln, ln = (idxs subs (-1) (a.filt)).length := ⟨_, rfl⟩
          rw [← hln] at hil hfl hlk
          have HLN := hide hln
          clear hown hv hln
          gi_wp2
          clear hlk hkl x0 p0
          gi_loopw [9, 31] (fun t9 t31 wi => ∃ k : Nat, k ≤ ln ∧ t31 = .int .i64 k ∧ J (prefL subs a 1 ++ (idxF subs (-1) (a.filt)).take k) wi ∧ Kp37 w0.heap.size Ba Bx W wi) (fun _ t31 _ => ln - (intOf t31).toNat)
          case atStart => exact ⟨0, Nat.zero_le _, rfl, by simpa using hJm, hkm⟩
          case round =>
            clear hJm
            obtain ⟨k, hk, rfl, hJi, hki⟩ := hrel
            by_cases hlt : k < ln
            · have hkf : k < (idxF subs (-1) (a.filt)).length := by rw [hfl]; exact hlt
              obtain ⟨g, rfl, hgb, hgl, hgc, _⟩ := Own.at_ HOWN.out (k := k) (by rw [← HLN.out]; exact hlt)
              have hcell : wr.cell? ⟨g, k, none⟩ = some (.int .i64 (finI ((idxF subs (-1) (a.filt))[k]))) := by
                rw [← HFN.out k hkf]
                exact ((World.cell?_of_block (a := ⟨g, k, none⟩) ((hki g (.inl hgl)).trans (hW g hgl))).trans hgc).trans (ints_get (by rw [← HLN.out]; exact hlt))
              have htk := takeF hkf
              generalize (idxF subs (-1) (a.filt))[k] = x at hcell htk
              have hcat : ∃ rest, prefL subs a 1 ++ (idxF subs (-1) (a.filt)).take k ++ [x] ++ rest = catF subs a := by
                rw [List.append_assoc (prefL subs a 1), ← htk]
                exact pref_take subs a 1 (k + 1) (by omega)
              obtain ⟨rest, hrest⟩ := hcat
              obtain ⟨fn, tmps, assign, body, hy, hR⟩ := hY _ x wr hJi (by rw [← hrest]; simp)
              gi_wp2
              refine hR.mono ?_
              rintro e W3 (⟨rfl, hJ3, hk3⟩ | ⟨rfl, hJx3⟩)
              · gi_wp2
                go_roundw
                case rel => (repeat apply Exists.intro); exact ⟨⟨k + 1, by omega, by go_num, by rw [htk, ← List.append_assoc]; exact hJ3, hki.trans hk3⟩, rfl⟩
                case measure => simp [intOf]; omega
              · gi_wp2
                refine bodyPost_ret (results_none rfl _ _ _) rfl ?_
                exact ⟨⟨_, rfl⟩, .inr ⟨_, ⟨rest, hrest⟩, hJx3⟩⟩
            · obtain rfl : k = ln := by omega
              rw [List.take_of_length_le (by rw [hfl]; exact Nat.le_refl _)] at hJi
              gi_wp2
              go_roundw
              case rel => exact ⟨1 + 1, by omega, by go_num, by exact hJi, hki⟩
              case measure => simp [intOf]
        · gi_wp2
          go_roundw
          case rel => exact ⟨0 + 1, by omega, by go_num, by exact hJm, hkm⟩
          case measure => simp [intOf]
    · gi_wp2
      gi_loopw [7, 9, 19] (fun t7 t9 t19 wr => ∃ j : Nat, j ≤ 2 ∧ t19 = .int .i64 j ∧ J (prefL subs a (2 + j)) wr ∧ Kp37 w0.heap.size Ba Bx W wr) (fun _ _ t19 _ => 2 - (intOf t19).toNat)
      case atStart => exact ⟨0, by omega, rfl, hJo, hko⟩
      case round =>
        clear hJo a0 a2
        obtain ⟨j, hj, rfl, hJm, hkm⟩ := hrel
        obtain rfl | rfl | rfl : j = 0 ∨ j = 1 ∨ j = 2 := by omega
        · have hixr := ixk hix hkb (fun k hk => (hkm k (.inl hk)).trans (hW k hk))
          obtain ⟨kl, hkl⟩ := Option.isSome_iff_exists.1 (key_some (a.tile) (-1) (wf_small (by omega)) (wf_small (by omega)))
          obtain ⟨Ag, cg, hv, hown⟩ := hix.row (a.tile, -1)
          dsimp only at hv hown
          have hlk : (Instr.lookup 77 (.map (some m)) (.agg #[.int .i64 (a.tile), .int .i64 (-1)]) false).run Tryz.prog wr = .ok (.slice Ag (idxs subs (a.tile) (-1)).length cg) wr := by
            rw [← hv]
            exact hixr.map.lookup keyed37 Tryz.underlying77 (zero_ints wr) (a.tile, -1) hkl
          have x0 : wr.cell? ⟨Bx, 0, none⟩ = some (.pointer (some ⟨p, 0, none⟩)) := (World.cell?_of_block (a := ⟨Bx, 0, none⟩) (hkm Bx (.inr (.inr rfl)))).trans (hBx.cell 0)
          have p0 : wr.cell? ⟨p, 0, none⟩ = some (.map (some m)) := hixr.blk.cell 0
          have hil : (idxs subs (a.tile) (-1)).length ≤ 1000 := Nat.le_trans (idxs_len _ _ _) hsl
          have hfl := idxF_len subs (a.tile) (-1)
          have HFN := hide (fun (k : Nat) (h : k < (idxF subs (a.tile) (-1)).length) => idxF_nth h)
          have HOWN := hide hown
          obtain ⟨ln, hln⟩ : ∃ ln, ln = (idxs subs (a.tile) (-1)).length := ⟨_, rfl⟩
          rw [← hln] at hil hfl hlk
          have HLN := hide hln
          clear hown hv hln
          gi_wp2
          clear hlk hkl x0 p0
          gi_loopw [9, 31] (fun t9 t31 wi => ∃ k : Nat, k ≤ ln ∧ t31 = .int .i64 k ∧ J (prefL subs a 2 ++ (idxF subs (a.tile) (-1)).take k) wi ∧ Kp37 w0.heap.size Ba Bx W wi) (fun _ t31 _ => ln - (intOf t31).toNat)
          case atStart => exact ⟨0, Nat.zero_le _, rfl, by simpa using hJm, hkm⟩
          case round =>
            clear hJm
            obtain ⟨k, hk, rfl, hJi, hki⟩ := hrel
            by_cases hlt : k < ln
            · have hkf : k < (idxF subs (a.tile) (-1)).length := by rw [hfl]; exact hlt
              obtain ⟨g, rfl, hgb, hgl, hgc, _⟩ := Own.at_ HOWN.out (k := k) (by rw [← HLN.out]; exact hlt)
              have hcell : wr.cell? ⟨g, k, none⟩ = some (.int .i64 (finI ((idxF subs (a.tile) (-1))[k]))) := by
                rw [← HFN.out k hkf]
                exact ((World.cell?_of_block (a := ⟨g, k, none⟩) ((hki g (.inl hgl)).trans (hW g hgl))).trans hgc).trans (ints_get (by rw [← HLN.out]; exact hlt))
              have htk := takeF hkf
              generalize (idxF subs (a.tile) (-1))[k] = x at hcell htk
              have hcat : ∃ rest, prefL subs a 2 ++ (idxF subs (a.tile) (-1)).take k ++ [x] ++ rest = catF subs a := by
                rw [List.append_assoc (prefL subs a 2), ← htk]
                exact pref_take subs a 2 (k + 1) (by omega)
              obtain ⟨rest, hrest⟩ := hcat
              obtain ⟨fn, tmps, assign, body, hy, hR⟩ := hY _ x wr hJi (by rw [← hrest]; simp)
              gi_wp2
              refine hR.mono ?_
              rintro e W3 (⟨rfl, hJ3, hk3⟩ | ⟨rfl, hJx3⟩)
              · gi_wp2
                go_roundw
                case rel => (repeat apply Exists.intro); exact ⟨⟨k + 1, by omega, by go_num, by rw [htk, ← List.append_assoc]; exact hJ3, hki.trans hk3⟩, rfl⟩
                case measure => simp [intOf]; omega
              · gi_wp2
                refine bodyPost_ret (results_none rfl _ _ _) rfl ?_
                exact ⟨⟨_, rfl⟩, .inr ⟨_, ⟨rest, hrest⟩, hJx3⟩⟩
            · obtain rfl : k = ln := by omega
              rw [List.take_of_length_le (by rw [hfl]; exact Nat.le_refl _)] at hJi
              gi_wp2
              go_roundw
              case rel => exact ⟨0 + 1, by omega, by go_num, by exact hJi, hki⟩
              case measure => simp [intOf]
        · have hixr := ixk hix hkb (fun k hk => (hkm k (.inl hk)).trans (hW k hk))
          obtain ⟨kl, hkl⟩ := Option.isSome_iff_exists.1 (key_some (a.tile) (a.filt) (wf_small (by omega)) (wf_small (by omega)))
          obtain ⟨Ag, cg, hv, hown⟩ := hix.row (a.tile, a.filt)
          dsimp only at hv hown
          have hlk : (Instr.lookup 77 (.map (some m)) (.agg #[.int .i64 (a.tile), .int .i64 (a.filt)]) false).run Tryz.prog wr = .ok (.slice Ag (idxs subs (a.tile) (a.filt)).length cg) wr := by
            rw [← hv]
            exact hixr.map.lookup keyed37 Tryz.underlying77 (zero_ints wr) (a.tile, a.filt) hkl
          have x0 : wr.cell? ⟨Bx, 0, none⟩ = some (.pointer (some ⟨p, 0, none⟩)) := (World.cell?_of_block (a := ⟨Bx, 0, none⟩) (hkm Bx (.inr (.inr rfl)))).trans (hBx.cell 0)
          have p0 : wr.cell? ⟨p, 0, none⟩ = some (.map (some m)) := hixr.blk.cell 0
          have hil : (idxs subs (a.tile) (a.filt)).length ≤ 1000 := Nat.le_trans (idxs_len _ _ _) hsl
          have hfl := idxF_len subs (a.tile) (a.filt)
          have HFN := hide (fun (k : Nat) (h : k < (idxF subs (a.tile) (a.filt)).length) => idxF_nth h)
          have HOWN := hide hown
          obtain ⟨ln, hln⟩ : ∃ ln, ln = (idxs subs (a.tile) (a.filt)).length := ⟨_, rfl⟩
          rw [← hln] at hil hfl hlk
          have HLN := hide hln
          clear hown hv hln
          gi_wp2
          clear hlk hkl x0 p0
          gi_loopw [9, 31] (fun t9 t31 wi => ∃ k : Nat, k ≤ ln ∧ t31 = .int .i64 k ∧ J (prefL subs a 3 ++ (idxF subs (a.tile) (a.filt)).take k) wi ∧ Kp37 w0.heap.size Ba Bx W wi) (fun _ t31 _ => ln - (intOf t31).toNat)
          case atStart => exact ⟨0, Nat.zero_le _, rfl, by simpa using hJm, hkm⟩
          case round =>
            clear hJm
            obtain ⟨k, hk, rfl, hJi, hki⟩ := hrel
            by_cases hlt : k < ln
            · have hkf : k < (idxF subs (a.tile) (a.filt)).length := by rw [hfl]; exact hlt
              obtain ⟨g, rfl, hgb, hgl, hgc, _⟩ := Own.at_ HOWN.out (k := k) (by rw [← HLN.out]; exact hlt)
              have hcell : wr.cell? ⟨g, k, none⟩ = some (.int .i64 (finI ((idxF subs (a.tile) (a.filt))[k]))) := by
                rw [← HFN.out k hkf]
                exact ((World.cell?_of_block (a := ⟨g, k, none⟩) ((hki g (.inl hgl)).trans (hW g hgl))).trans hgc).trans (ints_get (by rw [← HLN.out]; exact hlt))
              have htk := takeF hkf
              generalize (idxF subs (a.tile) (a.filt))[k] = x at hcell htk
              have hcat : ∃ rest, prefL subs a 3 ++ (idxF subs (a.tile) (a.filt)).take k ++ [x] ++ rest = catF subs a := by
                rw [List.append_assoc (prefL subs a 3), ← htk]
                exact pref_take subs a 3 (k + 1) (by omega)
              obtain ⟨rest, hrest⟩ := hcat
              obtain ⟨fn, tmps, assign, body, hy, hR⟩ := hY _ x wr hJi (by rw [← hrest]; simp)
              gi_wp2
              refine hR.mono ?_
              rintro e W3 (⟨rfl, hJ3, hk3⟩ | ⟨rfl, hJx3⟩)
              · gi_wp2
                go_roundw
                case rel => (repeat apply Exists.intro); exact ⟨⟨k + 1, by omega, by go_num, by rw [htk, ← List.append_assoc]; exact hJ3, hki.trans hk3⟩, rfl⟩
                case measure => simp [intOf]; omega
              · gi_wp2
                refine bodyPost_ret (results_none rfl _ _ _) rfl ?_
                exact ⟨⟨_, rfl⟩, .inr ⟨_, ⟨rest, hrest⟩, hJx3⟩⟩
            · obtain rfl : k = ln := by omega
              rw [List.take_of_length_le (by rw [hfl]; exact Nat.le_refl _)] at hJi
              gi_wp2
              go_roundw
              case rel => exact ⟨1 + 1, by omega, by go_num, by exact hJi, hki⟩
              case measure => simp [intOf]
        · gi_wp2
          go_roundw
          case rel => exact ⟨1 + 1, by omega, by go_num, by exact hJm, hkm⟩
          case measure => simp [intOf]
    · gi_wp2
      go_end0
      exact ⟨⟨_, rfl⟩, .inl ⟨_, rfl, by exact hJo⟩⟩
/-- What concerned leaves: the function and its two boxes. -/
theorem conc_in (F : Fence) (n : Nat) (hf : F.fn 55) (hro : F.round = none) (p : Nat) (a : Al) (w : World) :
    CallsIn F n Tryz.prog 55 #[.pointer (some ⟨p, 0, none⟩), .agg a.cells] w fun e w' =>
      e = .returned (.func (.func 107) #[] #[.pointer (some ⟨w.heap.size + 1, 0, none⟩), .pointer (some ⟨w.heap.size, 0, none⟩)]) ∧ w' = (w.alloc (.cells #[.pointer (some ⟨p, 0, none⟩)] 35)).alloc (.cells a.cells 28) := by
  unfold Al.cells
  refine callsIn_of_wp Tryz.func55 rfl hf ?_ hro
  simp only [Tryz.ntmps55, List.size_toArray, List.length_cons, List.length_nil, Nat.reduceAdd, Nat.reduceSub, Array.replicate_succ, Array.replicate_zero, List.push_toArray, List.append_toArray, List.nil_append, List.cons_append]
  gi_wp2
  go_ret
  exact ⟨rfl, rfl⟩
theorem conc_stops (F : Fence) (n : Nat) (hf : F.fn 107) (hro : F.round = none) (hn : 1 ≤ n) (Ba Bx : Nat) (a : Al) (subs : List Sb) (w0 : World) (base kb p m : Nat) (Ar : Option Addr) (cr : Nat) (V : Int × Int → Value) (kss : List (Option Addr × Nat))
    (hix : IxIn w0 base kb p m Ar cr V kss subs subs) (hkb : kb ≤ w0.heap.size) (ha1 : 0 ≤ a.tile ∧ a.tile ≤ 511) (ha2 : 0 ≤ a.filt ∧ a.filt ≤ 7) (hsl : subs.length ≤ 1000) (w : World)
    (hw0 : w0.heap.size ≤ w.heap.size) (hw : ∀ k, k < w0.heap.size → w.heap[k]? = w0.heap[k]?) (hBa : Blk w Ba 28 a.cells) (hBx : Blk w Bx 35 #[.pointer (some ⟨p, 0, none⟩)]) :
    SeqStopsK F n Tryz.prog 107 #[.pointer (some ⟨Ba, 0, none⟩), .pointer (some ⟨Bx, 0, none⟩)] (fun x : Fin subs.length => #[.int .i64 (finI x)]) (Kp37 w0.heap.size Ba Bx) (fun ys => ys = catF subs a) (fun pre => pre <+: catF subs a) (catF subs a).length w := fun l J Jx W hW _ _ hY h0 =>
  conc1_in F n hf hro hn l Ba Bx a subs w0 base kb p m Ar cr V kss hix hkb ha1 ha2 hsl J Jx hY W (fun k hk => (hW.block k (by omega)).trans (hw k hk)) (hBa.below hW hBa.lt) (hBx.below hW hBx.lt) h0
end Go.Proofs.YtkomgidcgepknaaGreatDoor

set_option linter.unusedVariables false
set_option linter.unusedSimpArgs false
namespace Go.Proofs.YtkomgidcgepknaaGreatDoor
open Go.RowKit Go.Deep Go.Maps Go.Shelf

def noDefer (ops : Array Oper) : Bool := ops.all fun o => match o.op with | .defer _ => false | _ => true
theorem noDefer_spec {ops : Array Oper} (h : noDefer ops = true) : ∀ (i : Nat) (o : Oper), ops[i]? = some o → ∀ c, o.op ≠ .defer c := by
  intro i o ho c hc
  unfold noDefer at h
  rw [Array.all_eq_true] at h
  obtain ⟨hi, he⟩ := Array.getElem?_eq_some_iff.1 ho
  have := h i hi
  rw [he, hc] at this
  cases this
theorem op_round {P : Program} {l n : Nat} {o : Oper} {a : Act} {w : World} {K : Act → World → Prop} {Q : Exit → Act → World → Prop} (hd : ∀ c, o.op ≠ .defer c) (h : Oper.wp P o a w K Q) : Oper.wpIn (Fence.wide.inRound l) n P o a w K Q := by
  refine ⟨fun _ _ => trivial, ?_⟩
  rw [Oper.semAt_eq _ _ _ hd]
  unfold Oper.wp at h
  cases hr : (execOp a.eval o).run P w with
  | ok v w' =>
    rw [hr] at h
    cases v with
    | value v => exact h
    | skip => exact h
    | defer d => exact h
    | enter f args => exact ⟨(fun e => by cases e), CallsIn.inRound l (callsIn_wide.2 h)⟩
    | row row args => exact ⟨(fun e => by cases e), fun c cs _ => let ⟨v, w', r, s⟩ := h c cs; ⟨v, w', r, stepsIn_wide.2 s⟩⟩
    | round l' f tmps assign body => exact h.elim
    | _ => exact h.elim
  | halt s w' =>
    rw [hr] at h
    cases s with
    | panic v => exact h
    | _ => exact h.elim
theorem any_round {P : Program} {l n : Nat} {ops : Array Oper} {Q : Exit → Act → World → Prop} (hd : ∀ (i : Nat) (o : Oper), ops[i]? = some o → ∀ c, o.op ≠ .defer c) (hno : ¬ LetsOut Q) :
    ∀ (fuel : Nat) (listed : Array Bool) (a : Act) (w : World), wpAny P .any ops Q fuel listed a w → wpAnyIn (Fence.wide.inRound l) n P .any ops Q fuel listed a w
  | 0, _, _, _, h => h
  | fuel + 1, listed, a, w, h => ⟨h.1, fun i hi => by
    have h2 := h.2 i hi
    unfold wpOp at h2
    unfold wpOpIn
    cases ho : ops[i]? with
    | none =>
      simp only [ho] at h2 ⊢
      exact any_round hd hno fuel _ _ _ h2
    | some o =>
      simp only [ho] at h2 ⊢
      split
      · rename_i hw
        simp only [hw, if_true] at h2
        rcases h2 with h2 | h2
        · exact op_round (hd i o ho) (Oper.wp_mono (fun a w h => any_round hd hno fuel _ a w h) h2)
        · exact absurd h2.2 hno
      · rename_i hw
        simp only [hw] at h2
        exact ⟨fun _ _ => trivial, any_round hd hno fuel _ _ _ h2⟩⟩
theorem region_round {P : Program} {l n id : Nat} {ops : Array Oper} {Q : Exit → Act → World → Prop} {a : Act} {w : World} (hm : P.follows .mixedOrders = true) (hd : ∀ (i : Nat) (o : Oper), ops[i]? = some o → ∀ c, o.op ≠ .defer c) (hno : ¬ LetsOut Q) (S : World → Prop)
    (hS : S w.drew) (h : S w.drew → wpAnyH P .any ops Q S ops.size (Array.replicate ops.size false) a w.drew) : (Code.region id ops true).wpIn (Fence.wide.inRound l) n P Q a w :=
  wpIn_region_any hm (any_round hd hno _ _ _ _ (wpAny_of_held _ _ _ _ (h hS)))
end Go.Proofs.YtkomgidcgepknaaGreatDoor

set_option linter.unusedVariables false
set_option linter.unusedSimpArgs false
namespace Go.Proofs.YtkomgidcgepknaaGreatDoor
open Go.RowKit Go.Deep Go.Maps Go.Shelf
attribute [local go_sem] Oper.semAt_some

def srt (zs : List Int) : List Int := zs.mergeSort fun x y => decide (x ≤ y)
theorem srt_len (zs : List Int) : (srt zs).length = zs.length := List.length_mergeSort _
theorem sort_own (A : Option Addr) (c : Nat) (zs : List Int) (base : Nat) (w : World) (h : Own w base 3 1 A zs.length c (ints zs)) (hl : zs.length ≤ 100000) :
    Calls Tryz.prog 56 #[.slice A zs.length c] w fun e w' => e = .returned (.tuple #[]) ∧ Own w' base 3 1 A zs.length c (ints (srt zs)) ∧ w.grownBy w' (Value.slice A zs.length c).ownBlock := by
  by_cases hz : zs = []
  · subst hz
    refine (Tryz.slices_Sort_int_none A c w).mono ?_
    rintro e w' ⟨rfl, rfl⟩
    have h0 : srt [] = [] := by simp [srt]
    exact ⟨rfl, by rw [h0]; exact h, ⟨rfl, rfl, rfl, Nat.le_refl _, fun _ _ _ => rfl⟩⟩
  · have hpos : zs.length ≠ 0 := fun h0 => hz (List.eq_nil_of_length_eq_zero h0)
    obtain ⟨g, cap, hv, hg, hgl, hnc, hcm, hzl, hH⟩ := Lib.holds_of_ownsRow (enc := Value.int .i64) h (by intro h0; injection h0 with _ h0 _; exact hpos h0)
    injection hv with e1 _ e3
    subst e1 e3
    obtain ⟨cur, hcur, hcs⟩ : ∃ cur, w.heap[g]? = some (.cells cur 3 (0, 0)) ∧ cur.size = c * 1 := by
      rcases h.2 with ⟨e0, _⟩ | ⟨g', cap', cur, e0, _, hgg, _, _, hs, _⟩
      · cases e0
      · injection e0 with e1 _ e3
        injection e1 with e1
        injection e1 with e1
        subst e1 e3
        exact ⟨cur, hgg, hs⟩
    refine (Tryz.slices_Sort_int g 0 c zs w hH hgl (by omega)).mono ?_
    rintro e w' ⟨rfl, n, os, rfl⟩
    refine ⟨rfl, ?_, ?_⟩
    · exact ownsRow_sorted_i (srt_len zs) hg hcur hnc hcm hcs
    · exact grownBy_sorted_i _
/-- The matches, sorted. -/
def matchL (subs : List Sb) (a : Al) : List Int := srt ((catL37 subs a).filter (hitL subs a))
/-- What the loop over the subscriptions keeps. -/
structure Mt37 (w wS : World) (bo bn cnt : Nat) (hs : List Int) (W : World) : Prop where
  out : ∃ Av cv, Blk W bo 31 #[.slice Av hs.length cv] ∧ Own W wS.heap.size 3 1 Av hs.length cv (ints hs)
  num : Blk W bn 3 #[.int .i64 (cnt : Int)]
  keep : ∀ k, k < wS.heap.size → k ≠ bo → k ≠ bn → W.heap[k]? = wS.heap[k]?
  bel : Below w.heap.size w W
  size : wS.heap.size ≤ W.heap.size
theorem Mt37.turn {w wS W W' : World} {bo bn cnt : Nat} {hs : List Int} {row : Option Nat} (h : Mt37 w wS bo bn cnt hs W) (hbo : bo < wS.heap.size) (hbn : bn < wS.heap.size) (hwS : w.heap.size ≤ wS.heap.size) (hg : W.grownBy W' row)
    (hr : ∀ r, row = some r → wS.heap.size ≤ r ∧ ∃ o : Obj, W.heap[r]? = some o ∧ o.isCells = false) : Mt37 w wS bo bn cnt hs W' := by
  have hs := h.size
  have ne : ∀ k, k < wS.heap.size → some k ≠ row := fun k hk e => by
    have := (hr k e.symm).1; omega
  obtain ⟨Av, cv, h1, h2⟩ := h.out
  refine ⟨⟨Av, cv, (hg.block bo (by omega) (ne bo hbo)).trans h1, h2.keepC (fun g hgb hgo => ?_)⟩, (hg.block bn (by omega) (ne bn hbn)).trans h.num, fun k hk h3 h4 => (hg.block k (by omega) (ne k hk)).trans (h.keep k hk h3 h4), h.bel.grown hg h.bel.size (fun k e => Nat.le_trans hwS (hr k e).1), Nat.le_trans hs hg.size⟩
  refine hg.block g (World.ownsRow.lt h2 g hgo).2 (fun e => ?_)
  obtain ⟨o, ho, hc⟩ := (hr g e.symm).2
  obtain ⟨cs, fr, hb⟩ := Own.blk h2 hgo
  rw [hb] at ho
  injection ho with ho
  subst ho
  cases hc
section
variable {w wS W W' : World} {bo bn cnt : Nat} {hs : List Int}
theorem Mt37.count (h : Mt37 w wS bo bn cnt hs W) (hne : bo ≠ bn) (hbn : bn < wS.heap.size) (hw : w.heap.size ≤ bn) : Mt37 w wS bo bn (cnt + 1) hs (W.setCell ⟨bn, 0, none⟩ (.int .i64 ((cnt : Int) + 1))) := by
  obtain ⟨Av, cv, h1, h2⟩ := h.out
  refine ⟨⟨Av, cv, h1.far (p := ⟨bn, 0, none⟩) hne _, h2.keepC (fun g hgb _ => Below.heap_setCell W ⟨bn, 0, none⟩ _ g (by show g ≠ bn; omega))⟩, ?_, fun k hk h3 h4 => (Below.heap_setCell W ⟨bn, 0, none⟩ _ k h4).trans (h.keep k hk h3 h4), h.bel.setCell (p := ⟨bn, 0, none⟩) hw _, by simpa using h.size⟩
  have := h.num.set_ 0 (.int .i64 ((cnt : Int) + 1))
  exact this
theorem Mt37.below (h : Mt37 w wS bo bn cnt hs W) (hbo : bo < wS.heap.size) (hbn : bn < wS.heap.size) (hb : Below W.heap.size W W') : Mt37 w wS bo bn cnt hs W' := by
  have hz := h.size
  obtain ⟨Av, cv, h1, h2⟩ := h.out
  exact ⟨⟨Av, cv, h1.below hb (by omega), h2.below hb⟩, h.num.below hb (by omega), fun k hk h3 h4 => (hb.block k (by omega)).trans (h.keep k hk h3 h4), h.bel.trans (hb.mono h.bel.size), Nat.le_trans hz hb.size⟩
theorem Mt37.push {w9 : World} {x : Int} {Av A9 : Option Addr} {cv c9 : Nat} (h : Mt37 w wS bo bn cnt hs W) (hne : bo ≠ bn) (hbo : bo < wS.heap.size) (hbn : bn < wS.heap.size) (hw : w.heap.size ≤ bo) (hwS : w.heap.size ≤ wS.heap.size)
    (h1 : Blk W bo 31 #[.slice Av hs.length cv]) (h2 : Own W wS.heap.size 3 1 Av hs.length cv (ints hs)) (X : Obj)
    (hown : Own w9 wS.heap.size 3 1 A9 (hs.length + 1) c9 (ints hs ++ [.int .i64 x])) (hg : (W.alloc X).grownBy w9 (Value.slice Av hs.length cv).ownBlock) :
    Blk w9 bo 31 #[.slice Av hs.length cv] ∧ Mt37 w wS bo bn cnt (hs ++ [x]) (w9.setCell ⟨bo, 0, none⟩ (.slice A9 (hs.length + 1) c9)) ∧
    (∀ k, k < W.heap.size → k ≠ bo → some k ≠ (Value.slice Av hs.length cv).ownBlock → (w9.setCell ⟨bo, 0, none⟩ (.slice A9 (hs.length + 1) c9)).heap[k]? = W.heap[k]?) ∧ W.heap.size ≤ (w9.setCell ⟨bo, 0, none⟩ (.slice A9 (hs.length + 1) c9)).heap.size := by
  have hz := h.size
  have hza : (W.alloc X).heap.size = W.heap.size + 1 := World.size_alloc _ _
  have hrow : ∀ g, (Value.slice Av hs.length cv).ownBlock = some g → wS.heap.size ≤ g := fun g hg => (World.ownsRow.lt h2 g hg).1
  have K : ∀ k, k < W.heap.size → some k ≠ (Value.slice Av hs.length cv).ownBlock → w9.heap[k]? = W.heap[k]? := fun k hk hn => (hg.block k (by omega) hn).trans (Below.heap_alloc W X k hk)
  have ne : ∀ k, k < wS.heap.size → some k ≠ (Value.slice Av hs.length cv).ownBlock := fun k hk e => by have := hrow k e.symm; omega
  have K2 : ∀ k, k < W.heap.size → k ≠ bo → some k ≠ (Value.slice Av hs.length cv).ownBlock → (w9.setCell ⟨bo, 0, none⟩ (.slice A9 (hs.length + 1) c9)).heap[k]? = W.heap[k]? := fun k hk hb hn => (Below.heap_setCell w9 ⟨bo, 0, none⟩ _ k hb).trans (K k hk hn)
  have b9 : Blk w9 bo 31 #[.slice Av hs.length cv] := (K bo (by omega) (ne bo hbo)).trans h1
  have hz9 : W.heap.size ≤ w9.heap.size := by have := hg.size; omega
  have hl : (hs ++ [x]).length = hs.length + 1 := by simp
  refine ⟨b9, ⟨⟨A9, c9, ?_, ?_⟩, (K2 bn (by omega) (Ne.symm hne) (ne bn hbn)).trans h.num, fun k hk h3 h4 => (K2 k (by omega) h3 (ne k hk)).trans (h.keep k hk h3 h4), ?_, ?_⟩, K2, by simpa using hz9⟩
  · rw [hl]
    have := b9.set_ 0 (.slice A9 (hs.length + 1) c9)
    exact this
  · rw [hl, ints_append]
    exact Own.keepC hown (fun g hgb _ => Below.heap_setCell w9 ⟨bo, 0, none⟩ _ g (by show g ≠ bo; omega))
  · refine Below.setCell ?_ (p := ⟨bo, 0, none⟩) hw _
    exact (h.bel.alloc h.bel.size X).grown hg (by rw [hza]; have := h.bel.size; omega) (fun k e => by have := hrow k e; omega)
  · simp; omega
/-- What a round leaves as it was. -/
theorem Mt37.kf (h : Mt37 w wS bo bn cnt hs W) {Av : Option Addr} {cv : Nat} (h1 : Blk W bo 31 #[.slice Av hs.length cv]) (h2 : Own W wS.heap.size 3 1 Av hs.length cv (ints hs)) (hz : W.heap.size ≤ W'.heap.size)
    (hk : ∀ k, k < W.heap.size → k ≠ bo → k ≠ bn → some k ≠ (Value.slice Av hs.length cv).ownBlock → W'.heap[k]? = W.heap[k]?) (B : Nat) : KeepsFrom B W W' := by
  refine ⟨hz, fun k o _ ho hc => (hk k (Array.getElem?_eq_some_iff.1 ho).1 ?_ ?_ ?_).trans ho⟩
  · rintro rfl
    unfold Blk at h1
    rw [h1] at ho
    injection ho with ho
    subst ho
    cases hc
  · rintro rfl
    have h3 := h.num
    unfold Blk at h3
    rw [h3] at ho
    injection ho with ho
    subst ho
    cases hc
  · intro e
    obtain ⟨cs, fr, hb⟩ := Own.blk h2 e.symm
    rw [hb] at ho
    injection ho with ho
    subst ho
    cases hc
end
theorem catF_len (l : List Sb) (a : Al) : (catF l a).length ≤ 4 * l.length := by
  unfold catF
  simp only [List.length_append, idxF_len]
  have h1 := idxs_len l (-1) (-1)
  have h2 := idxs_len l (-1) a.filt
  have h3 := idxs_len l a.tile (-1)
  have h4 := idxs_len l a.tile a.filt
  omega
theorem hit_snoc (subs : List Sb) (a : Al) (pre : List (Fin subs.length)) (x : Fin subs.length) : ((pre ++ [x]).map finI).filter (hitL subs a) = (pre.map finI).filter (hitL subs a) ++ if hitL subs a (finI x) = true then [finI x] else [] := by
  rw [List.map_append, List.filter_append]
  congr 1
  show List.filter _ [finI x] = _
  rw [List.filter_cons]
  rfl
theorem vars37_names (a : Al) : ∀ r ∈ vars37 a, r.name.size ≤ maxLen := by
  intro r hr
  simp only [vars37, List.mem_cons, List.not_mem_nil, or_false] at hr
  rcases hr with rfl | rfl | rfl | rfl <;> (dsimp only; decide)
/-- What Match leaves: a row of its own. -/
def MatchPostO (w : World) (subs : List Sb) (a : Al) (e : Ending) (w' : World) : Prop :=
  ∃ A c, e = .returned (.tuple #[.slice A (matchL subs a).length c, .int .i64 ((catL37 subs a).length : Int), .int .i64 0]) ∧ Own w' w.heap.size 3 1 A (matchL subs a).length c (ints (matchL subs a)) ∧ Below w.heap.size w w'
theorem Own.lower37 {w : World} {base base' : Nat} {e : TypeId} {size : Nat} {A : Option Addr} {n c : Nat} {xs : List Value} (h : Own w base e size A n c xs) (hb : base' ≤ base) : Own w base' e size A n c xs := by
  refine ⟨h.1, ?_⟩
  rcases h.2 with h2 | ⟨g, cap, cur, hv, hg, r⟩
  · exact Or.inl h2
  · exact Or.inr ⟨g, cap, cur, hv, Nat.le_trans hb hg, r⟩
/-- What Match leaves. -/
def MatchPost (w : World) (subs : List Sb) (a : Al) (e : Ending) (w' : World) : Prop :=
  ∃ A c, e = .returned (.tuple #[.slice A (matchL subs a).length c, .int .i64 ((catL37 subs a).length : Int), .int .i64 0]) ∧ RI w' w'.heap.size A (matchL subs a).length (matchL subs a) ∧ Below w.heap.size w w'
set_option maxRecDepth 100000 in
set_option maxHeartbeats 8000000 in
theorem imatch_own (p : Nat) (a : Al) (subs : List Sb) (base kb : Nat) (w : World) (hi : IxAt w base kb p subs) (hkb : kb ≤ w.heap.size) (hav : alValid a = true) (hok : SbsOk subs) (hsl : subs.length ≤ 64) :
    Calls Tryz.prog 20 #[.pointer (some ⟨p, 0, none⟩), .agg a.cells] w (MatchPostO w subs a) := by
  obtain ⟨m, Ar, cr, V, kss, hix⟩ := hi
  have ha : (0 ≤ a.tile ∧ a.tile ≤ 511) ∧ (0 ≤ a.filt ∧ a.filt ≤ 7) := by
    have h := hav
    unfold alValid btw at h
    simp only [Bool.and_eq_true, decide_eq_true_eq] at h
    omega
  have HIX := hide hix
  have HAV := hide hav
  have HOK := hide hok
  clear hix hav hok
  refine (callsIn_wide (n := 5)).1 ?_
  refine callsIn_of_wp_marks Tryz.func20 rfl trivial ?_ rfl
  unfold Al.cells
  simp only [Tryz.ntmps20, List.size_toArray, List.length_cons, List.length_nil, Nat.reduceAdd, Nat.reduceSub, Array.replicate_succ, Array.replicate_zero, List.push_toArray, List.append_toArray, List.nil_append, List.cons_append]
  have hbA : Below w.heap.size w ((w.alloc (Obj.cells #[.pointer (some ⟨p, 0, none⟩)] 35)).alloc (Obj.cells #[.int .i64 a.tile, .int .i64 a.cell, .int .i64 a.filt, .int .i64 a.val, .int .i64 a.mom] 28)) := ((Below.refl _ _).alloc (Nat.le_refl _) _).alloc (by simp) _
  have hqx : Blk ((w.alloc (Obj.cells #[.pointer (some ⟨p, 0, none⟩)] 35)).alloc (Obj.cells #[.int .i64 a.tile, .int .i64 a.cell, .int .i64 a.filt, .int .i64 a.val, .int .i64 a.mom] 28)) w.heap.size 35 #[.pointer (some ⟨p, 0, none⟩)] := (Blk.new _ _ _).alloc _
  have hqa : Blk ((w.alloc (Obj.cells #[.pointer (some ⟨p, 0, none⟩)] 35)).alloc (Obj.cells #[.int .i64 a.tile, .int .i64 a.cell, .int .i64 a.filt, .int .i64 a.val, .int .i64 a.mom] 28)) (w.heap.size + 1) 28 #[.int .i64 a.tile, .int .i64 a.cell, .int .i64 a.filt, .int .i64 a.val, .int .i64 a.mom] := by
    have h := Blk.new (w.alloc (Obj.cells #[.pointer (some ⟨p, 0, none⟩)] 35)) 28 #[.int .i64 a.tile, .int .i64 a.cell, .int .i64 a.filt, .int .i64 a.val, .int .i64 a.mom]
    rw [World.size_alloc] at h
    exact h
  gi_wp2
  generalize ((w.alloc (Obj.cells #[.pointer (some ⟨p, 0, none⟩)] 35)).alloc (Obj.cells #[.int .i64 a.tile, .int .i64 a.cell, .int .i64 a.filt, .int .i64 a.val, .int .i64 a.mom] 28)) = wA at hbA hqx hqa ⊢
  refine ⟨trivial, ?_⟩
  refine (callsIn_wide.2 (alert_any a wA)).mono ?_
  rintro e w1 ⟨rfl, hb1⟩
  rw [HAV.out]
  have HQX := hide (hqx.below hb1 hqx.lt)
  have HQA := hide (hqa.below hb1 hqa.lt)
  have HB1 := hide (hbA.trans (hb1.mono hbA.size))
  obtain ⟨qx, hqxe⟩ : ∃ qx, qx = w.heap.size := ⟨_, rfl⟩
  obtain ⟨qa, hqae⟩ : ∃ qa, qa = w.heap.size + 1 := ⟨_, rfl⟩
  have HQL : Hid (w.heap.size ≤ qx ∧ w.heap.size ≤ qa) := hide ⟨by omega, by omega⟩
  rw [← hqae] at HQA ⊢
  rw [← hqxe] at HQX ⊢
  clear hbA hqx hqa hb1 hqxe hqae
  have x0 : w1.cell? ⟨qx, 0, none⟩ = some (.pointer (some ⟨p, 0, none⟩)) := HQX.out.cell 0
  have a0 : w1.cell? ⟨qa, 0, none⟩ = some (.int .i64 a.tile) := HQA.out.cell 0
  have a1 : w1.cell? ⟨qa, 1, none⟩ = some (.int .i64 a.cell) := HQA.out.cell 1
  have a2 : w1.cell? ⟨qa, 2, none⟩ = some (.int .i64 a.filt) := HQA.out.cell 2
  have a3 : w1.cell? ⟨qa, 3, none⟩ = some (.int .i64 a.val) := HQA.out.cell 3
  have a4 : w1.cell? ⟨qa, 4, none⟩ = some (.int .i64 a.mom) := HQA.out.cell 4
  have hb4 : Below w1.heap.size w1 ((((w1.alloc (Obj.cells #[.string ⟨#[118, 97, 108, 117, 101]⟩, .int .i64 a.val, .string ⟨#[99, 101, 108, 108]⟩, .int .i64 a.cell, .string ⟨#[116, 105, 108, 101]⟩, .int .i64 a.tile, .string ⟨#[102, 105, 108, 116, 101, 114]⟩, .int .i64 a.filt] 46)).alloc (Obj.cells #[.slice (some ⟨w1.heap.size, 0, none⟩) 4 4] 47)).alloc (Obj.cells #[.slice none 0 0] 31)).alloc (Obj.cells #[.int .i64 0] 3)) := ((((Below.refl _ _).alloc (Nat.le_refl _) _).alloc (by simp) _).alloc (by simp; omega) _).alloc (by simp; omega) _
  have hv0 : Blk ((((w1.alloc (Obj.cells #[.string ⟨#[118, 97, 108, 117, 101]⟩, .int .i64 a.val, .string ⟨#[99, 101, 108, 108]⟩, .int .i64 a.cell, .string ⟨#[116, 105, 108, 101]⟩, .int .i64 a.tile, .string ⟨#[102, 105, 108, 116, 101, 114]⟩, .int .i64 a.filt] 46)).alloc (Obj.cells #[.slice (some ⟨w1.heap.size, 0, none⟩) 4 4] 47)).alloc (Obj.cells #[.slice none 0 0] 31)).alloc (Obj.cells #[.int .i64 0] 3)) w1.heap.size 46 #[.string ⟨#[118, 97, 108, 117, 101]⟩, .int .i64 a.val, .string ⟨#[99, 101, 108, 108]⟩, .int .i64 a.cell, .string ⟨#[116, 105, 108, 101]⟩, .int .i64 a.tile, .string ⟨#[102, 105, 108, 116, 101, 114]⟩, .int .i64 a.filt] := (((Blk.new _ _ _).alloc _).alloc _).alloc _
  have hv1 : Blk ((((w1.alloc (Obj.cells #[.string ⟨#[118, 97, 108, 117, 101]⟩, .int .i64 a.val, .string ⟨#[99, 101, 108, 108]⟩, .int .i64 a.cell, .string ⟨#[116, 105, 108, 101]⟩, .int .i64 a.tile, .string ⟨#[102, 105, 108, 116, 101, 114]⟩, .int .i64 a.filt] 46)).alloc (Obj.cells #[.slice (some ⟨w1.heap.size, 0, none⟩) 4 4] 47)).alloc (Obj.cells #[.slice none 0 0] 31)).alloc (Obj.cells #[.int .i64 0] 3)) (w1.heap.size + 1) 47 #[.slice (some ⟨w1.heap.size, 0, none⟩) 4 4] := by
    have h := Blk.new (w1.alloc (Obj.cells #[.string ⟨#[118, 97, 108, 117, 101]⟩, .int .i64 a.val, .string ⟨#[99, 101, 108, 108]⟩, .int .i64 a.cell, .string ⟨#[116, 105, 108, 101]⟩, .int .i64 a.tile, .string ⟨#[102, 105, 108, 116, 101, 114]⟩, .int .i64 a.filt] 46)) 47 #[.slice (some ⟨w1.heap.size, 0, none⟩) 4 4]
    rw [World.size_alloc] at h
    exact (h.alloc _).alloc _
  have hv2 : Blk ((((w1.alloc (Obj.cells #[.string ⟨#[118, 97, 108, 117, 101]⟩, .int .i64 a.val, .string ⟨#[99, 101, 108, 108]⟩, .int .i64 a.cell, .string ⟨#[116, 105, 108, 101]⟩, .int .i64 a.tile, .string ⟨#[102, 105, 108, 116, 101, 114]⟩, .int .i64 a.filt] 46)).alloc (Obj.cells #[.slice (some ⟨w1.heap.size, 0, none⟩) 4 4] 47)).alloc (Obj.cells #[.slice none 0 0] 31)).alloc (Obj.cells #[.int .i64 0] 3)) (w1.heap.size + 1 + 1) 31 #[.slice none 0 0] := by
    have h := Blk.new ((w1.alloc (Obj.cells #[.string ⟨#[118, 97, 108, 117, 101]⟩, .int .i64 a.val, .string ⟨#[99, 101, 108, 108]⟩, .int .i64 a.cell, .string ⟨#[116, 105, 108, 101]⟩, .int .i64 a.tile, .string ⟨#[102, 105, 108, 116, 101, 114]⟩, .int .i64 a.filt] 46)).alloc (Obj.cells #[.slice (some ⟨w1.heap.size, 0, none⟩) 4 4] 47)) 31 #[.slice none 0 0]
    rw [World.size_alloc, World.size_alloc] at h
    exact h.alloc _
  have hv3 : Blk ((((w1.alloc (Obj.cells #[.string ⟨#[118, 97, 108, 117, 101]⟩, .int .i64 a.val, .string ⟨#[99, 101, 108, 108]⟩, .int .i64 a.cell, .string ⟨#[116, 105, 108, 101]⟩, .int .i64 a.tile, .string ⟨#[102, 105, 108, 116, 101, 114]⟩, .int .i64 a.filt] 46)).alloc (Obj.cells #[.slice (some ⟨w1.heap.size, 0, none⟩) 4 4] 47)).alloc (Obj.cells #[.slice none 0 0] 31)).alloc (Obj.cells #[.int .i64 0] 3)) (w1.heap.size + 1 + 1 + 1) 3 #[.int .i64 0] := by
    have h := Blk.new (((w1.alloc (Obj.cells #[.string ⟨#[118, 97, 108, 117, 101]⟩, .int .i64 a.val, .string ⟨#[99, 101, 108, 108]⟩, .int .i64 a.cell, .string ⟨#[116, 105, 108, 101]⟩, .int .i64 a.tile, .string ⟨#[102, 105, 108, 116, 101, 114]⟩, .int .i64 a.filt] 46)).alloc (Obj.cells #[.slice (some ⟨w1.heap.size, 0, none⟩) 4 4] 47)).alloc (Obj.cells #[.slice none 0 0] 31)) 3 #[.int .i64 0]
    rw [World.size_alloc, World.size_alloc, World.size_alloc] at h
    exact h
  have x0' : ((((w1.alloc (Obj.cells #[.string ⟨#[118, 97, 108, 117, 101]⟩, .int .i64 a.val, .string ⟨#[99, 101, 108, 108]⟩, .int .i64 a.cell, .string ⟨#[116, 105, 108, 101]⟩, .int .i64 a.tile, .string ⟨#[102, 105, 108, 116, 101, 114]⟩, .int .i64 a.filt] 46)).alloc (Obj.cells #[.slice (some ⟨w1.heap.size, 0, none⟩) 4 4] 47)).alloc (Obj.cells #[.slice none 0 0] 31)).alloc (Obj.cells #[.int .i64 0] 3)).cell? ⟨qx, 0, none⟩ = some (.pointer (some ⟨p, 0, none⟩)) := (hb4.cell (p := ⟨qx, 0, none⟩) HQX.out.lt).trans x0
  have a0' : ((((w1.alloc (Obj.cells #[.string ⟨#[118, 97, 108, 117, 101]⟩, .int .i64 a.val, .string ⟨#[99, 101, 108, 108]⟩, .int .i64 a.cell, .string ⟨#[116, 105, 108, 101]⟩, .int .i64 a.tile, .string ⟨#[102, 105, 108, 116, 101, 114]⟩, .int .i64 a.filt] 46)).alloc (Obj.cells #[.slice (some ⟨w1.heap.size, 0, none⟩) 4 4] 47)).alloc (Obj.cells #[.slice none 0 0] 31)).alloc (Obj.cells #[.int .i64 0] 3)).cell? ⟨qa, 0, none⟩ = some (.int .i64 a.tile) := (hb4.cell (p := ⟨qa, 0, none⟩) HQA.out.lt).trans a0
  have a1' : ((((w1.alloc (Obj.cells #[.string ⟨#[118, 97, 108, 117, 101]⟩, .int .i64 a.val, .string ⟨#[99, 101, 108, 108]⟩, .int .i64 a.cell, .string ⟨#[116, 105, 108, 101]⟩, .int .i64 a.tile, .string ⟨#[102, 105, 108, 116, 101, 114]⟩, .int .i64 a.filt] 46)).alloc (Obj.cells #[.slice (some ⟨w1.heap.size, 0, none⟩) 4 4] 47)).alloc (Obj.cells #[.slice none 0 0] 31)).alloc (Obj.cells #[.int .i64 0] 3)).cell? ⟨qa, 1, none⟩ = some (.int .i64 a.cell) := (hb4.cell (p := ⟨qa, 1, none⟩) HQA.out.lt).trans a1
  have a2' : ((((w1.alloc (Obj.cells #[.string ⟨#[118, 97, 108, 117, 101]⟩, .int .i64 a.val, .string ⟨#[99, 101, 108, 108]⟩, .int .i64 a.cell, .string ⟨#[116, 105, 108, 101]⟩, .int .i64 a.tile, .string ⟨#[102, 105, 108, 116, 101, 114]⟩, .int .i64 a.filt] 46)).alloc (Obj.cells #[.slice (some ⟨w1.heap.size, 0, none⟩) 4 4] 47)).alloc (Obj.cells #[.slice none 0 0] 31)).alloc (Obj.cells #[.int .i64 0] 3)).cell? ⟨qa, 2, none⟩ = some (.int .i64 a.filt) := (hb4.cell (p := ⟨qa, 2, none⟩) HQA.out.lt).trans a2
  have a3' : ((((w1.alloc (Obj.cells #[.string ⟨#[118, 97, 108, 117, 101]⟩, .int .i64 a.val, .string ⟨#[99, 101, 108, 108]⟩, .int .i64 a.cell, .string ⟨#[116, 105, 108, 101]⟩, .int .i64 a.tile, .string ⟨#[102, 105, 108, 116, 101, 114]⟩, .int .i64 a.filt] 46)).alloc (Obj.cells #[.slice (some ⟨w1.heap.size, 0, none⟩) 4 4] 47)).alloc (Obj.cells #[.slice none 0 0] 31)).alloc (Obj.cells #[.int .i64 0] 3)).cell? ⟨qa, 3, none⟩ = some (.int .i64 a.val) := (hb4.cell (p := ⟨qa, 3, none⟩) HQA.out.lt).trans a3
  have a4' : ((((w1.alloc (Obj.cells #[.string ⟨#[118, 97, 108, 117, 101]⟩, .int .i64 a.val, .string ⟨#[99, 101, 108, 108]⟩, .int .i64 a.cell, .string ⟨#[116, 105, 108, 101]⟩, .int .i64 a.tile, .string ⟨#[102, 105, 108, 116, 101, 114]⟩, .int .i64 a.filt] 46)).alloc (Obj.cells #[.slice (some ⟨w1.heap.size, 0, none⟩) 4 4] 47)).alloc (Obj.cells #[.slice none 0 0] 31)).alloc (Obj.cells #[.int .i64 0] 3)).cell? ⟨qa, 4, none⟩ = some (.int .i64 a.mom) := (hb4.cell (p := ⟨qa, 4, none⟩) HQA.out.lt).trans a4
  have hs4 : ((((w1.alloc (Obj.cells #[.string ⟨#[118, 97, 108, 117, 101]⟩, .int .i64 a.val, .string ⟨#[99, 101, 108, 108]⟩, .int .i64 a.cell, .string ⟨#[116, 105, 108, 101]⟩, .int .i64 a.tile, .string ⟨#[102, 105, 108, 116, 101, 114]⟩, .int .i64 a.filt] 46)).alloc (Obj.cells #[.slice (some ⟨w1.heap.size, 0, none⟩) 4 4] 47)).alloc (Obj.cells #[.slice none 0 0] 31)).alloc (Obj.cells #[.int .i64 0] 3)).heap.size = w1.heap.size + 1 + 1 + 1 + 1 := by rw [World.size_alloc, World.size_alloc, World.size_alloc, World.size_alloc]
  have H4 := hide (And.intro hb4 (And.intro hv0 (And.intro hv1 (And.intro hv2 (And.intro hv3 hs4)))))
  clear hb4 hv0 hv1 hv2 hv3 hs4
  dsimp only
  gi_wp2
  clear a0 a1 a2 a3 a4 x0 a0' a1' a2' a3' a4' x0'
  generalize ((((w1.alloc (Obj.cells #[.string ⟨#[118, 97, 108, 117, 101]⟩, .int .i64 a.val, .string ⟨#[99, 101, 108, 108]⟩, .int .i64 a.cell, .string ⟨#[116, 105, 108, 101]⟩, .int .i64 a.tile, .string ⟨#[102, 105, 108, 116, 101, 114]⟩, .int .i64 a.filt] 46)).alloc (Obj.cells #[.slice (some ⟨w1.heap.size, 0, none⟩) 4 4] 47)).alloc (Obj.cells #[.slice none 0 0] 31)).alloc (Obj.cells #[.int .i64 0] 3)) = w4 at H4 ⊢
  refine ⟨trivial, ?_⟩
  refine (conc_in Fence.wide _ trivial rfl p a w4).mono ?_
  rintro e w' ⟨rfl, rfl⟩
  obtain ⟨hb4, hv0, hv1, hv2, hv3, hs4⟩ := H4.out
  clear H4
  dsimp only
  gi_wp2
  obtain ⟨bv, hbv⟩ : ∃ b, b = w1.heap.size := ⟨_, rfl⟩
  obtain ⟨bt, hbt⟩ : ∃ b, b = w1.heap.size + 1 := ⟨_, rfl⟩
  obtain ⟨bo, hbo⟩ : ∃ b, b = w1.heap.size + 1 + 1 := ⟨_, rfl⟩
  obtain ⟨bn, hbn⟩ : ∃ b, b = w1.heap.size + 1 + 1 + 1 := ⟨_, rfl⟩
  obtain ⟨Bx, hBx⟩ : ∃ b, b = w4.heap.size := ⟨_, rfl⟩
  obtain ⟨Ba, hBa⟩ : ∃ b, b = w4.heap.size + 1 := ⟨_, rfl⟩
  have hw1s := HB1.out.size
  have hqxl := HQX.out.lt
  have hqal := HQA.out.lt
  have NUM : Hid (w.heap.size ≤ bv ∧ qx < bv ∧ qa < bv ∧ bv < bt ∧ bt < bo ∧ bo < bn ∧ bn < Bx ∧ Bx < Ba) := hide (by omega)
  have hbS : Below w4.heap.size w4 ((w4.alloc (.cells #[.pointer (some ⟨p, 0, none⟩)] 35)).alloc (.cells a.cells 28)) := ((Below.refl _ _).alloc (Nat.le_refl _) _).alloc (by simp) _
  have hSx : Blk ((w4.alloc (.cells #[.pointer (some ⟨p, 0, none⟩)] 35)).alloc (.cells a.cells 28)) Bx 35 #[.pointer (some ⟨p, 0, none⟩)] := by rw [hBx]; exact (Blk.new _ _ _).alloc _
  have hSa : Blk ((w4.alloc (.cells #[.pointer (some ⟨p, 0, none⟩)] 35)).alloc (.cells a.cells 28)) Ba 28 a.cells := by
    have h := Blk.new (w4.alloc (.cells #[.pointer (some ⟨p, 0, none⟩)] 35)) 28 a.cells
    rw [World.size_alloc, ← hBa] at h
    exact h
  have hSs : ((w4.alloc (.cells #[.pointer (some ⟨p, 0, none⟩)] 35)).alloc (.cells a.cells 28)).heap.size = Ba + 1 := by rw [World.size_alloc, World.size_alloc, hBa]
  rw [← hBa, ← hBx, ← hbn, ← hbo, ← hbt]
  rw [← hbt] at hv1
  rw [← hbo] at hv2
  rw [← hbn] at hv3
  rw [← hbv] at hv0 hv1
  generalize ((w4.alloc (.cells #[.pointer (some ⟨p, 0, none⟩)] 35)).alloc (.cells a.cells 28)) = wS at hbS hSx hSa hSs ⊢
  have hb1S : Below w1.heap.size w1 wS := hb4.trans (hbS.mono hb4.size)
  have HS := hide (And.intro (hv0.below hbS hv0.lt) (And.intro (hv1.below hbS hv1.lt) (And.intro (hv2.below hbS hv2.lt) (And.intro (hv3.below hbS hv3.lt) (And.intro (HQX.out.below hb1S HQX.out.lt) (And.intro hSx (And.intro hSa (And.intro hSs (HB1.out.trans (hb1S.mono HB1.out.size))))))))))
  clear hv0 hv1 hv2 hv3 hb4 hbS hSx hSa hSs hb1S hBx hBa hbt hbo hbn hbv hs4 hw1s hqxl hqal HQX HQA HQL HB1
  refine wpIn_rangeFunc_ownG rfl (by decide) (gf := 107) (lb := #[.pointer (some ⟨Ba, 0, none⟩), .pointer (some ⟨Bx, 0, none⟩)]) rfl trivial (enters_of Tryz.func107 (by kernel_rfl) rfl)
    (conc_stops Fence.wide 4 trivial rfl (by decide) Ba Bx a subs w base kb p m Ar cr V kss HIX.out hkb ha.1 ha.2 (by omega) wS (by have := NUM.out; have := HS.out.2.2.2.2.2.2.2.1; omega) (fun k hk => HS.out.2.2.2.2.2.2.2.2.block k hk) HS.out.2.2.2.2.2.2.1 HS.out.2.2.2.2.2.1)
    (fun h k => Kp37.trans h k) (Kp37.put (by have := NUM.out; have := HS.out.2.2.2.2.2.2.2.1; omega) (by have := NUM.out; have := HS.out.2.2.2.2.2.2.2.1; omega) (by have := NUM.out; have := HS.out.2.2.2.2.2.2.2.1; omega)) (Below.refl _ _) (fun _ => rfl)
    (fun pre W => Mt37 w wS bo bn pre.length ((pre.map finI).filter (hitL subs a)) W) (fun _ _ _ => False)
    (fun s W W' row hs hg hr => hs.turn (by have := NUM.out; have := HS.out.2.2.2.2.2.2.2.1; omega) (by have := NUM.out; have := HS.out.2.2.2.2.2.2.2.1; omega) (by have := NUM.out; have := HS.out.2.2.2.2.2.2.2.1; omega) hg hr)
    (fun _ _ _ _ _ hs _ _ => hs)
    ⟨⟨none, 0, HS.out.2.2.1, Own.nil _ _ _ _⟩, HS.out.2.2.2.1, fun _ _ _ _ => rfl, HS.out.2.2.2.2.2.2.2.2, Nat.le_refl _⟩
    ?a1 ?assign ?body ?done ?stop
  case assign =>
    intro l x W K hK
    gi_wp2
    exact hK
  case body =>
    rintro l pre x W hI hlt
    have hN := NUM.out
    obtain ⟨sv0, sv1, sv2, sv3, sqx, sSx, sSa, sSs, sbel⟩ := HS.out
    have hcl := catF_len subs a
    have hwr : IntKind.i64.wrap ((pre.length : Int) + 1) = (pre.length : Int) + 1 := IntWalk.i64_in _ (by omega)
    have c0 : W.cell? ⟨bn, 0, none⟩ = some (.int .i64 (pre.length : Int)) := hI.num.cell 0
    have f0 : W.frozen? ⟨bn, 0, none⟩ = false := hI.num.frozen 0
    have HI := hide hI
    have HM2 := hide (hI.count (by omega) (by omega) (by omega))
    have hqs : ∀ k, k < wS.heap.size → k ≠ bo → k ≠ bn → (W.setCell ⟨bn, 0, none⟩ (.int .i64 ((pre.length : Int) + 1))).heap[k]? = wS.heap[k]? := HM2.out.keep
    have x2 : (W.setCell ⟨bn, 0, none⟩ (.int .i64 ((pre.length : Int) + 1))).cell? ⟨qx, 0, none⟩ = some (.pointer (some ⟨p, 0, none⟩)) := Blk.cell (cs := #[.pointer (some ⟨p, 0, none⟩)]) ((hqs qx (by omega) (by omega) (by omega)).trans sqx) 0
    have t2 : (W.setCell ⟨bn, 0, none⟩ (.int .i64 ((pre.length : Int) + 1))).cell? ⟨bt, 0, none⟩ = some (.slice (some ⟨bv, 0, none⟩) 4 4) := Blk.cell (cs := #[.slice (some ⟨bv, 0, none⟩) 4 4]) ((hqs bt (by omega) (by omega) (by omega)).trans sv1) 0
    have hvb := (hqs bv (by omega) (by omega) (by omega)).trans sv0
    have HVR : Hid (RVr (W.setCell ⟨bn, 0, none⟩ (.int .i64 ((pre.length : Int) + 1))).drew (W.setCell ⟨bn, 0, none⟩ (.int .i64 ((pre.length : Int) + 1))).drew.heap.size (some ⟨bv, 0, none⟩) 4 (vars37 a)) := hide (by
      refine ⟨rfl, fun _ => ⟨⟨bv, 0, none⟩, rfl, Blk.lt hvb, fun j u hu => ?_⟩⟩
      rw [add_lit, Nat.zero_add]
      refine (Blk.cell hvb j).trans ?_
      have e : (cellsV (vars37 a)) = (#[Value.string ⟨#[118, 97, 108, 117, 101]⟩, .int .i64 a.val, .string ⟨#[99, 101, 108, 108]⟩, .int .i64 a.cell, .string ⟨#[116, 105, 108, 101]⟩, .int .i64 a.tile, .string ⟨#[102, 105, 108, 116, 101, 114]⟩, .int .i64 a.filt]).toList := rfl
      rw [e] at hu
      simpa using hu)
    have hix2 := ixk HIX.out hkb (fun k hk => HM2.out.bel.block k hk)
    have p1 : (W.setCell ⟨bn, 0, none⟩ (.int .i64 ((pre.length : Int) + 1))).cell? ⟨p, 1, none⟩ = some (.slice Ar subs.length cr) := hix2.blk.cell 1
    have hsx : subs[x.val]? = some (sbAt subs x.val) := sbAt_get x.isLt
    obtain ⟨kx, hkx⟩ : ∃ kx, kss[x.val]? = some kx := ⟨_, List.getElem?_eq_getElem (by rw [hix2.kln]; exact x.isLt)⟩
    obtain ⟨g, hArg, hgb, hgl, hgc, _⟩ := Own.at_ hix2.whn (k := x.val) x.isLt
    rw [cellsW_get hsx hkx] at hgc
    have HEX := hide (show ExprAt (W.setCell ⟨bn, 0, none⟩ (.int .i64 ((pre.length : Int) + 1))).drew (W.setCell ⟨bn, 0, none⟩ (.int .i64 ((pre.length : Int) + 1))).drew.heap.size kx.1 (sbAt subs x.val).whn from (hix2.exp x.val _ _ hsx hkx).expr (Nat.le_trans hkb HM2.out.bel.size))
    have HOKX := hide (HOK.out _ (sbAt_mem x.isLt))
    have hfx : (finI x) = ((x.val : Nat) : Int) := rfl
    have HHT : Hid (hitL subs a (finI x) = (decide ((evalM (sbAt subs x.val).whn (vars37 a)).2 = 0) && decide (0 < (evalM (sbAt subs x.val).whn (vars37 a)).1))) := hide rfl
    obtain ⟨Av, cv, ho1, ho2⟩ := HM2.out.out
    have HO1 := hide ho1
    have HO2 := hide ho2
    have HSN := hide (hit_snoc subs a pre x)
    obtain ⟨hs, hhs⟩ : ∃ hs, hs = (pre.map finI).filter (hitL subs a) := ⟨_, rfl⟩
    have hsl2 : hs.length ≤ pre.length := by rw [hhs]; exact Nat.le_trans (List.length_filter_le _ _) (by rw [List.length_map]; exact Nat.le_refl _)
    rw [← hhs] at HO1 HO2 HSN HM2
    obtain ⟨W0, hW0⟩ : ∃ W0, W0 = W := ⟨_, rfl⟩
    have HIW : Hid (Mt37 w wS bo bn pre.length hs W) := hide (by rw [hhs]; exact HI.out)
    have FIN : Hid (∀ (w6 : World), Below (W.setCell ⟨bn, 0, none⟩ (.int .i64 ((pre.length : Int) + 1))).heap.size (W.setCell ⟨bn, 0, none⟩ (.int .i64 ((pre.length : Int) + 1))) w6 → w6.cell? ⟨bo, 0, none⟩ = some (.slice Av hs.length cv) ∧ Own w6 wS.heap.size 3 1 Av hs.length cv (ints hs) ∧ wS.heap.size ≤ w6.heap.size ∧
        (hitL subs a (finI x) = false → KeepsFrom wS.heap.size W w6 ∧ Kp37 w.heap.size Ba Bx W w6 ∧ Mt37 w wS bo bn (pre ++ [x]).length (((pre ++ [x]).map finI).filter (hitL subs a)) w6) ∧
        (hitL subs a (finI x) = true → ∀ (A9 : Option Addr) (c9 : Nat) (w9 : World) (X : Obj), Own w9 wS.heap.size 3 1 A9 (hs.length + 1) c9 (ints hs ++ [.int .i64 (finI x)]) → (w6.alloc X).grownBy w9 (Value.slice Av hs.length cv).ownBlock →
          w9.cell? ⟨bo, 0, none⟩ = some (.slice Av hs.length cv) ∧ w9.frozen? ⟨bo, 0, none⟩ = false ∧ (KeepsFrom wS.heap.size W (w9.setCell ⟨bo, 0, none⟩ (.slice A9 (hs.length + 1) c9)) ∧ Kp37 w.heap.size Ba Bx W (w9.setCell ⟨bo, 0, none⟩ (.slice A9 (hs.length + 1) c9)) ∧ Mt37 w wS bo bn (pre ++ [x]).length (((pre ++ [x]).map finI).filter (hitL subs a)) (w9.setCell ⟨bo, 0, none⟩ (.slice A9 (hs.length + 1) c9))))) := hide (fun w6 hb6 => by
      have hz2 : (W.setCell ⟨bn, 0, none⟩ (.int .i64 ((pre.length : Int) + 1))).heap.size = W.heap.size := by simp
      have hzS := HIW.out.size
      have hzb := sSs
      have hm6 := HM2.out.below (by omega) (by omega) hb6
      have hb1 := HO1.out.below hb6 HO1.out.lt
      have ho6 : Own w6 wS.heap.size 3 1 Av hs.length cv (ints hs) := Own.below HO2.out hb6
      have hlen : (pre ++ [x]).length = pre.length + 1 := by simp
      have hW1 : Blk W bo 31 #[.slice Av hs.length cv] := by
        have h := HO1.out
        exact (Below.heap_setCell W ⟨bn, 0, none⟩ _ bo (by show bo ≠ bn; omega)).symm.trans h
      have hW2 : Own W wS.heap.size 3 1 Av hs.length cv (ints hs) := Own.keepC HO2.out (fun g hgb _ => (Below.heap_setCell W ⟨bn, 0, none⟩ _ g (by show g ≠ bn; omega)).symm)
      have K6 : ∀ k, k < W.heap.size → k ≠ bn → w6.heap[k]? = W.heap[k]? := fun k hk hn => (hb6.block k (by omega)).trans (Below.heap_setCell W ⟨bn, 0, none⟩ _ k hn)
      have hz6 : W.heap.size ≤ w6.heap.size := by have := hb6.size; omega
      have nrow : ∀ k, k < wS.heap.size → some k ≠ (Value.slice Av hs.length cv).ownBlock := fun k hk e => by
        have := (World.ownsRow.lt hW2 k e.symm).1; omega
      refine ⟨hb1.cell 0, ho6, by omega, fun hh => ⟨HIW.out.kf hW1 hW2 hz6 (fun k hk _ hn _ => K6 k hk hn) _, fun k hk => K6 k (by omega) (by omega), ?_⟩, fun hh A9 c9 w9 X hown hg => ?_⟩
      · rw [HSN.out, if_neg (by rw [hh]; decide), List.append_nil, hlen]
        exact hm6
      · obtain ⟨b9, m9, k9, z9⟩ := hm6.push (by omega) (by omega) (by omega) (by omega) (by omega) hb1 ho6 X hown hg
        refine ⟨b9.cell 0, b9.frozen 0, HIW.out.kf hW1 hW2 (by omega) (fun k hk hbo hbn hr => (k9 k (by omega) hbo hr).trans (K6 k hk hbn)) _, fun k hk => (k9 k (by omega) (by omega) (nrow k (by omega))).trans (K6 k (by omega) (by omega)), ?_⟩
        rw [HSN.out, if_pos hh, hlen]
        exact m9)
    generalize sbAt subs x.val = s at HEX HOKX HHT hgc
    obtain ⟨ev, hev⟩ : ∃ ev, ev = evalM s.whn (vars37 a) := ⟨_, rfl⟩
    have HEV := hide hev.symm
    rw [← hev] at HHT
    clear hev
    obtain ⟨vv, ve⟩ := ev
    dsimp only at HHT
    subst hArg
    obtain ⟨i0, hi0, hz0, hz1, hz2⟩ := info_parts int_info
    have hmx : hs.length + 1 ≤ maxLen := by unfold maxLen; omega
    have hby : (hs.length + 1) * 8 ≤ 140737488355328 := by omega
    clear sv0 sv1 sv2 sv3 sqx sSx sSa sbel hqs hvb hix2 hsx hkx ho1 ho2 hI hlt hhs hW0 HIW HM2 HI HO1 HO2 HSN hgb hgl hfx hcl
    have hmo : Tryz.prog.follows .mixedOrders = true := by kernel_rfl
    have hxl : x.val < subs.length := x.isLt
    rw [show finI x = ((x.val : Nat) : Int) from rfl]
    obtain ⟨xv, hxv⟩ : ∃ xv, xv = x.val := ⟨_, rfl⟩
    have HXV : Hid (finI x = (xv : Int)) := hide (by rw [hxv]; rfl)
    rw [← hxv] at hxl hgc ⊢
    clear hxv
    have HSS := hide sSs
    clear sSs
    gi_wp2
    refine region_round hmo (noDefer_spec (by kernel_rfl)) (fun ⟨_, _, h⟩ => h) (fun w' => w'.cell? ⟨qx, 0, none⟩ = some (.pointer (some ⟨p, 0, none⟩)) ∧ w'.cell? ⟨p, 1, none⟩ = some (.slice (some ⟨g, 0, none⟩) subs.length cr) ∧ w'.cell? ⟨g, xv, none⟩ = some (.slice kx.1 s.whn.length kx.2) ∧ w'.cell? ⟨bt, 0, none⟩ = some (.slice (some ⟨bv, 0, none⟩) 4 4)) ⟨x2, p1, hgc, t2⟩ (fun hHeld => ?_)
    refine wpAnyH_take (i := 0) (v := ?v0) rfl (by kernel_rfl) (by kernel_rfl) (by kernel_rfl) (fun _ _ _ h => h) (Or.inl ⟨by rfl, ?hy0⟩) (by assumption) ?rest0
    case hy0 => (intro w hSw; (try dsimp only at hSw); go_simp; try with_reducible rfl)
    case rest0 =>
    try simp only [Act.put, List.setIfInBounds_toArray, List.set_cons_zero, List.set_cons_succ]
    refine wpAnyH_take (i := 1) (v := ?v1) rfl (by kernel_rfl) (by kernel_rfl) (by kernel_rfl) (fun _ _ _ h => h) (Or.inl ⟨by rfl, ?hy1⟩) (by assumption) ?rest1
    case hy1 => (intro w hSw; (try dsimp only at hSw); go_simp; try with_reducible rfl)
    case rest1 =>
    try simp only [Act.put, List.setIfInBounds_toArray, List.set_cons_zero, List.set_cons_succ]
    refine wpAnyH_take (i := 2) (v := ?v2) rfl (by kernel_rfl) (by kernel_rfl) (by kernel_rfl) (fun _ _ _ h => h) (Or.inl ⟨by rfl, ?hy2⟩) (by assumption) ?rest2
    case hy2 => (intro w hSw; (try dsimp only at hSw); go_simp; try with_reducible rfl)
    case rest2 =>
    try simp only [Act.put, List.setIfInBounds_toArray, List.set_cons_zero, List.set_cons_succ]
    refine wpAnyH_take (i := 3) (v := ?v3) rfl (by kernel_rfl) (by kernel_rfl) (by kernel_rfl) (fun _ _ _ h => h) (Or.inl ⟨by rfl, ?hy3⟩) (by assumption) ?rest3
    case hy3 => (intro w hSw; (try dsimp only at hSw); go_simp; try with_reducible rfl)
    case rest3 =>
    try simp only [Act.put, List.setIfInBounds_toArray, List.set_cons_zero, List.set_cons_succ]
    refine wpAnyH_take (i := 4) (v := ?v4) rfl (by kernel_rfl) (by kernel_rfl) (by kernel_rfl) (fun _ _ _ h => h) (Or.inl ⟨by rfl, ?hy4⟩) (by assumption) ?rest4
    case hy4 => (intro w hSw; (try dsimp only at hSw); go_simp; try with_reducible rfl)
    case rest4 =>
    try simp only [Act.put, List.setIfInBounds_toArray, List.set_cons_zero, List.set_cons_succ]
    refine wpAnyH_take (i := 5) (v := ?v5) rfl (by kernel_rfl) (by kernel_rfl) (by kernel_rfl) (fun _ _ _ h => h) (Or.inl ⟨by rfl, ?hy5⟩) (by assumption) ?rest5
    case hy5 => (intro w hSw; (try dsimp only at hSw); go_simp; try with_reducible rfl)
    case rest5 =>
    try simp only [Act.put, List.setIfInBounds_toArray, List.set_cons_zero, List.set_cons_succ]
    refine wpAnyH_take (i := 6) (v := ?v6) rfl (by kernel_rfl) (by kernel_rfl) (by kernel_rfl) (fun _ _ _ h => h) (Or.inl ⟨by rfl, ?hy6⟩) (by assumption) ?rest6
    case hy6 => (intro w hSw; (try dsimp only at hSw); go_simp; try with_reducible rfl)
    case rest6 =>
    try simp only [Act.put, List.setIfInBounds_toArray, List.set_cons_zero, List.set_cons_succ]
    refine wpAnyH_take (i := 7) (v := ?v7) rfl (by kernel_rfl) (by kernel_rfl) (by kernel_rfl) (fun _ _ _ h => h) (Or.inl ⟨by rfl, ?hy7⟩) (by assumption) ?rest7
    case hy7 => (intro w hSw; (try dsimp only at hSw); go_simp; try with_reducible rfl)
    case rest7 =>
    try simp only [Act.put, List.setIfInBounds_toArray, List.set_cons_zero, List.set_cons_succ]
    refine wpAnyH_ready (rs := [8]) (by kernel_rfl) (by simp) ?_
    refine AllReadyH.cons rfl (fun K hK => ?_) ?_
    rotate_left
    · exact AllReadyH.nil
    rw [if_pos (by rfl)]
    go_simp
    go_at_call 23
    refine (meritEval_any kx.1 kx.2 s.whn (some ⟨bv, 0, none⟩) 4 4 (vars37 a) (W.setCell ⟨bn, 0, none⟩ (.int .i64 ((pre.length : Int) + 1))).drew HEX.out HOKX.out.1 HOKX.out.2.1 HVR.out (by decide) (vars37_names a)).mono ?_
    rintro en w6 ⟨rfl, hb6⟩
    have hb6' : Below (W.setCell ⟨bn, 0, none⟩ (.int .i64 ((pre.length : Int) + 1))).heap.size (W.setCell ⟨bn, 0, none⟩ (.int .i64 ((pre.length : Int) + 1))) w6 := Below.trans (Below.drew (Below.refl _ _)) hb6
    rw [HEV.out]
    dsimp only
    obtain ⟨o6, ho6, hz6, hfin1, hfin2⟩ := FIN.out w6 hb6'
    have HO6 := hide ho6
    have HF1 := hide hfin1
    have HF2 := hide hfin2
    clear ho6 hfin1 hfin2 FIN HVR HEX
    refine hK.out _ _ ⟨?_, ?_, ?_, ?_⟩ (fun hHeld => ?_)
    · exact (hb6'.cell (p := ⟨qx, 0, none⟩) (World.block_lt_of_cell? _ _ x2)).trans x2
    · exact (hb6'.cell (p := ⟨p, 1, none⟩) (World.block_lt_of_cell? _ _ p1)).trans p1
    · exact (hb6'.cell (p := ⟨g, xv, none⟩) (World.block_lt_of_cell? _ _ hgc)).trans hgc
    · exact (hb6'.cell (p := ⟨bt, 0, none⟩) (World.block_lt_of_cell? _ _ t2)).trans t2
    clear hK K hb6 hb6'
    try simp only [Act.put, List.setIfInBounds_toArray, List.set_cons_zero, List.set_cons_succ]
    refine wpAnyH_take (i := 9) (v := ?v9) rfl (by kernel_rfl) (by kernel_rfl) (by kernel_rfl) (fun _ _ _ h => h) (Or.inl ⟨by rfl, ?hy9⟩) (by assumption) ?rest9
    case hy9 => (intro w hSw; (try dsimp only at hSw); go_simp; try with_reducible rfl)
    case rest9 =>
    try simp only [Act.put, List.setIfInBounds_toArray, List.set_cons_zero, List.set_cons_succ]
    refine wpAnyH_take (i := 10) (v := ?v10) rfl (by kernel_rfl) (by kernel_rfl) (by kernel_rfl) (fun _ _ _ h => h) (Or.inl ⟨by rfl, ?hy10⟩) (by assumption) ?rest10
    case hy10 => (intro w hSw; (try dsimp only at hSw); go_simp; try with_reducible rfl)
    case rest10 =>
    try simp only [Act.put, List.setIfInBounds_toArray, List.set_cons_zero, List.set_cons_succ]
    refine wpAnyH_take (i := 11) (v := ?v11) rfl (by kernel_rfl) (by kernel_rfl) (by kernel_rfl) (fun _ _ _ h => h) (Or.inl ⟨by rfl, ?hy11⟩) (by assumption) ?rest11
    case hy11 => (intro w hSw; (try dsimp only at hSw); go_simp; try with_reducible rfl)
    case rest11 =>
    try simp only [Act.put, List.setIfInBounds_toArray, List.set_cons_zero, List.set_cons_succ]
    refine wpAnyH_take (i := 12) (v := ?v12) rfl (by kernel_rfl) (by kernel_rfl) (by kernel_rfl) (fun _ _ _ h => h) (Or.inl ⟨by rfl, ?hy12⟩) (by assumption) ?rest12
    case hy12 => (intro w hSw; (try dsimp only at hSw); go_simp; try with_reducible rfl)
    case rest12 =>
    try simp only [Act.put, List.setIfInBounds_toArray, List.set_cons_zero, List.set_cons_succ]
    refine wpAnyH_take (i := 13) (v := ?v13) rfl (by kernel_rfl) (by kernel_rfl) (by kernel_rfl) (fun _ _ _ h => h) (Or.inl ⟨by rfl, ?hy13⟩) (by assumption) ?rest13
    case hy13 => (intro w hSw; (try dsimp only at hSw); go_simp; try with_reducible rfl)
    case rest13 =>
    try simp only [Act.put, List.setIfInBounds_toArray, List.set_cons_zero, List.set_cons_succ]
    refine wpAnyH_done (by kernel_rfl) ?_ _
    clear hHeld x2 p1 hgc t2
    by_cases hve : ve = 0
    · subst hve
      by_cases hvv : 0 < vv
      · have HHH : Hid (hitL subs a (finI x) = true) := hide (by rw [HHT.out, decide_eq_true hvv]; rfl)
        have dvv : decide (0 < vv) = true := decide_eq_true hvv
        clear HHT
        gi_wp2_with (gi_at_builtin; refine wpListIn_append_own _ rfl _ _ 31 rfl wS.heap.size 3 i0 (.int .i64 0) 1 8 Tryz.underlying31 hi0 hz0 hz1 hz2 rfl (by decide) _ _ _ rfl (World.ownsRow.alloc HO6.out _) ⟨w6.heap.size, 0, none⟩ 1 1 [.int .i64 (xv : Int)] rfl rfl (cell_one_new _ _ _) (by simp [Value.oneCell']) hmx hby (by simp; omega) ?_; intro v' w9 hown9 hg9 _; obtain ⟨g9, c9, rfl⟩ := ownsRow_succ hown9; obtain ⟨k9, f9, r9⟩ := HF2.out HHH.out _ _ w9 _ (by rw [HXV.out]; exact hown9) hg9; have R9 := hide r9; clear hown9 hg9 r9)
        exact R9.out
      · have HHH : Hid (hitL subs a (finI x) = false) := hide (by rw [HHT.out, decide_eq_false hvv]; rfl)
        have dvv : decide (0 < vv) = false := decide_eq_false hvv
        clear HHT
        gi_wp2
        exact HF1.out HHH.out
    · have HHH : Hid (hitL subs a (finI x) = false) := hide (by rw [HHT.out, decide_eq_false hve]; rfl)
      have dve : (ve == 0) = false := beq_eq_false_iff_ne.2 hve
      clear HHT hve
      gi_wp2
      exact HF1.out HHH.out
  case done =>
    rintro D ys W hD rfl hI hK
    have hN := NUM.out
    obtain ⟨sv0, sv1, sv2, sv3, sqx, sSx, sSa, sSs, sbel⟩ := HS.out
    obtain ⟨Av, cv, ho1, ho2⟩ := hI.out
    have c8 : W.cell? ⟨bo, 0, none⟩ = some (.slice Av (((catF subs a).map finI).filter (hitL subs a)).length cv) := ho1.cell 0
    have c9 : W.cell? ⟨bn, 0, none⟩ = some (.int .i64 ((catF subs a).length : Int)) := hI.num.cell 0
    have hcl := catF_len subs a
    have hce : (catF subs a).length = (catL37 subs a).length := by rw [← catF_map, List.length_map]
    have HI := hide hI
    have HO1 := hide ho1
    have HO2 := hide ho2
    have hfl : (((catF subs a).map finI).filter (hitL subs a)).length ≤ 100000 := Nat.le_trans (List.length_filter_le _ _) (by rw [List.length_map]; omega)
    have HFL := hide hfl
    have HML : Hid (matchL subs a = srt (((catF subs a).map finI).filter (hitL subs a))) := hide (by rw [catF_map]; rfl)
    have HCE := hide hce
    generalize ((catF subs a).map finI).filter (hitL subs a) = hs at c8 HO1 HO2 HFL HML HI
    rw [hce] at c9
    have HK := hide hK
    have FINS : Hid (∀ w6 : World, Own w6 wS.heap.size 3 1 Av hs.length cv (ints (srt hs)) → W.grownBy w6 (Value.slice Av hs.length cv).ownBlock → w6.cell? ⟨bo, 0, none⟩ = some (.slice Av hs.length cv) ∧ w6.cell? ⟨bn, 0, none⟩ = some (.int .i64 ((catL37 subs a).length : Int)) ∧ w6.heap[D]? = some (.deferred (some [])) ∧ Below w.heap.size w w6) := hide (fun w6 h6 hg6 => by
      have hz := HI.out.size
      have nrow : ∀ k, k < wS.heap.size → some k ≠ (Value.slice Av hs.length cv).ownBlock := fun k hk e => by
        have := (World.ownsRow.lt HO2.out k e.symm).1; omega
      refine ⟨Blk.cell (cs := #[.slice Av hs.length cv]) ((hg6.block bo (by omega) (nrow bo (by omega))).trans HO1.out) 0, ?_, ?_, ?_⟩
      · rw [← HCE.out]
        exact Blk.cell (cs := #[.int .i64 ((catF subs a).length : Int)]) ((hg6.block bn (by omega) (nrow bn (by omega))).trans HI.out.num) 0
      · refine (hg6.block D (Array.getElem?_eq_some_iff.1 HK.out).1 (fun e => ?_)).trans HK.out
        obtain ⟨cs, fr, hb⟩ := Own.blk HO2.out e.symm
        rw [HK.out] at hb
        cases hb
      · exact HI.out.bel.grown hg6 HI.out.bel.size (fun k e => by have := (World.ownsRow.lt HO2.out k e).1; omega))
    clear ho1 ho2 hI hcl hfl hce hK sv0 sv1 sv2 sv3 sqx sSx sSa sSs sbel
    gi_wp2
    refine ⟨trivial, ?_⟩
    refine (callsIn_wide.2 (sort_own Av cv hs wS.heap.size W HO2.out HFL.out)).mono ?_
    rintro e w6 ⟨rfl, ho6, hg6⟩
    obtain ⟨d8, d9, hK6, hb6⟩ := FINS.out w6 ho6 hg6
    have HO6 := hide ho6
    have HB6 := hide hb6
    have HK6 := hide hK6
    clear c8 c9 FINS HI HO1 HO2 HK ho6 hg6 hb6 hK6
    dsimp only
    gi_wp2
    refine wpIn_wide.2 ?_
    go_quiet (fail)
    gi_wp2
    have hK7 : (w6.drewN nq).heap[D]? = some (.deferred (some [])) := HK6.out
    have HB7 : Below w.heap.size w (w6.drewN nq) := below_drewN HB6.out nq
    have HO7 : World.ownsRow (w6.drewN nq) wS.heap.size 3 1 (.slice Av hs.length cv) hs.length (ints (srt hs)) := Own.drewN HO6.out nq
    refine ⟨by simp, .inl ⟨_, _, rfl, run_takeDeferred hK7, ?_⟩⟩
    refine ⟨.tuple #[.slice Av hs.length cv, .int .i64 ((catL37 subs a).length : Int), .int .i64 0], by simp [results, Tryz.results20, go_sem], Av, cv, ?_, ?_, ?_⟩
    · rw [HML.out, srt_len]
    · rw [HML.out, srt_len]
      have h : Own _ wS.heap.size 3 1 Av hs.length cv (ints (srt hs)) := ownsRow_putObj HO7 (.deferred none) hK7 rfl
      exact h.lower37 (by have := HS.out.2.2.2.2.2.2.2.1; have := NUM.out; omega)
    · exact HB7.trans (belowK_b (w := w) (Nat.le_refl _) _ D _ _ (by have := HS.out.2.2.2.2.2.2.2.1; have := NUM.out; omega) hK7 rfl rfl)
  case stop =>
    rintro D c pre W _ _ h _
    exact h.elim
theorem imatch_any (p : Nat) (a : Al) (subs : List Sb) (base kb : Nat) (w : World) (hi : IxAt w base kb p subs) (hkb : kb ≤ w.heap.size) (hav : alValid a = true) (hok : SbsOk subs) (hsl : subs.length ≤ 64) :
    Calls Tryz.prog 20 #[.pointer (some ⟨p, 0, none⟩), .agg a.cells] w (MatchPost w subs a) := by
  refine (imatch_own p a subs base kb w hi hkb hav hok hsl).mono ?_
  rintro e w' ⟨A, c, he, ho, hb⟩
  exact ⟨A, c, he, Own.ri ho, hb⟩
end Go.Proofs.YtkomgidcgepknaaGreatDoor

set_option linter.unusedVariables false
set_option linter.unusedSimpArgs false
namespace Go.Proofs.YtkomgidcgepknaaGreatDoor
open Go.RowKit Go.Deep Go.Maps

/-- '.slice A n c' reads as the subscriptions l, below block B, the operands of their conditions' nodes below kb. -/
def SubsK (w : World) (B kb : Nat) (A : Option Addr) (l : List Sb) : Prop :=
  ∃ ks : List (Option Addr × Nat), ks.length = l.length ∧ Reads w B 4 A l.length (cellsSb l ks) ∧
    ∀ (i : Nat) (x : Sb) (k : Option Addr × Nat), l[i]? = some x → ks[i]? = some k → ExprA w B kb k.1 x.whn
section
variable {w w' : World} {B kb : Nat} {A : Option Addr} {l : List Sb}
theorem SubsK.of (h : SubsAt w B A l) : SubsK w B B A l := h
theorem SubsK.subs (h : SubsK w B kb A l) (hB : kb ≤ B) : SubsAt w B A l := by
  obtain ⟨ks, h1, h2, h3⟩ := h
  exact ⟨ks, h1, h2, fun i x k hx hk => (h3 i x k hx hk).expr hB⟩
theorem SubsK.below (h : SubsK w B kb A l) (hb : Below B w w') (hB : kb ≤ B) : SubsK w' B kb A l := by
  obtain ⟨ks, h1, h2, h3⟩ := h
  exact ⟨ks, h1, h2.below hb, fun i x k hx hk => (h3 i x k hx hk).below hb hB⟩
theorem SubsK.at_ (h : SubsK w B kb A l) {i : Nat} (hi : i < l.length) : ∃ b off K c, A = some ⟨b, off, none⟩ ∧ b < B ∧ w.cell? ⟨b, off + i * 4, none⟩ = some (.int .i64 (sbAt l i).prog) ∧
    w.cell? ⟨b, off + i * 4 + 1, none⟩ = some (.int .i64 (sbAt l i).tile) ∧ w.cell? ⟨b, off + i * 4 + 2, none⟩ = some (.int .i64 (sbAt l i).filt) ∧
    w.cell? ⟨b, off + i * 4 + 3, none⟩ = some (.slice K (sbAt l i).whn.length c) ∧ ExprA w B kb K (sbAt l i).whn := by
  obtain ⟨ks, h1, h2, h3⟩ := h
  have hx := sbAt_get hi
  have hk : ks[i]? = some ks[i] := List.getElem?_eq_getElem (by omega)
  obtain ⟨g0, g1, g2, g3⟩ := cellsSb_get l ks i hx hk
  have h0 := (cellsSb_get l ks 0 (sbAt_get (by omega)) (List.getElem?_eq_getElem (by omega))).1
  obtain ⟨b, off, hA, hb, hc⟩ := h2.at4 (by omega) h0
  exact ⟨b, off, (ks[i]).1, (ks[i]).2, hA, hb, hc _ _ g0, by have := hc _ _ g1; rwa [← Nat.add_assoc] at this, by have := hc _ _ g2; rwa [← Nat.add_assoc] at this, by have := hc _ _ g3; rwa [← Nat.add_assoc] at this, h3 i _ _ hx hk⟩
end
theorem sb_len {s : Sb} (h : sbValid s = true) : s.whn.length ≤ 300 := by
  unfold sbValid at h
  simp only [Bool.and_eq_true, decide_eq_true_eq] at h
  have h1 := h.1.1.1
  unfold boundsL at h1
  split at h1
  · cases h1
  · rename_i hv
    have hv2 : validL s.whn = true := by
      cases hq : validL s.whn
      · exact absurd (.inr hq) hv
      · rfl
    exact (valid_nodes hv2).2.1
/-- What New leaves. -/
def NewPost (w : World) (kb : Nat) (l : List Sb) (e : Ending) (w' : World) : Prop :=
  (if sbsValid l = true then ∃ p, e = .returned (.tuple #[.pointer (some ⟨p, 0, none⟩), .int .i64 0]) ∧ IxAt w' w.heap.size kb p l else e = .returned (.tuple #[.pointer none, .int .i64 1])) ∧ Below w.heap.size w w'
theorem NewPost.bad {w w' : World} {kb : Nat} {l : List Sb} (h : sbsValid l = false) (hb : Below w.heap.size w w') : NewPost w kb l (.returned (.tuple #[.pointer none, .int .i64 1])) w' := ⟨by rw [if_neg (by rw [h]; decide)], hb⟩
theorem idx_info : (Tryz.prog.info? 80).map (fun i => (i.zero, i.size, i.bytes)) = some (some (.agg #[.map none, .slice none 0 0]), 2, 32) := by kernel_rfl
theorem IxIn.start (w w1 : World) (kb : Nat) (hb : Below w.heap.size w w1) :
    IxIn ((w1.alloc (.map #[] 0)).alloc (.cells #[.map (some w1.heap.size), .slice none 0 0] 80)) w.heap.size kb (w1.heap.size + 1) w1.heap.size none 0 (fun _ => .slice none 0 0) [] [] [] := by
  have hs := hb.size
  refine ⟨?_, by omega, hs, ?_, fun k => ⟨none, 0, rfl, Own.nil _ _ _ _⟩, (fun k k' g h => by cases h), rfl, Own.nil _ _ _ _, fun i s k h => by cases h⟩
  · have := Blk.new (w1.alloc (.map #[] 0)) 80 #[.map (some w1.heap.size), .slice none 0 0]
    rw [World.size_alloc] at this
    exact this
  · exact (MapIs.made ky37 w1 Tryz.prog 81 (.slice none 0 0)).kept (Below.heap_alloc _ _ _ (by rw [World.size_alloc]; omega))
set_option maxHeartbeats 8000000 in
set_option maxRecDepth 20000 in
theorem fnew_any (A : Option Addr) (c : Nat) (l : List Sb) (kb : Nat) (w : World) (h : SubsK w w.heap.size kb A l) (hkb : kb ≤ w.heap.size) (ho : SbsOk l) (hn : l.length ≤ maxLen) :
    Calls Tryz.prog 15 #[.slice A l.length c] w (NewPost w kb l) := by
  have H := hide h
  have HO := hide ho
  have HN := hide hn
  have HKB := hide hkb
  have HV : Hid (sbsValid l = (decide (l.length ≤ 64) && l.all sbValid)) := rfl
  unfold maxLen at hn
  clear h ho
  go_enter Tryz.func15, Tryz.ntmps15
  by_cases h64 : l.length ≤ 64
  · have hd : decide ((64 : Int) < (l.length : Int)) = false := decide_eq_false (by omega)
    go_wp2_with fail
    refine (scontains_any A c l w (H.out.subs HKB.out) HO.out HN.out).mono ?_
    rintro e w1 ⟨rfl, hb1⟩
    have HB1 := hide hb1
    clear hb1
    cases hall : l.all sbValid
    · have HR : Hid (sbsValid l = false) := hide (by rw [HV.out, hall, Bool.and_false])
      clear hall
      go_wp2
      go_ret2
      exact NewPost.bad HR.out HB1.out
    · have HR : Hid (sbsValid l = true) := hide (by rw [HV.out, hall, decide_eq_true h64]; rfl)
      have HALL := hide (show ∀ s ∈ l, sbValid s = true from fun s hs => List.all_eq_true.1 hall s hs)
      clear hall
      have hmm := @run_makeMap Tryz.prog
      have HST := hide (IxIn.start w w1 kb HB1.out)
      have HBS : Hid (Below w.heap.size w ((w1.alloc (.map #[] 0)).alloc (.cells #[.map (some w1.heap.size), .slice none 0 0] 80))) := hide ((HB1.out.alloc HB1.out.size _).alloc (by rw [World.size_alloc]; have := HB1.out.size; omega) _)
      go_upto_region 5 with (fail)
      clear hmm
      generalize ((w1.alloc (.map #[] 0)).alloc (.cells #[.map (some w1.heap.size), .slice none 0 0] 80)) = w2 at HST HBS ⊢
      obtain ⟨p, hp⟩ : ∃ p, p = w1.heap.size + 1 := ⟨_, rfl⟩
      obtain ⟨m, hm⟩ : ∃ m, m = w1.heap.size := ⟨_, rfl⟩
      rw [← hp] at HST ⊢
      rw [← hm] at HST
      clear hp hm HB1
      obtain ⟨n, hnn⟩ : ∃ n, n = l.length := ⟨_, rfl⟩
      have HNN := hide hnn
      rw [← hnn] at h64 ⊢
      clear hnn hd hn
      go_wp2
      go_loopw [6, 7, 8, 22] (fun t6 t7 t8 t22 wr => ∃ i : Nat, i ≤ n ∧ t22 = .int .i64 i ∧ (∃ A c V kss, IxIn wr w.heap.size kb p m A c V kss (l.take i) (l.take i)) ∧ Below w.heap.size w wr) (fun _ _ _ t22 _ => n - (intOf t22).toNat)
      case atStart => exact ⟨0, Nat.zero_le _, rfl, ⟨_, _, _, _, HST.out⟩, HBS.out⟩
      case round =>
        obtain ⟨i, hi, rfl, ⟨Ar, cr, Vr, kss, hix⟩, hbr⟩ := hrel
        have HIX := hide hix
        have HBR := hide hbr
        clear hix hbr HST HBS
        by_cases hlt : i < n
        · have hil : i < l.length := by rw [← HNN.out]; exact hlt
          obtain ⟨b, off, K, kc, rfl, hbb, g0, g1, g2, g3, hex⟩ := (H.out.below HBR.out HKB.out).at_ hil
          have HS := hide (HALL.out _ (sbAt_mem hil))
          have HTK := hide (sb_take hil)
          generalize sbAt l i = s at g0 g1 g2 g3 hex HS HTK
          have hb3 : Below wr.heap.size wr ((wr.alloc (Obj.cells #[.int .i64 s.prog, .int .i64 s.tile, .int .i64 s.filt, .slice K s.whn.length kc] 26)).alloc (Obj.cells #[.int .i64 s.tile, .int .i64 s.filt] 81)) := ((Below.refl _ _).alloc (Nat.le_refl _) _).alloc (by simp) _
          have hq1 : Blk ((wr.alloc (Obj.cells #[.int .i64 s.prog, .int .i64 s.tile, .int .i64 s.filt, .slice K s.whn.length kc] 26)).alloc (Obj.cells #[.int .i64 s.tile, .int .i64 s.filt] 81)) wr.heap.size 26 #[.int .i64 s.prog, .int .i64 s.tile, .int .i64 s.filt, .slice K s.whn.length kc] := (Blk.new _ _ _).alloc _
          have hq2 : Blk ((wr.alloc (Obj.cells #[.int .i64 s.prog, .int .i64 s.tile, .int .i64 s.filt, .slice K s.whn.length kc] 26)).alloc (Obj.cells #[.int .i64 s.tile, .int .i64 s.filt] 81)) (wr.heap.size + 1) 81 #[.int .i64 s.tile, .int .i64 s.filt] := by
            have := Blk.new (wr.alloc (Obj.cells #[.int .i64 s.prog, .int .i64 s.tile, .int .i64 s.filt, .slice K s.whn.length kc] 26)) 81 #[.int .i64 s.tile, .int .i64 s.filt]
            rw [World.size_alloc] at this
            exact this
          go_upto_region 9 with (fail)
          generalize ((wr.alloc (Obj.cells #[.int .i64 s.prog, .int .i64 s.tile, .int .i64 s.filt, .slice K s.whn.length kc] 26)).alloc (Obj.cells #[.int .i64 s.tile, .int .i64 s.filt] 81)) = w3 at hb3 hq1 hq2 ⊢
          have hkw : kb ≤ wr.heap.size := Nat.le_trans hkb HBR.out.size
          have HIX3 := hide (HIX.out.below hb3 hkw)
          have HEX3 := hide (hex.below (hb3.mono HBR.out.size) HKB.out)
          have HB3 := hide (HBR.out.trans (hb3.mono HBR.out.size))
          have HQL : Hid (w.heap.size ≤ wr.heap.size) := hide HBR.out.size
          obtain ⟨q1, hq1e⟩ : ∃ q1, q1 = wr.heap.size := ⟨_, rfl⟩
          obtain ⟨q2, hq2e⟩ : ∃ q2, q2 = wr.heap.size + 1 := ⟨_, rfl⟩
          rw [← hq2e] at hq2 ⊢
          rw [← hq1e] at hq1 HQL ⊢
          have HQ1 := hide hq1
          have HQ2 := hide hq2
          clear hb3 hq1 hq2 hq1e hq2e HIX HBR g0 g1 g2 g3 hex hkw hbb
          -- the map
          have hwt : -1 ≤ s.tile ∧ s.tile ≤ 600 := by
            have h := HS.out
            unfold sbValid btw at h
            simp only [Bool.and_eq_true, decide_eq_true_eq] at h
            omega
          have hwf : -1 ≤ s.filt ∧ s.filt ≤ 600 := by
            have h := HS.out
            unfold sbValid btw at h
            simp only [Bool.and_eq_true, decide_eq_true_eq] at h
            omega
          have hti : (l.take i).length = i := by rw [List.length_take]; omega
          obtain ⟨kl, hkl⟩ := Option.isSome_iff_exists.1 (key_some s.tile s.filt (wf_small hwt) (wf_small hwf))
          obtain ⟨st, es1, clock1, hme, hst⟩ := HIX3.out.map.entry (deep_law_laid (of_decide_eq_true (by kernel_rfl)) (m := 2) (by omega) (of_decide_eq_true (by kernel_rfl)) (by kernel_rfl) (by rw [Tryz.underlying81]))
            Tryz.underlying77 (by rw [hti]; unfold maxLen; omega) zero_ints ky37_inj (s.tile, s.filt) hkl
          obtain ⟨Ag, cg, hv, hown⟩ := HIX3.out.row (s.tile, s.filt)
          dsimp only at hv hown
          have HV9 := hide hv
          have HO3 := hide hown
          have hIL := idxs_len (l.take i) s.tile s.filt
          rw [hti] at hIL
          have HTI := hide hti
          clear hv hown hwt hwf hti
          have hml : m < w3.heap.size := HIX3.out.map.lt
          obtain ⟨ix, hix⟩ : ∃ ix, ix = idxs (l.take i) s.tile s.filt := ⟨_, rfl⟩
          rw [← hix] at HV9 HO3 hIL
          have HIXE := hide hix
          clear hix
          obtain ⟨W1, hW1⟩ : ∃ W, W = ChangeMaps.setBlock w3 m (.map es1 clock1) := ⟨_, rfl⟩
          have hS1 : W1.heap.size = w3.heap.size := by rw [hW1]; exact setBlock_size _ _ _
          have hme1 : ∀ o, (Instr.mapEntry 77 (.map (some m)) (.agg #[.int .i64 s.tile, .int .i64 s.filt])).run Tryz.prog (w3.alloc o).drew = .ok (.tuple #[.slice Ag ix.length cg, .int .i64 (st : Int)]) (W1.alloc o).drew := fun o => by
            have := hme (w3.alloc o).drew (Below.heap_alloc w3 o m hml)
            rw [HV9.out] at this
            rw [hW1, ← setBlock_alloc _ _ _ _ hml]
            exact this
          have HSTO : Hid (∀ val, ∃ (es' : Array MapEntry) (clock' : Nat), (∀ u : World, u.heap[m]? = some (.map es1 clock1) → (Instr.entryStore 77 (.map (some m)) (.int .i64 (st : Int)) val).run Tryz.prog u = .ok () (ChangeMaps.setBlock u m (.map es' clock'))) ∧
              ∀ u : World, u.heap[m]? = some (.map es' clock') → MapIs ky37 u Tryz.prog 81 (.slice none 0 0) m ((l.take i).length + 1) (upd Vr (s.tile, s.filt) val)) := hst
          have HOF : Hid (∀ g, (Value.slice Ag ix.length cg).ownBlock = some g → g ≠ m ∧ g < w3.heap.size) := hide (fun g hg => by
            have h := HIX3.out.row_lt (s.tile, s.filt) (g := g) (by rw [HV9.out]; exact hg)
            exact ⟨h.2.2, h.2.1⟩)
          have HO1 : Hid (Own W1 w.heap.size 3 1 Ag ix.length cg (ints ix)) := hide (Own.keepC HO3.out (fun g _ hg => by rw [hW1]; exact setBlock_far _ _ _ _ (HOF.out g hg).1))
          have HB1 : Hid (W1.heap[m]? = some (.map es1 clock1)) := hide (by rw [hW1]; exact setBlock_same _ _ _ hml)
          have HF1 : Hid (∀ k, k ≠ m → W1.heap[k]? = w3.heap[k]?) := hide (fun k hk => by rw [hW1]; exact setBlock_far _ _ _ _ hk)
          have HW1 : Hid (W1.os = w3.os ∧ W1.tape = w3.tape ∧ W1.output = w3.output) := hide (by rw [hW1]; exact ⟨rfl, rfl, rfl⟩)
          have HN1 : Hid ((W1.alloc (.cells #[.int .i64 (i : Int)] 3)).heap[w3.heap.size]? = some (.cells #[.int .i64 (i : Int)] 3)) := hide (by rw [← hS1]; exact heap_alloc_new W1 _)
          have HSW : Hid (W1.heap.size = w3.heap.size) := hide hS1
          have HWS : Hid (w.heap.size ≤ w3.heap.size) := hide HB3.out.size
          clear hW1 hme hst
          have x0 : w3.cell? ⟨q2, 0, none⟩ = some (.int .i64 s.tile) := HQ2.out.cell 0
          have x1 : w3.cell? ⟨q2, 1, none⟩ = some (.int .i64 s.filt) := HQ2.out.cell 1
          have x0' : ∀ o, (w3.alloc o).cell? ⟨q2, 0, none⟩ = some (.int .i64 s.tile) := fun o => (World.cell?_alloc_lt _ _ _ (by exact HQ2.out.lt)).trans x0
          have x1' : ∀ o, (w3.alloc o).cell? ⟨q2, 1, none⟩ = some (.int .i64 s.filt) := fun o => (World.cell?_alloc_lt _ _ _ (by exact HQ2.out.lt)).trans x1
          have p0 : w3.cell? ⟨p, 0, none⟩ = some (.map (some m)) := HIX3.out.blk.cell 0
          have p0' : ∀ o, (w3.alloc o).cell? ⟨p, 0, none⟩ = some (.map (some m)) := fun o => (World.cell?_alloc_lt _ _ _ (by exact HIX3.out.blk.lt)).trans p0
          obtain ⟨i0, hi0, hz0, hz1, hz2⟩ := info_parts int_info
          have FIN : Hid (∀ (g cap : Nat) (w4 w5 : World) (es' : Array MapEntry) (clock' : Nat), Own w4 w.heap.size 3 1 (some ⟨g, 0, none⟩) (ix.length + 1) cap (ints ix ++ [.int .i64 (i : Int)]) →
              (W1.alloc (.cells #[.int .i64 (i : Int)] 3)).drew.grownBy w4 (Value.slice Ag ix.length cg).ownBlock → ((Value.slice Ag ix.length cg).ownBlock = some g ∨ g = w3.heap.size + 1) → w5 = ChangeMaps.setBlock w4 m (.map es' clock') →
              (∀ u : World, u.heap[m]? = some (.map es' clock') → MapIs ky37 u Tryz.prog 81 (.slice none 0 0) m ((l.take i).length + 1) (upd Vr (s.tile, s.filt) (.slice (some ⟨g, 0, none⟩) (ix.length + 1) cap))) →
              (∃ V, IxIn w5 w.heap.size kb p m Ar cr V kss (l.take (i + 1)) (l.take i)) ∧ Below w.heap.size w w5 ∧ ExprA w5 w.heap.size kb K s.whn ∧ Blk w5 q1 26 #[.int .i64 s.prog, .int .i64 s.tile, .int .i64 s.filt, .slice K s.whn.length kc]) := by
            intro g cap w4 w5 es' clock' hown4 hgrow4 hat4 hw5 hmap
            have hsw := HSW.out
            have hti := HTI.out
            have sz4 : w3.heap.size + 1 ≤ w4.heap.size := by
              have h := hgrow4.size
              have e : (W1.alloc (.cells #[.int .i64 (i : Int)] 3)).drew.heap.size = w3.heap.size + 1 := by rw [← hsw]; simp [World.drew]
              rw [e] at h
              exact h
            have hb4 : ∀ k, k < w3.heap.size → k ≠ m → some k ≠ (Value.slice Ag ix.length cg).ownBlock → w4.heap[k]? = w3.heap[k]? := fun k h1 h2 h3 =>
              ((hgrow4.block k (by show k < (W1.alloc _).heap.size; simp; omega) h3).trans (Below.heap_alloc W1 _ k (by omega))).trans (HF1.out k h2)
            obtain ⟨hin, hk5⟩ := HIX3.out.put9 hkb s (w4 := w4) (g := g) (cap := cap) (es' := es') (clock' := clock') (by rw [← HIXE.out, hti]; exact hown4) (fun k h1 h2 h3 => hb4 k h1 h2 (by rw [← HV9.out]; exact h3)) sz4 (by rw [HV9.out]; exact hat4) (by rw [← HIXE.out]; exact hmap)
            rw [← hw5] at hin hk5
            have hh := HIX3.out
            have hnr : ∀ k, k < w.heap.size → k ≠ m ∧ some k ≠ (Vr (s.tile, s.filt)).ownBlock := fun k hk => by
              refine ⟨?_, fun e => ?_⟩
              · have := hh.hm; omega
              · have := (hh.row_lt _ e.symm).1; omega
            have hws := HWS.out
            have hb35 : Below w.heap.size w3 w5 := by
              refine ⟨?_, ?_, ?_, ?_, fun k hk => hk5 k (by omega) (hnr k hk).1 (hnr k hk).2⟩
              · rw [hw5]; exact hgrow4.os.trans HW1.out.1
              · rw [hw5]; exact hgrow4.tape.trans HW1.out.2.1
              · rw [hw5]; exact hgrow4.output.trans HW1.out.2.2
              · rw [hw5, setBlock_size]; omega
            have hsub : 26 ≠ 3 := by decide
            refine ⟨⟨_, by rw [HTK.out]; exact hin⟩, HB3.out.trans hb35, HEX3.out.below hb35 HKB.out, ?_⟩
            exact (hk5 q1 HQ1.out.lt (hh.ne_map HQ1.out) (hh.ne_row HQ1.out hsub _)).trans HQ1.out
          go_upto_region 9 with (fail)
          go_cut [] (fun wx => (∃ V, IxIn wx w.heap.size kb p m Ar cr V kss (l.take (i + 1)) (l.take i)) ∧ Below w.heap.size w wx ∧ ExprA wx w.heap.size kb K s.whn ∧ Blk wx q1 26 #[.int .i64 s.prog, .int .i64 s.tile, .int .i64 s.filt, .slice K s.whn.length kc])
          case first =>
            go_region_law ((refine step_append_lies _ (by rfl) _ _ _ (by rfl) w.heap.size 3 i0 _ 1 8 Tryz.underlying31 hi0 hz0 hz1 hz2 rfl (by omega) (.slice Ag ix.length cg) ix.length (ints ix) (by rfl) (Own.alloc HO1.out _) ⟨w3.heap.size, 0, none⟩ 1 1 [.int .i64 (i : Int)] (by rfl) (by rfl) (World.news_of_block (cs := #[.int .i64 (i : Int)]) (t := 3) (fr := (0, 0)) HN1.out) (by simp [Value.oneCell']) (by omega) (by unfold maxLen; omega) (by omega) (by have := HSW.out; have := HWS.out; simp; omega) (w3.heap.size + 1) (by simp [HSW.out]) ?_; intro g cap w4 hown4 hgrow4 hat4 hlt4; obtain ⟨es', clock', hse0, hmap⟩ := HSTO.out (.slice (some ⟨g, 0, none⟩) (ix.length + 1) cap); have hse := hse0 w4 ((hgrow4.block m (by show m < (W1.alloc _).heap.size; simp; have := HSW.out; omega) (fun e => (HOF.out m e.symm).1 rfl)).trans ((Below.heap_alloc W1 _ m (by have := HSW.out; omega)).trans HB1.out)); clear hse0))
            all_goals (clear hse; have RES := hide (FIN.out g cap w4 _ es' clock' hown4 hgrow4 hat4 rfl hmap); clear hmap hown4 hgrow4 FIN; generalize ChangeMaps.setBlock w4 m (.map es' clock') = w5 at RES ⊢)
            all_goals
              go_wp2_with fail
              go_meet
              exact RES.out
          case rest =>
          obtain ⟨⟨V5, hix5⟩, hb5, hex5, hq5⟩ := hcut
          have HIX5 := hide hix5
          have HB5 := hide hb5
          have HEX5 := hide hex5
          have HLN : Hid ((l.take i).length = i ∧ s.whn.length ≤ 300) := hide ⟨HTI.out, sb_len HS.out⟩
          have hil5 := HLN.out
          have y3 : wc.cell? ⟨q1, 3, none⟩ = some (.slice K s.whn.length kc) := hq5.cell 3
          have z1 : wc.cell? ⟨p, 1, none⟩ = some (.slice Ar i cr) := by
            have h := hix5.blk.cell 1
            rw [HTI.out] at h
            exact h
          have HPL := hide hix5.blk.lt
          clear hix5 hb5 hex5 hq5 FIN HIX3 HEX3 HB3 HQ1 HQ2 hkl HTI hml hIL HO3 HV9 HIXE hS1 hme1 HSTO HOF HO1 HB1 HF1 HW1 HN1 HSW HWS x0 x1 x0' x1' p0 p0' hi0 hz0 hz1 hz2
          obtain ⟨w6, hw6⟩ : ∃ w6 : World, w6 = wc := ⟨_, rfl⟩
          subst hw6
          -- the conditions' row
          have HSB : Hid (w.heap.size ≤ w6.heap.size) := hide HB5.out.size
          have FIN10 : Hid (∀ (w7 : World) (KA : Option Addr) (KC : Nat), ExprK w7 w6.heap.size kb KA KC s.whn → Below w6.heap.size w6 w7 →
              Own (w7.alloc (Obj.cells #[.slice KA s.whn.length KC] 24)) w.heap.size 24 1 Ar i cr (cellsW (l.take i) kss) ∧
              Reads (w7.alloc (Obj.cells #[.slice KA s.whn.length KC] 24)) (w7.heap.size + 1) 1 (some ⟨w7.heap.size, 0, none⟩) 1 [.slice KA s.whn.length KC] ∧ w.heap.size ≤ (w7.alloc (Obj.cells #[.slice KA s.whn.length KC] 24)).heap.size ∧
              w7.cell? ⟨p, 1, none⟩ = some (.slice Ar i cr) ∧ (∀ o, (w7.alloc o).cell? ⟨p, 1, none⟩ = some (.slice Ar i cr)) ∧
              ∀ (A9 : Option Addr) (c9 : Nat) (w9 : World), Own w9 w.heap.size 24 1 A9 (i + 1) c9 (cellsW (l.take i) kss ++ [.slice KA s.whn.length KC]) → (w7.alloc (Obj.cells #[.slice KA s.whn.length KC] 24)).grownBy w9 (Value.slice Ar i cr).ownBlock →
                w9.cell? ⟨p, 1, none⟩ = some (.slice Ar i cr) ∧ w9.frozen? ⟨p, 1, none⟩ = false ∧
                (∃ A c V kss, IxIn (w9.setCell ⟨p, 1, none⟩ (.slice A9 (i + 1) c9)) w.heap.size kb p m A c V kss (l.take (i + 1)) (l.take (i + 1))) ∧ Below w.heap.size w (w9.setCell ⟨p, 1, none⟩ (.slice A9 (i + 1) c9))) := hide (fun w7 KA KC hex hb7 => by
            have hsb := HSB.out
            have hti := HLN.out.1
            have hkw : kb ≤ w6.heap.size := Nat.le_trans hkb hsb
            have hb8 : Below w7.heap.size w7 (w7.alloc (Obj.cells #[.slice KA s.whn.length KC] 24)) := (Below.refl _ _).alloc (Nat.le_refl _) _
            have hb68 : Below w6.heap.size w6 (w7.alloc (Obj.cells #[.slice KA s.whn.length KC] 24)) := hb7.trans (hb8.mono hb7.size)
            have hix := HIX5.out.below hb68 hkw
            have hix7 := HIX5.out.below hb7 hkw
            have hp7 : w7.cell? ⟨p, 1, none⟩ = some (.slice Ar i cr) := by
              have h := hix7.blk.cell 1
              rw [hti] at h
              exact h
            have hex8 : ExprK (w7.alloc (Obj.cells #[.slice KA s.whn.length KC] 24)) w.heap.size kb KA KC s.whn := (hex.keep (fun q hq => hb8.cell (by have := hb7.size; omega)) (fun g _ hg _ => hb8.block g hg)).low hsb
            refine ⟨by have h := hix.whn; rw [hti] at h; exact h, reads_new w7 _ 24 1 1 rfl, Nat.le_trans hsb hb68.size, hp7, fun o => (World.cell?_alloc_lt _ _ _ (by exact hix7.blk.lt)).trans hp7, fun A9 c9 w9 hown hg => ?_⟩
            obtain ⟨hb9, hin⟩ := hix.put10 hkb s hex8 (A9 := A9) (c9 := c9) (w9 := w9) (by rw [hti]; exact hown) (by rw [hti]; exact hg)
            rw [hti] at hb9 hin
            rw [← HTK.out] at hin
            have hrow : ∀ g, (Value.slice Ar i cr).ownBlock = some g → w.heap.size ≤ g := fun g hg => by
              have h := hix.whn
              rw [hti] at h
              exact (World.ownsRow.lt h g hg).1
            have hb89 : Below w.heap.size (w7.alloc (Obj.cells #[.slice KA s.whn.length KC] 24)) w9 := (Below.refl _ _).grown hg (Nat.le_trans hsb hb68.size) (fun k hk => hrow k hk)
            exact ⟨hb9.cell 1, hb9.frozen 1, ⟨_, _, _, _, hin⟩, ((HB5.out.trans (hb68.mono hsb)).trans hb89).setCell (p := ⟨p, 1, none⟩) hix.hp _⟩)
          have hmx : i + 1 ≤ maxLen := by unfold maxLen; omega
          have hby : (i + 1) * 24 ≤ 140737488355328 := by omega
          have hkw : kb ≤ w6.heap.size := Nat.le_trans hkb HSB.out
          go_upto_region 10 with (fail)
          go_region_law ((first
            | (rw [if_pos (by rfl)]; go_simp; go_at_call 48; refine (sclone_any K kc s.whn kb w6.drew ((HEX5.out.below (Below.drew (Below.refl _ _)) HKB.out).more HSB.out) hkw (by have := HLN.out; omega)).mono ?_; rintro en w7 ⟨KA, KC, rfl, hex7, hb7⟩; obtain ⟨f1, f2, f3, f4, f5, f6⟩ := FIN10.out w7 KA KC hex7 (Below.trans (Below.drew (Below.refl _ _)) hb7); have F1 := hide f1; have F2 := hide f2; have F6 := hide f6; clear f1 f2 f6 hex7 hb7)
            | (refine step_appG (by rfl) _ _ _ (by rfl) w.heap.size 24 (.slice none 0 0) 1 24 Tryz.underlying78 expr_info rfl (by omega) Ar i cr (cellsW (l.take i) kss) (by rfl) (by exact F1.out) _ _ 1 _ [.slice KA s.whn.length KC] (by rfl) (by exact F2.out) (by simp [Value.oneCell']) hmx hby f3 ?_; intro A9 c9 w9 hown9 hg9 _; obtain ⟨k1, k2, k3, k4⟩ := F6.out A9 c9 w9 hown9 hg9; have K34 := hide (And.intro k3 k4); clear hown9 hg9 k3 k4)))
          all_goals (have K34' := hide K34.out; clear K34 k1 k2 F1 F2 F6 f3 f4 f5 y3 z1 FIN10; generalize w9.setCell ⟨p, 1, none⟩ (.slice A9 (i + 1) c9) = w10 at K34' ⊢)
          all_goals
            go_wp2
            go_roundw
            case rel => exact ⟨i + 1, by omega, by go_num, K34'.out.1, K34'.out.2⟩
            case measure => simp [intOf]; omega
        · obtain rfl : i = n := by omega
          have HFIN : Hid (IxAt wr w.heap.size kb p l) := hide (by
            have h := HIX.out
            rw [List.take_of_length_le (by rw [HNN.out]; exact Nat.le_refl _)] at h
            exact ⟨_, _, _, _, _, h⟩)
          clear HIX
          go_wp2
          go_ret2
          exact ⟨by rw [if_pos HR.out]; exact ⟨p, rfl, HFIN.out⟩, HBR.out⟩
  · have hd : decide ((64 : Int) < (l.length : Int)) = true := decide_eq_true (by omega)
    have HR : Hid (sbsValid l = false) := hide (by rw [HV.out, decide_eq_false h64]; rfl)
    clear h64
    go_wp2
    go_ret2
    exact NewPost.bad HR.out (Below.refl _ _)
end Go.Proofs.YtkomgidcgepknaaGreatDoor

set_option linter.unusedVariables false
set_option linter.unusedSimpArgs false
namespace Go.Proofs.YtkomgidcgepknaaGreatDoor
open Go.RowKit Go.Deep Go.Maps

theorem imatch_nil (a : Al) (w : World) : Calls Tryz.prog 20 #[.pointer none, .agg a.cells] w fun e w' => e = .returned (.tuple #[.slice none 0 0, .int .i64 0, .int .i64 1]) ∧ Below w.heap.size w w' := by
  have hb : Below w.heap.size w ((w.alloc (Obj.cells #[.pointer none] 35)).alloc (Obj.cells #[.int .i64 a.tile, .int .i64 a.cell, .int .i64 a.filt, .int .i64 a.val, .int .i64 a.mom] 28)) := ((Below.refl _ _).alloc (Nat.le_refl _) _).alloc (by simp) _
  have HB := hide hb
  clear hb
  unfold Al.cells
  go_enter Tryz.func20, Tryz.ntmps20
  go_wp2
  refine bodyPost_ret (v := .tuple #[.slice none 0 0, .int .i64 0, .int .i64 1]) (by simp [results, Tryz.results20, go_sem]) rfl ?_
  exact ⟨rfl, HB.out⟩
theorem imatch_bad (p : Nat) (a : Al) (w : World) (ha : alValid a = false) : Calls Tryz.prog 20 #[.pointer (some ⟨p, 0, none⟩), .agg a.cells] w fun e w' => e = .returned (.tuple #[.slice none 0 0, .int .i64 0, .int .i64 1]) ∧ Below w.heap.size w w' := by
  have hb : Below w.heap.size w ((w.alloc (Obj.cells #[.pointer (some ⟨p, 0, none⟩)] 35)).alloc (Obj.cells #[.int .i64 a.tile, .int .i64 a.cell, .int .i64 a.filt, .int .i64 a.val, .int .i64 a.mom] 28)) := ((Below.refl _ _).alloc (Nat.le_refl _) _).alloc (by simp) _
  have HB := hide hb
  have HA := hide ha
  clear hb ha
  unfold Al.cells
  go_enter Tryz.func20, Tryz.ntmps20
  go_wp2_with fail
  generalize ((w.alloc (Obj.cells #[.pointer (some ⟨p, 0, none⟩)] 35)).alloc (Obj.cells #[.int .i64 a.tile, .int .i64 a.cell, .int .i64 a.filt, .int .i64 a.val, .int .i64 a.mom] 28)) = wA at HB ⊢
  refine (alert_any a wA).mono ?_
  rintro e w1 ⟨rfl, hb1⟩
  rw [HA.out]
  have HB1 := hide (HB.out.trans (hb1.mono HB.out.size))
  clear hb1
  go_wp2
  refine bodyPost_ret (v := .tuple #[.slice none 0 0, .int .i64 0, .int .i64 1]) (by simp [results, Tryz.results20, go_sem]) rfl ?_
  exact ⟨rfl, HB1.out⟩
/-- What Match answers: the matches and the error. -/
def matchF (l : List Sb) (a : Al) : List Int × Int := if sbsValid l = true ∧ alValid a = true then (matchL l a, 0) else ([], 1)
def FMPost (w : World) (l : List Sb) (a : Al) (e : Ending) (w' : World) : Prop :=
  ∃ A c, e = .returned (.tuple #[.slice A (matchF l a).1.length c, .int .i64 (matchF l a).2]) ∧ RI w' w'.heap.size A (matchF l a).1.length (matchF l a).1 ∧ Below w.heap.size w w'
theorem FMPost.bad {w w' : World} {l : List Sb} {a : Al} (h : ¬ (sbsValid l = true ∧ alValid a = true)) (hb : Below w.heap.size w w') : FMPost w l a (.returned (.tuple #[.slice none 0 0, .int .i64 1])) w' := by
  unfold FMPost matchF
  rw [if_neg h]
  exact ⟨none, 0, rfl, RI.none_, hb⟩
theorem sbs_len {l : List Sb} (h : sbsValid l = true) : l.length ≤ 64 := by
  unfold sbsValid at h
  simp only [Bool.and_eq_true, decide_eq_true_eq] at h
  exact h.1
set_option maxHeartbeats 2000000 in
theorem fmatch_any (A : Option Addr) (c : Nat) (l : List Sb) (a : Al) (w : World) (h : SubsAt w w.heap.size A l) (ho : SbsOk l) (hn : l.length ≤ maxLen) :
    Calls Tryz.prog 13 #[.slice A l.length c, .agg a.cells] w (FMPost w l a) := by
  have HO := hide ho
  have hb0 : Below w.heap.size w (w.alloc (Obj.cells a.cells 28)) := (Below.refl _ _).alloc (Nat.le_refl _) _
  have hq0 : Blk (w.alloc (Obj.cells a.cells 28)) w.heap.size 28 a.cells := Blk.new _ _ _
  have H := hide (SubsK.of (h.next hb0))
  have HN := hide hn
  have HB0 := hide hb0
  have HQ0 := hide hq0
  clear h ho hn hb0 hq0
  go_enter Tryz.func13, Tryz.ntmps13
  go_wp2_with fail
  generalize w.alloc (Obj.cells a.cells 28) = w0 at H HB0 HQ0 ⊢
  obtain ⟨q, hq⟩ : ∃ q, q = w.heap.size := ⟨_, rfl⟩
  rw [← hq] at HQ0 ⊢
  clear hq
  refine (fnew_any A c l w0.heap.size w0 H.out (Nat.le_refl _) HO.out HN.out).mono ?_
  rintro e w1 ⟨hp, hb1⟩
  have HB1 := hide (HB0.out.trans (hb1.mono HB0.out.size))
  have hq1 := HQ0.out.below hb1 HQ0.out.lt
  have a0 : w1.cell? ⟨q, 0, none⟩ = some (.int .i64 a.tile) := hq1.cell 0
  have a1 : w1.cell? ⟨q, 1, none⟩ = some (.int .i64 a.cell) := hq1.cell 1
  have a2 : w1.cell? ⟨q, 2, none⟩ = some (.int .i64 a.filt) := hq1.cell 2
  have a3 : w1.cell? ⟨q, 3, none⟩ = some (.int .i64 a.val) := hq1.cell 3
  have a4 : w1.cell? ⟨q, 4, none⟩ = some (.int .i64 a.mom) := hq1.cell 4
  have HS1 : Hid (w0.heap.size ≤ w1.heap.size) := hide hb1.size
  clear hq1
  cases hv : sbsValid l
  · rw [if_neg (by rw [hv]; decide)] at hp
    subst hp
    have HF : Hid (¬ (sbsValid l = true ∧ alValid a = true)) := hide (fun e => by rw [hv] at e; cases e.1)
    clear hv hb1
    go_wp2
    go_ret2
    exact FMPost.bad HF.out HB1.out
  · rw [if_pos hv] at hp
    obtain ⟨p, rfl, hix⟩ := hp
    have HIX := hide hix
    have HV := hide hv
    clear hix hv hb1
    cases hav : alValid a
    · have HF : Hid (¬ (sbsValid l = true ∧ alValid a = true)) := hide (fun e => by rw [hav] at e; cases e.2)
      have HA := hide hav
      clear hav
      go_wp2_with fail
      refine (imatch_bad p a w1 HA.out).mono ?_
      rintro e w2 ⟨rfl, hb2⟩
      have HB2 := hide (HB1.out.trans (hb2.mono HB1.out.size))
      clear hb2
      go_wp2
      go_ret2
      exact FMPost.bad HF.out HB2.out
    · have HM : Hid (matchF l a = (matchL l a, 0)) := hide (by unfold matchF; rw [if_pos ⟨HV.out, hav⟩])
      have HA := hide hav
      clear hav
      go_wp2_with fail
      refine (imatch_any p a l w0.heap.size w0.heap.size w1 HIX.out HS1.out HA.out HO.out (sbs_len HV.out)).mono ?_
      rintro e w2 ⟨A2, c2, rfl, hr2, hb2⟩
      have HB2 := hide (HB1.out.trans (hb2.mono HB1.out.size))
      have HR2 := hide hr2
      clear hb2 hr2
      go_wp2
      go_ret2
      exact ⟨A2, c2, by rw [HM.out]; rfl, by rw [HM.out]; exact HR2.out, HB2.out⟩
end Go.Proofs.YtkomgidcgepknaaGreatDoor

set_option linter.unusedVariables false
set_option linter.unusedSimpArgs false
namespace Go.Proofs.YtkomgidcgepknaaGreatDoor

/-- Does a subscription concern an alert? -/
def conc (s : Sb) (a : Al) : Bool := (decide (s.tile = -1) || decide (s.tile = a.tile)) && (decide (s.filt = -1) || decide (s.filt = a.filt))
def concL (l : List Sb) (a : Al) : List Int := ((List.range l.length).filter fun i => conc (sbAt l i) a).map fun i : Nat => (i : Int)
theorem incrI_same : ∀ {l m : List Int}, l.Pairwise (· < ·) → m.Pairwise (· < ·) → (∀ x, x ∈ l ↔ x ∈ m) → l = m
  | [], [], _, _, _ => rfl
  | [], y :: m, _, _, h => absurd ((h y).2 List.mem_cons_self) (by simp)
  | x :: l, [], _, _, h => absurd ((h x).1 List.mem_cons_self) (by simp)
  | x :: l, y :: m, h1, h2, h => by
    rw [List.pairwise_cons] at h1 h2
    have hxy : x = y := by
      rcases List.mem_cons.1 ((h x).1 List.mem_cons_self) with e | e
      · exact e
      · have a1 := h2.1 x e
        rcases List.mem_cons.1 ((h y).2 List.mem_cons_self) with e' | e'
        · omega
        · have a2 := h1.1 y e'
          omega
    subst hxy
    congr 1
    refine incrI_same h1.2 h2.2 fun z => ⟨fun hz => ?_, fun hz => ?_⟩
    · rcases List.mem_cons.1 ((h z).1 (List.mem_cons_of_mem _ hz)) with e | e
      · have := h1.1 z hz; omega
      · exact e
    · rcases List.mem_cons.1 ((h z).2 (List.mem_cons_of_mem _ hz)) with e | e
      · have := h2.1 z hz; omega
      · exact e
theorem castI_incr {l : List Nat} (h : l.Pairwise (· < ·)) : (l.map fun i : Nat => (i : Int)).Pairwise (· < ·) := by
  rw [List.pairwise_map]
  exact h.imp fun h => by omega
theorem idxs_incr (l : List Sb) (t f : Int) : (idxs l t f).Pairwise (· < ·) := castI_incr (List.Pairwise.filter _ List.pairwise_lt_range)
theorem conc_incr (l : List Sb) (a : Al) : (concL l a).Pairwise (· < ·) := castI_incr (List.Pairwise.filter _ List.pairwise_lt_range)
theorem idxs_iff {l : List Sb} {t f x : Int} : x ∈ idxs l t f ↔ ∃ i : Nat, x = (i : Int) ∧ i < l.length ∧ (sbAt l i).tile = t ∧ (sbAt l i).filt = f := by
  refine ⟨idxs_mem, ?_⟩
  rintro ⟨i, rfl, h1, h2, h3⟩
  unfold idxs
  exact List.mem_map.2 ⟨i, List.mem_filter.2 ⟨List.mem_range.2 h1, decide_eq_true ⟨h2, h3⟩⟩, rfl⟩
theorem conc_iff {l : List Sb} {a : Al} {x : Int} : x ∈ concL l a ↔ ∃ i : Nat, x = (i : Int) ∧ i < l.length ∧ conc (sbAt l i) a = true := by
  unfold concL
  constructor
  · intro h
    obtain ⟨i, hi, rfl⟩ := List.mem_map.1 h
    obtain ⟨h1, h2⟩ := List.mem_filter.1 hi
    exact ⟨i, rfl, List.mem_range.1 h1, h2⟩
  · rintro ⟨i, rfl, h1, h2⟩
    exact List.mem_map.2 ⟨i, List.mem_filter.2 ⟨List.mem_range.2 h1, h2⟩, rfl⟩
theorem cat_iff {l : List Sb} {a : Al} {x : Int} : x ∈ catL37 l a ↔ x ∈ concL l a := by
  rw [conc_iff]
  unfold catL37
  simp only [List.mem_append, idxs_iff]
  constructor
  · rintro (((⟨i, rfl, h1, h2, h3⟩ | ⟨i, rfl, h1, h2, h3⟩) | ⟨i, rfl, h1, h2, h3⟩) | ⟨i, rfl, h1, h2, h3⟩) <;> exact ⟨i, rfl, h1, by simp [conc, h2, h3]⟩
  · rintro ⟨i, rfl, h1, h2⟩
    simp only [conc, Bool.and_eq_true, Bool.or_eq_true, decide_eq_true_eq] at h2
    rcases h2 with ⟨h2 | h2, h3 | h3⟩
    · exact .inl (.inl (.inl ⟨i, rfl, h1, h2, h3⟩))
    · exact .inl (.inl (.inr ⟨i, rfl, h1, h2, h3⟩))
    · exact .inl (.inr ⟨i, rfl, h1, h2, h3⟩)
    · exact .inr ⟨i, rfl, h1, h2, h3⟩
theorem al_of {a : Al} (h : alValid a = true) : 0 ≤ a.tile ∧ 0 ≤ a.filt := by
  unfold alValid btw at h
  simp only [Bool.and_eq_true, decide_eq_true_eq] at h
  omega
theorem nodup_of {l : List Int} (h : l.Pairwise (· < ·)) : l.Nodup := h.imp fun h => by omega
theorem cat_nodup {l : List Sb} {a : Al} (ha : alValid a = true) : (catL37 l a).Nodup := by
  obtain ⟨h1, h2⟩ := al_of ha
  unfold catL37
  have key : ∀ (t f t' f' : Int), (t ≠ t' ∨ f ≠ f') → ∀ x, x ∈ idxs l t f → x ∈ idxs l t' f' → False := fun t f t' f' hne x hx hx' => by
    obtain ⟨i, rfl, _, e1, e2⟩ := idxs_mem hx
    obtain ⟨j, e, _, e3, e4⟩ := idxs_mem hx'
    have : i = j := by omega
    subst this
    rcases hne with h | h
    · exact h (e1.symm.trans e3)
    · exact h (e2.symm.trans e4)
  refine List.nodup_append.2 ⟨List.nodup_append.2 ⟨List.nodup_append.2 ⟨nodup_of (idxs_incr _ _ _), nodup_of (idxs_incr _ _ _), ?_⟩, nodup_of (idxs_incr _ _ _), ?_⟩, nodup_of (idxs_incr _ _ _), ?_⟩
  · rintro x hx y hy rfl
    exact key _ _ _ _ (.inr (by omega)) x hx hy
  · rintro x hx y hy rfl
    rcases List.mem_append.1 hx with h | h
    · exact key _ _ _ _ (.inl (by omega)) x h hy
    · exact key _ _ _ _ (.inl (by omega)) x h hy
  · rintro x hx y hy rfl
    rcases List.mem_append.1 hx with h | h
    · rcases List.mem_append.1 h with h | h
      · exact key _ _ _ _ (.inl (by omega)) x h hy
      · exact key _ _ _ _ (.inl (by omega)) x h hy
    · exact key _ _ _ _ (.inr (by omega)) x h hy
theorem srt_incr {l : List Int} (h : l.Nodup) : (srt l).Pairwise (· < ·) := by
  have h1 : (srt l).Pairwise fun a b => decide (a ≤ b) = true := List.pairwise_mergeSort (fun a b c hab hbc => decide_eq_true (by have := of_decide_eq_true hab; have := of_decide_eq_true hbc; omega)) (fun a b => by by_cases hab : a ≤ b <;> simp [hab] <;> omega) l
  have h2 : (srt l).Nodup := (List.mergeSort_perm l _).nodup_iff.2 h
  have h3 := h1.and h2
  exact h3.imp fun ⟨ha, hb⟩ => by have := of_decide_eq_true ha; omega
theorem srt_mem {l : List Int} {x : Int} : x ∈ srt l ↔ x ∈ l := (List.mergeSort_perm l _).mem_iff
theorem match_eq {l : List Sb} {a : Al} (ha : alValid a = true) (h : Int → Bool) : srt ((catL37 l a).filter h) = (concL l a).filter h := by
  refine incrI_same (srt_incr ((cat_nodup ha).filter _)) (List.Pairwise.filter _ (conc_incr l a)) fun x => ?_
  rw [srt_mem, List.mem_filter, List.mem_filter, cat_iff]
theorem matchL_eq {l : List Sb} {a : Al} (ha : alValid a = true) : matchL l a = (concL l a).filter (hitL l a) := match_eq ha _
theorem cat_len {l : List Sb} {a : Al} (ha : alValid a = true) : (catL37 l a).length = (concL l a).length := by
  have h := match_eq (l := l) ha (fun _ => true)
  have e1 : (catL37 l a).filter (fun _ => true) = catL37 l a := List.filter_eq_self.2 (fun _ _ => rfl)
  have e2 : (concL l a).filter (fun _ => true) = concL l a := List.filter_eq_self.2 (fun _ _ => rfl)
  rw [e1, e2] at h
  rw [← h, srt_len]
end Go.Proofs.YtkomgidcgepknaaGreatDoor

set_option linter.unusedVariables false
set_option linter.unusedSimpArgs false
namespace Go.Proofs.YtkomgidcgepknaaGreatDoor
open Go.RowKit Go.Deep Go.Maps

theorem nths_eq {xs ys : List Int} (hl : xs.length = ys.length) (h : ∀ i, i < xs.length → nth xs i = nth ys i) : xs = ys := by
  refine List.ext_getElem hl fun i h1 h2 => ?_
  have := h i h1
  rw [nth_eq h1, nth_eq h2] at this
  exact this
set_option maxHeartbeats 2000000 in
theorem ints37_any (A : Option Addr) (ca : Nat) (xs : List Int) (B : Option Addr) (cb : Nat) (ys : List Int) (w : World) (hx : RI w w.heap.size A xs.length xs) (hy : RI w w.heap.size B ys.length ys) (hm : xs.length ≤ 100000) (hn : ys.length ≤ 100000) :
    Calls Tryz.prog 18 #[.slice A xs.length ca, .slice B ys.length cb] w fun e w' => e = .returned (.bool (decide (xs = ys))) ∧ ∃ m, w' = w.drewN m := by
  have HX := hide hx
  have HY := hide hy
  obtain ⟨n, hnn⟩ : ∃ n, n = xs.length := ⟨_, rfl⟩
  have HNN := hide hnn
  by_cases hl : xs.length = ys.length
  · have HL := hide hl
    rw [← hl] at hn ⊢
    rw [← hnn] at hm hn ⊢
    clear hx hy hl hnn
    go_enter Tryz.func18, Tryz.ntmps18
    go_wp2
    go_loopw [5] (fun t5 wr => ∃ i : Nat, i ≤ n ∧ t5 = .int .i64 i ∧ (∀ j, j < i → nth xs j = nth ys j) ∧ ∃ m, wr = w.drewN m) (fun t5 _ => n - (intOf t5).toNat)
    case atStart => exact ⟨0, Nat.zero_le _, rfl, fun j hj => absurd hj (Nat.not_lt_zero _), 0, rfl⟩
    case round =>
      obtain ⟨i, hi, rfl, hall, m, hwm⟩ := hrel
      have HALL := hide hall
      have HW := hide hwm
      clear hall hwm
      by_cases hlt : i < n
      · obtain ⟨b1, o1, rfl, hb1, g1⟩ := HX.out.at_ (k := i) (by rw [← HNN.out]; exact hlt)
        obtain ⟨b2, o2, rfl, hb2, g2⟩ := HY.out.at_ (k := i) (by rw [← HL.out, ← HNN.out]; exact hlt)
        have g1 : wr.cell? ⟨b1, o1 + i, none⟩ = some (.int .i64 (nth xs i)) := by rw [HW.out]; exact g1
        have g2 : wr.cell? ⟨b2, o2 + i, none⟩ = some (.int .i64 (nth ys i)) := by rw [HW.out]; exact g2
        have HNX : Hid (nth xs i = nth ys i → ∀ j, j < i + 1 → nth xs j = nth ys j) := hide (fun he j hj => by
          by_cases hji : j < i
          · exact HALL.out j hji
          · obtain rfl : j = i := by omega
            exact he)
        have HNE : Hid (nth xs i ≠ nth ys i → xs ≠ ys) := hide (fun h e => h (by rw [e]))
        generalize nth xs i = x at g1 HNX HNE
        generalize nth ys i = y at g2 HNX HNE
        by_cases hxy : x = y
        · subst hxy
          have HN2 := hide (HNX.out rfl)
          clear HNX HNE HALL
          go_upto_region 6 with (fail)
          go_quiet (fail)
          go_wp2
          go_roundw
          case rel => exact ⟨i + 1, by omega, by go_num, HN2.out, m + nq, by rw [HW.out, World.drewN_drewN]⟩
          case measure => simp [intOf]; omega
        · have hxy' : (x == y) = false := beq_eq_false_iff_ne.2 hxy
          have HF : Hid (decide (xs = ys) = false) := hide (decide_eq_false (HNE.out hxy))
          clear HNX HNE HALL hxy
          go_upto_region 6 with (fail)
          go_quiet (fail)
          go_wp2
          go_ret
          exact ⟨by rw [HF.out]; rfl, m + nq, by rw [HW.out, World.drewN_drewN]⟩
      · obtain rfl : i = n := by omega
        have HT : Hid (decide (xs = ys) = true) := hide (decide_eq_true (nths_eq HL.out (fun j hj => HALL.out j (by rw [HNN.out]; exact hj))))
        go_wp2
        go_ret
        exact ⟨by rw [HT.out]; rfl, m, HW.out⟩
  · have HF : Hid (decide (xs = ys) = false) := hide (decide_eq_false (fun e => hl (by rw [e])))
    have hl' : ((xs.length : Int) == (ys.length : Int)) = false := beq_eq_false_iff_ne.2 (by omega)
    clear hx hy HX HY HNN
    go_enter Tryz.func18, Tryz.ntmps18
    go_wp2
    go_ret
    exact ⟨by rw [HF.out]; rfl, 0, rfl⟩

/-- Are subscriptions few and small? -/
def few37 (l : List Sb) : Bool := (l.take 65).all (fun s => decide (s.whn.length ≤ 30) && few21 s.whn) && (decide (l.length ≤ 8) || decide (l.length = 64) || decide (l.length = 65))
theorem few37_len {l : List Sb} (h : few37 l = true) : l.length ≤ 65 := by
  unfold few37 at h
  simp only [Bool.and_eq_true, Bool.or_eq_true, decide_eq_true_eq] at h
  omega
theorem few37_all {l : List Sb} (h : few37 l = true) : ∀ s ∈ l, s.whn.length ≤ 30 ∧ few21 s.whn = true := by
  have hl := few37_len h
  unfold few37 at h
  simp only [Bool.and_eq_true] at h
  have h1 := h.1
  rw [List.take_of_length_le hl] at h1
  intro s hs
  have := List.all_eq_true.1 h1 s hs
  simpa using this
set_option maxHeartbeats 4000000 in
theorem few37_any (A : Option Addr) (c : Nat) (l : List Sb) (w : World) (h : SubsAt w w.heap.size A l) (ho : SbsOk l) (hn : l.length ≤ maxLen) :
    Calls Tryz.prog 43 #[.slice A l.length c] w fun e w' => e = .returned (.bool (few37 l)) ∧ w = w' := by
  have H := hide h
  have HO := hide ho
  have HM := hide hn
  unfold maxLen at hn
  have HF : Hid (few37 l = ((l.take 65).all (fun s => decide (s.whn.length ≤ 30) && few21 s.whn) && (decide (l.length ≤ 8) || decide (l.length = 64) || decide (l.length = 65)))) := rfl
  obtain ⟨n, hnn⟩ : ∃ n, n = l.length := ⟨_, rfl⟩
  have HNN := hide hnn
  rw [← hnn] at hn ⊢
  clear h ho hnn
  go_enter Tryz.func43, Tryz.ntmps43
  go_wp2
  go_loopw [3] (fun t3 wr => ∃ i : Nat, i ≤ n ∧ i ≤ 65 ∧ t3 = .int .i64 i ∧ (∀ j, j < i → (sbAt l j).whn.length ≤ 30 ∧ few21 (sbAt l j).whn = true) ∧ w = wr) (fun t3 _ => n - (intOf t3).toNat)
  case atStart => exact ⟨0, Nat.zero_le _, Nat.zero_le _, rfl, fun j hj => absurd hj (Nat.not_lt_zero _), rfl⟩
  case round =>
    obtain ⟨i, hi, hi65, rfl, hall, rfl⟩ := hrel
    have HALL := hide hall
    clear hall
    have END : Hid (i = n ∨ i = 65 → ∀ b : Bool, b = (decide (l.length ≤ 8) || decide (l.length = 64) || decide (l.length = 65)) → few37 l = b) := hide (fun he b hb => by
      have : (l.take 65).all (fun s => decide (s.whn.length ≤ 30) && few21 s.whn) = true := by
        rw [List.all_eq_true]
        intro s hs
        obtain ⟨j, hj, rfl⟩ := List.getElem_of_mem hs
        rw [List.length_take] at hj
        have hj2 : j < l.length := by omega
        have h2 : (l.take 65)[j]'(by rw [List.length_take]; omega) = sbAt l j := by
          rw [List.getElem_take]
          have := sbAt_get hj2
          rw [List.getElem?_eq_getElem hj2] at this
          exact Option.some.inj this
        rw [h2]
        have h3 := HALL.out j (by have := HNN.out; omega)
        rw [decide_eq_true h3.1, h3.2]
        rfl
      rw [HF.out, this, ← hb]
      rfl)
    by_cases hlt : i < n
    · by_cases hlt65 : i < 65
      · have hil : i < l.length := by rw [← HNN.out]; exact hlt
        obtain ⟨b, off, K, kc, rfl, hbb, g0, g1, g2, g3, hex⟩ := H.out.at_ hil
        have HEX := hide hex
        have HS := hide (HO.out _ (sbAt_mem hil))
        have HNX : Hid ((sbAt l i).whn.length ≤ 30 → few21 (sbAt l i).whn = true → ∀ j, j < i + 1 → (sbAt l j).whn.length ≤ 30 ∧ few21 (sbAt l j).whn = true) := hide (fun h1 h2 j hj => by
          by_cases hji : j < i
          · exact HALL.out j hji
          · obtain rfl : j = i := by omega
            exact ⟨h1, h2⟩)
        have HNE : Hid (¬ ((sbAt l i).whn.length ≤ 30 ∧ few21 (sbAt l i).whn = true) → few37 l = false) := hide (fun hne => by
          cases hq : few37 l
          · rfl
          · exact absurd (few37_all hq _ (sbAt_mem hil)) hne)
        clear hex HALL END hil
        generalize sbAt l i = s at g0 g1 g2 g3 HEX HS HNX HNE
        by_cases h30 : s.whn.length ≤ 30
        · have d30 : decide ((30 : Int) < (s.whn.length : Int)) = false := decide_eq_false (by omega)
          go_wp2_with fail
          refine (few21_any K kc s.whn w HEX.out HS.out.2.1 HS.out.1 HS.out.2.2).mono ?_
          rintro e w' ⟨rfl, rfl⟩
          cases hf : few21 s.whn
          · have HR := hide (HNE.out (fun e => by rw [hf] at e; cases e.2))
            clear hf
            go_wp2
            go_ret
            exact ⟨by rw [HR.out]; rfl, rfl⟩
          · have HN2 := hide (HNX.out h30 hf)
            clear hf
            go_wp2
            go_roundw
            case rel => exact ⟨i + 1, by omega, by omega, by go_num, HN2.out, by first | rfl | trivial⟩
            case measure => simp [intOf]; omega
        · have d30 : decide ((30 : Int) < (s.whn.length : Int)) = true := decide_eq_true (by omega)
          have HR := hide (HNE.out (fun e => h30 e.1))
          clear h30
          go_wp2
          go_ret
          exact ⟨by rw [HR.out]; rfl, rfl⟩
      · obtain rfl : i = 65 := by omega
        have hd65 : decide (((65 : Nat) : Int) < 65) = false := by decide
        have HR := hide (END.out (.inr rfl) _ rfl)
        rw [← HNN.out] at HR
        clear END HALL
        by_cases h8 : n ≤ 8
        · omega
        · have d8 : decide ((n : Int) ≤ 8) = false := decide_eq_false (by omega)
          by_cases h64 : n = 64
          · omega
          · have d64 : ((n : Int) == 64) = false := beq_eq_false_iff_ne.2 (by omega)
            by_cases h65 : n = 65
            · omega
            · have d65 : ((n : Int) == 65) = false := beq_eq_false_iff_ne.2 (by omega)
              have HR2 : Hid (few37 l = false) := hide (by rw [HR.out, decide_eq_false h8, decide_eq_false h64, decide_eq_false h65]; rfl)
              clear h8 h64 h65
              go_wp2
              go_ret
              exact ⟨by rw [HR2.out]; rfl, rfl⟩
    · obtain rfl : i = n := by omega
      have HR := hide (END.out (.inl rfl) _ rfl)
      rw [← HNN.out] at HR
      clear END HALL
      by_cases h8 : i ≤ 8
      · have d8 : decide ((i : Int) ≤ 8) = true := decide_eq_true (by omega)
        have HR2 : Hid (few37 l = true) := hide (by rw [HR.out, decide_eq_true h8]; rfl)
        clear h8
        go_wp2
        go_ret
        exact ⟨by rw [HR2.out]; rfl, rfl⟩
      · have d8 : decide ((i : Int) ≤ 8) = false := decide_eq_false (by omega)
        by_cases h64 : i = 64
        · have d64 : ((i : Int) == 64) = true := by rw [h64]; rfl
          have HR2 : Hid (few37 l = true) := hide (by rw [HR.out, decide_eq_true h64]; simp)
          clear h64 h8
          go_wp2
          go_ret
          exact ⟨by rw [HR2.out]; rfl, rfl⟩
        · have d64 : ((i : Int) == 64) = false := beq_eq_false_iff_ne.2 (by omega)
          have HR2 : Hid (few37 l = decide (i = 65)) := hide (by rw [HR.out, decide_eq_false h8, decide_eq_false h64]; rfl)
          by_cases h65 : i = 65
          · have d65 : ((i : Int) == 65) = true := by rw [h65]; rfl
            have HR3 : Hid (few37 l = true) := hide (by rw [HR2.out, decide_eq_true h65])
            clear h64 h8 h65
            go_wp2
            go_ret
            exact ⟨by rw [HR3.out]; rfl, rfl⟩
          · have d65 : ((i : Int) == 65) = false := beq_eq_false_iff_ne.2 (by omega)
            have HR3 : Hid (few37 l = false) := hide (by rw [HR2.out, decide_eq_false h65])
            clear h64 h8 h65
            go_wp2
            go_ret
            exact ⟨by rw [HR3.out]; rfl, rfl⟩
theorem lfew37_any (A : Option Addr) (c : Nat) (l : List Sb) (w : World) (h : SubsAt w w.heap.size A l) (ho : SbsOk l) (hn : l.length ≤ maxLen) :
    Calls Tryz.prog 12 #[.slice A l.length c] w fun e w' => e = .returned (.bool (few37 l)) ∧ w = w' := by
  go_enter Tryz.func12, Tryz.ntmps12
  go_wp2_with fail
  refine (few37_any A c l w h ho hn).mono ?_
  rintro e w' ⟨rfl, rfl⟩
  go_wp2
  go_ret
  exact ⟨rfl, rfl⟩

/-! ### The examples -/
def okPar (s : ByteArray) (E : List Nod) : Bool := (lexL s).err == 0 && (match parF s.size 100 (jLevel 1 (lexL s).toks []) with
    | none => false
    | some res => (endP res).err == 0 && (endP res).off == 0 && decide ((endP res).out.length = E.length) && ((endP res).out.zip E).all fun p => p.1.op == p.2.op && p.1.n == p.2.n && decide (p.1.name = p.2.name) && decide (p.1.kids = p.2.kids))
theorem zip_same : ∀ {a b : List Nod}, a.length = b.length → ((a.zip b).all fun p => p.1.op == p.2.op && p.1.n == p.2.n && decide (p.1.name = p.2.name) && decide (p.1.kids = p.2.kids)) = true → a = b
  | [], [], _, _ => rfl
  | [], y :: b, h, _ => by simp at h
  | x :: a, [], h, _ => by simp at h
  | x :: a, y :: b, h, h2 => by
    simp only [List.zip_cons_cons, List.all_cons, Bool.and_eq_true, beq_iff_eq, decide_eq_true_eq] at h2
    obtain ⟨⟨⟨⟨e1, e2⟩, e3⟩, e4⟩, h3⟩ := h2
    have hxy : x = y := by cases x; cases y; simp_all
    rw [hxy, zip_same (by simpa using h) h3]
theorem okPar_is {s : ByteArray} {E : List Nod} (h : okPar s E = true) : ParseIs s ⟨E, 0, 0⟩ := by
  unfold okPar at h
  simp only [Bool.and_eq_true, beq_iff_eq] at h
  obtain ⟨h1, h2⟩ := h
  cases hp : parF s.size 100 (jLevel 1 (lexL s).toks []) with
  | none => rw [hp] at h2; cases h2
  | some res =>
    rw [hp] at h2
    simp only [Bool.and_eq_true, beq_iff_eq, decide_eq_true_eq] at h2
    obtain ⟨⟨⟨g1, g2⟩, g3⟩, g4⟩ := h2
    have he : (endP res).out = E := zip_same g3 g4
    have hr : endP res = ⟨E, 0, 0⟩ := by
      cases hq : endP res with
      | mk o e f =>
        rw [hq] at g1 g2 he
        dsimp only at g1 g2 he
        rw [g1, g2, he]
    unfold ParseIs
    rw [if_neg (by rw [h1]; simp)]
    exact ⟨100, res, hp, hr.symm⟩
def E371 : List Nod := [⟨2, 0, ⟨#[118, 97, 108, 117, 101]⟩, []⟩, ⟨1, 60, ByteArray.empty, []⟩, ⟨4, 0, ByteArray.empty, [0, 1]⟩]
def E372 : List Nod := [⟨2, 0, ⟨#[99, 101, 108, 108]⟩, []⟩, ⟨1, 2, ByteArray.empty, []⟩, ⟨11, 0, ByteArray.empty, [0, 1]⟩]
def E373 : List Nod := [⟨1, 1, ByteArray.empty, []⟩]
def E374 : List Nod := [⟨2, 0, ⟨#[104, 101, 105, 103, 104, 116]⟩, []⟩]
theorem op1 : okPar ⟨#[118, 97, 108, 117, 101, 32, 45, 32, 54, 48]⟩ E371 = true := by kernel_rfl
theorem op2 : okPar ⟨#[99, 101, 108, 108, 32, 61, 61, 32, 50]⟩ E372 = true := by kernel_rfl
theorem op3 : okPar ⟨#[49]⟩ E373 = true := by kernel_rfl
theorem op4 : okPar ⟨#[104, 101, 105, 103, 104, 116]⟩ E374 = true := by kernel_rfl
def S37 : List Sb := [⟨0, -1, -1, E371⟩, ⟨0, 65, -1, E372⟩, ⟨0, -1, 3, E373⟩]
def A371 : Al := ⟨65, 2, 3, 61, 0⟩
def A372 : Al := ⟨65, 1, 0, 60, 0⟩
def A373 : Al := ⟨7, 2, 3, 0, 0⟩
theorem s37v : sbsValid S37 = true := by kernel_rfl
theorem a371v : alValid A371 = true := by kernel_rfl
theorem a372v : alValid A372 = true := by kernel_rfl
theorem a373v : alValid A373 = true := by kernel_rfl
theorem m371 : matchL S37 A371 = [0, 1, 2] := by rw [matchL_eq a371v]; kernel_rfl
theorem m372 : matchL S37 A372 = [] := by rw [matchL_eq a372v]; kernel_rfl
theorem m373 : matchL S37 A373 = [2] := by rw [matchL_eq a373v]; kernel_rfl
theorem l371 : (catL37 S37 A371).length = 3 := by kernel_rfl
theorem l372 : (catL37 S37 A372).length = 2 := by kernel_rfl
theorem l373 : (catL37 S37 A373).length = 2 := by kernel_rfl
theorem v374 : sbValid ⟨0, 0, 0, E374⟩ = false := by kernel_rfl
theorem s37ok : SbsOk S37 := by
  intro s hs
  simp only [S37, List.mem_cons, List.not_mem_nil, or_false] at hs
  rcases hs with rfl | rfl | rfl <;> exact ⟨by decide, by decide, by decide⟩

theorem parsed_any (s : ByteArray) (E : List Nod) (w : World) (hs : s.size ≤ maxLen) (h : okPar s E = true) :
    Calls Tryz.prog 41 #[.string s] w fun e w' => ∃ A c, e = .returned (.slice A E.length c) ∧ ExprAt w' w'.heap.size A E ∧ Below w.heap.size w w' := by
  have hp := okPar_is h
  clear h
  go_enter Tryz.func41, Tryz.ntmps41
  go_wp2_with fail
  refine (parse_any s w hs hp).mono ?_
  rintro e w1 ⟨A1, c1, rfl, hex, hnam, hlen, hb1⟩
  dsimp only at hex hnam hlen ⊢
  have HEX := hide hex
  have HB1 := hide hb1
  clear hex hnam hlen hb1 hp
  go_wp2
  go_ret
  exact ⟨A1, c1, rfl, HEX.out, HB1.out⟩
set_option maxHeartbeats 2000000 in
theorem matched_any (p : Nat) (a : Al) (l : List Sb) (base kb : Nat) (n : Int) (B : Option Addr) (cb : Nat) (ys : List Int) (w : World) (hi : IxAt w base kb p l) (hkb : kb ≤ w.heap.size) (ha : alValid a = true) (hok : SbsOk l) (hl : l.length ≤ 64)
    (hy : RI w w.heap.size B ys.length ys) (hn : ys.length ≤ 100000) (h1 : matchL l a = ys) (h2 : ((catL37 l a).length : Int) = n) :
    Calls Tryz.prog 42 #[.pointer (some ⟨p, 0, none⟩), .agg a.cells, .int .i64 n, .slice B ys.length cb] w fun e w' => e = .returned (.bool true) ∧ Below w.heap.size w w' := by
  have hb0 : Below w.heap.size w (w.alloc (Obj.cells a.cells 28)) := (Below.refl _ _).alloc (Nat.le_refl _) _
  have hq0 : Blk (w.alloc (Obj.cells a.cells 28)) w.heap.size 28 a.cells := Blk.new _ _ _
  have HIX := hide (hi.below hb0 hkb)
  have HY := hide (hy.next hb0)
  have HKB : Hid (kb ≤ (w.alloc (Obj.cells a.cells 28)).heap.size) := hide (Nat.le_trans hkb hb0.size)
  have HB0 := hide hb0
  have HA := hide ha
  have HOK := hide hok
  have HM := hide h1
  have HN := hide h2
  have a0 : (w.alloc (Obj.cells a.cells 28)).cell? ⟨w.heap.size, 0, none⟩ = some (.int .i64 a.tile) := hq0.cell 0
  have a1 : (w.alloc (Obj.cells a.cells 28)).cell? ⟨w.heap.size, 1, none⟩ = some (.int .i64 a.cell) := hq0.cell 1
  have a2 : (w.alloc (Obj.cells a.cells 28)).cell? ⟨w.heap.size, 2, none⟩ = some (.int .i64 a.filt) := hq0.cell 2
  have a3 : (w.alloc (Obj.cells a.cells 28)).cell? ⟨w.heap.size, 3, none⟩ = some (.int .i64 a.val) := hq0.cell 3
  have a4 : (w.alloc (Obj.cells a.cells 28)).cell? ⟨w.heap.size, 4, none⟩ = some (.int .i64 a.mom) := hq0.cell 4
  clear hi hkb ha hok hy hb0 hq0 h1 h2
  go_enter Tryz.func42, Tryz.ntmps42
  go_upto_region 1 with (fail)
  generalize w.alloc (Obj.cells a.cells 28) = w0 at HIX HY HKB HB0 a0 a1 a2 a3 a4 ⊢
  obtain ⟨q, hq⟩ : ∃ q, q = w.heap.size := ⟨_, rfl⟩
  rw [← hq] at a0 a1 a2 a3 a4 ⊢
  clear hq
  go_wp2_with fail
  refine (imatch_any p a l base kb w0 HIX.out HKB.out HA.out HOK.out hl).mono ?_
  rintro e w2 ⟨A2, c2, rfl, hr2, hb2⟩
  rw [HN.out, HM.out]
  have HB2 := hide (HB0.out.trans (hb2.mono HB0.out.size))
  have HY2 := hide (HY.out.next hb2)
  rw [HM.out] at hr2
  have HR2 := hide hr2
  clear hr2 hb2 HIX HY HKB HB0 a0 a1 a2 a3 a4 HN HM
  go_wp2_with fail
  refine (ints37_any A2 c2 ys B cb ys w2 HR2.out HY2.out hn hn).mono ?_
  rintro e w3 ⟨rfl, m, rfl⟩
  rw [decide_eq_true rfl]
  go_wp2
  go_ret
  exact ⟨rfl, below_drewN HB2.out m⟩
end Go.Proofs.YtkomgidcgepknaaGreatDoor

set_option linter.unusedVariables false
set_option linter.unusedSimpArgs false
namespace Go.Proofs.YtkomgidcgepknaaGreatDoor
open Go.RowKit Go.Deep Go.Maps

theorem subs_lit {w : World} {A1 A2 A3 : Option Addr} {c1 c2 c3 : Nat} (h1 : ExprAt w w.heap.size A1 E371) (h2 : ExprAt w w.heap.size A2 E372) (h3 : ExprAt w w.heap.size A3 E373) :
    SubsAt (w.alloc (Obj.cells #[.int .i64 0, .int .i64 (-1), .int .i64 (-1), .slice A1 E371.length c1, .int .i64 0, .int .i64 65, .int .i64 (-1), .slice A2 E372.length c2, .int .i64 0, .int .i64 (-1), .int .i64 3, .slice A3 E373.length c3] 26))
      (w.alloc (Obj.cells #[.int .i64 0, .int .i64 (-1), .int .i64 (-1), .slice A1 E371.length c1, .int .i64 0, .int .i64 65, .int .i64 (-1), .slice A2 E372.length c2, .int .i64 0, .int .i64 (-1), .int .i64 3, .slice A3 E373.length c3] 26)).heap.size (some ⟨w.heap.size, 0, none⟩) S37 := by
  have hb : Below w.heap.size w (w.alloc (Obj.cells #[.int .i64 0, .int .i64 (-1), .int .i64 (-1), .slice A1 E371.length c1, .int .i64 0, .int .i64 65, .int .i64 (-1), .slice A2 E372.length c2, .int .i64 0, .int .i64 (-1), .int .i64 3, .slice A3 E373.length c3] 26)) := (Below.refl _ _).alloc (Nat.le_refl _) _
  refine ⟨[(A1, c1), (A2, c2), (A3, c3)], rfl, ?_, fun i x k hx hk => ?_⟩
  · exact Reads.more (reads_new w #[.int .i64 0, .int .i64 (-1), .int .i64 (-1), .slice A1 E371.length c1, .int .i64 0, .int .i64 65, .int .i64 (-1), .slice A2 E372.length c2, .int .i64 0, .int .i64 (-1), .int .i64 3, .slice A3 E373.length c3] 26 4 3 rfl) (by rw [World.size_alloc]; exact Nat.le_refl _)
  · match i, hx, hk with
    | 0, hx, hk =>
      cases hx; cases hk
      exact h1.next hb
    | 1, hx, hk =>
      cases hx; cases hk
      exact h2.next hb
    | 2, hx, hk =>
      cases hx; cases hk
      exact h3.next hb
    | i + 3, hx, hk => cases hx
set_option maxHeartbeats 4000000 in
set_option maxRecDepth 20000 in
theorem head37_any (w : World) : Calls Tryz.prog 11 #[] w fun e w' => e = .returned (.bool true) ∧ Below w.heap.size w w' := by
  go_enter Tryz.func11, Tryz.ntmps11
  go_wp2_with fail
  refine (parsed_any _ E371 w (by decide) op1).mono ?_
  rintro e w1 ⟨A1, c1, rfl, he1, hb1⟩
  have HE1 := hide he1
  have HB1 := hide hb1
  clear he1 hb1
  go_wp2_with fail
  refine (parsed_any _ E372 w1 (by decide) op2).mono ?_
  rintro e w2 ⟨A2, c2, rfl, he2, hb2⟩
  have HE2 := hide he2
  have HE1' := hide (HE1.out.next hb2)
  have HB2 := hide (HB1.out.trans (hb2.mono HB1.out.size))
  clear he2 hb2 HE1 HB1
  go_wp2_with fail
  refine (parsed_any _ E373 w2 (by decide) op3).mono ?_
  rintro e w3 ⟨A3, c3, rfl, he3, hb3⟩
  have HSB := hide (subs_lit (c1 := c1) (c2 := c2) (c3 := c3) (HE1'.out.next hb3) (HE2.out.next hb3) he3)
  have HB3 := hide (HB2.out.trans (hb3.mono HB2.out.size))
  have HB4 : Hid (Below w.heap.size w (w3.alloc (Obj.cells #[.int .i64 0, .int .i64 (-1), .int .i64 (-1), .slice A1 E371.length c1, .int .i64 0, .int .i64 65, .int .i64 (-1), .slice A2 E372.length c2, .int .i64 0, .int .i64 (-1), .int .i64 3, .slice A3 E373.length c3] 26))) := hide (HB3.out.alloc HB3.out.size _)
  clear he3 hb3 HE2 HE1' HB2 HB3
  go_upto_region 2 with (fail)
  generalize (w3.alloc (Obj.cells #[.int .i64 0, .int .i64 (-1), .int .i64 (-1), .slice A1 E371.length c1, .int .i64 0, .int .i64 65, .int .i64 (-1), .slice A2 E372.length c2, .int .i64 0, .int .i64 (-1), .int .i64 3, .slice A3 E373.length c3] 26)) = w4 at HSB HB4 ⊢
  go_wp2_with fail
  refine (fnew_any (some ⟨w3.heap.size, 0, none⟩) 3 S37 w4.heap.size w4 (SubsK.of HSB.out) (Nat.le_refl _) s37ok (by decide)).mono ?_
  rintro e w5 ⟨hp, hb5⟩
  rw [if_pos s37v] at hp
  obtain ⟨p, rfl, hix⟩ := hp
  have hbv : Below w5.heap.size w5 (((w5.alloc (Obj.cells #[.int .i64 65, .int .i64 2, .int .i64 3, .int .i64 61, .int .i64 0] 28)).alloc (Obj.cells #[.int .i64 65, .int .i64 1, .int .i64 0, .int .i64 60, .int .i64 0] 28)).alloc (Obj.cells #[.int .i64 7, .int .i64 2, .int .i64 3, .int .i64 0, .int .i64 0] 28)) := (((Below.refl _ _).alloc (Nat.le_refl _) _).alloc (by simp) _).alloc (by simp; omega) _
  have hq4 : Blk (((w5.alloc (Obj.cells #[.int .i64 65, .int .i64 2, .int .i64 3, .int .i64 61, .int .i64 0] 28)).alloc (Obj.cells #[.int .i64 65, .int .i64 1, .int .i64 0, .int .i64 60, .int .i64 0] 28)).alloc (Obj.cells #[.int .i64 7, .int .i64 2, .int .i64 3, .int .i64 0, .int .i64 0] 28)) w5.heap.size 28 #[.int .i64 65, .int .i64 2, .int .i64 3, .int .i64 61, .int .i64 0] := ((Blk.new _ _ _).alloc _).alloc _
  have hq5 : Blk (((w5.alloc (Obj.cells #[.int .i64 65, .int .i64 2, .int .i64 3, .int .i64 61, .int .i64 0] 28)).alloc (Obj.cells #[.int .i64 65, .int .i64 1, .int .i64 0, .int .i64 60, .int .i64 0] 28)).alloc (Obj.cells #[.int .i64 7, .int .i64 2, .int .i64 3, .int .i64 0, .int .i64 0] 28)) (w5.heap.size + 1) 28 #[.int .i64 65, .int .i64 1, .int .i64 0, .int .i64 60, .int .i64 0] := by
    have h := Blk.new (w5.alloc (Obj.cells #[.int .i64 65, .int .i64 2, .int .i64 3, .int .i64 61, .int .i64 0] 28)) 28 #[.int .i64 65, .int .i64 1, .int .i64 0, .int .i64 60, .int .i64 0]
    rw [World.size_alloc] at h
    exact h.alloc _
  have hq6 : Blk (((w5.alloc (Obj.cells #[.int .i64 65, .int .i64 2, .int .i64 3, .int .i64 61, .int .i64 0] 28)).alloc (Obj.cells #[.int .i64 65, .int .i64 1, .int .i64 0, .int .i64 60, .int .i64 0] 28)).alloc (Obj.cells #[.int .i64 7, .int .i64 2, .int .i64 3, .int .i64 0, .int .i64 0] 28)) (w5.heap.size + 1 + 1) 28 #[.int .i64 7, .int .i64 2, .int .i64 3, .int .i64 0, .int .i64 0] := by
    have h := Blk.new ((w5.alloc (Obj.cells #[.int .i64 65, .int .i64 2, .int .i64 3, .int .i64 61, .int .i64 0] 28)).alloc (Obj.cells #[.int .i64 65, .int .i64 1, .int .i64 0, .int .i64 60, .int .i64 0] 28)) 28 #[.int .i64 7, .int .i64 2, .int .i64 3, .int .i64 0, .int .i64 0]
    rw [World.size_alloc, World.size_alloc] at h
    exact h
  have HSB6 := hide ((HSB.out.next hb5).next hbv)
  have HIX6 := hide (hix.below hbv hb5.size)
  have HB6 := hide ((HB4.out.trans (hb5.mono HB4.out.size)).trans (hbv.mono (Nat.le_trans HB4.out.size hb5.size)))
  have HK6 : Hid (w4.heap.size ≤ (((w5.alloc (Obj.cells #[.int .i64 65, .int .i64 2, .int .i64 3, .int .i64 61, .int .i64 0] 28)).alloc (Obj.cells #[.int .i64 65, .int .i64 1, .int .i64 0, .int .i64 60, .int .i64 0] 28)).alloc (Obj.cells #[.int .i64 7, .int .i64 2, .int .i64 3, .int .i64 0, .int .i64 0] 28)).heap.size) := hide (Nat.le_trans hb5.size hbv.size)
  have Hq4 := hide hq4
  have Hq5 := hide hq5
  have Hq6 := hide hq6
  clear hix hb5 hbv hq4 hq5 hq6 HSB HB4
  go_upto_region 6 with (fail)
  generalize (((w5.alloc (Obj.cells #[.int .i64 65, .int .i64 2, .int .i64 3, .int .i64 61, .int .i64 0] 28)).alloc (Obj.cells #[.int .i64 65, .int .i64 1, .int .i64 0, .int .i64 60, .int .i64 0] 28)).alloc (Obj.cells #[.int .i64 7, .int .i64 2, .int .i64 3, .int .i64 0, .int .i64 0] 28)) = w6 at HSB6 HIX6 HB6 HK6 Hq4 Hq5 Hq6 ⊢
  obtain ⟨q4, hq4⟩ : ∃ q, q = w5.heap.size := ⟨_, rfl⟩
  obtain ⟨q5, hq5⟩ : ∃ q, q = w5.heap.size + 1 := ⟨_, rfl⟩
  obtain ⟨q6, hq6⟩ : ∃ q, q = w5.heap.size + 1 + 1 := ⟨_, rfl⟩
  rw [← hq6] at Hq6 ⊢
  rw [← hq5] at Hq5 ⊢
  rw [← hq4] at Hq4 ⊢
  have HQ4 := hide (show ∀ wq : World, Below w6.heap.size w6 wq → Blk wq q4 28 #[.int .i64 65, .int .i64 2, .int .i64 3, .int .i64 61, .int .i64 0] from fun wq hb => Hq4.out.below hb Hq4.out.lt)
  have HQ5 := hide (show ∀ wq : World, Below w6.heap.size w6 wq → Blk wq q5 28 #[.int .i64 65, .int .i64 1, .int .i64 0, .int .i64 60, .int .i64 0] from fun wq hb => Hq5.out.below hb Hq5.out.lt)
  have HQ6 := hide (show ∀ wq : World, Below w6.heap.size w6 wq → Blk wq q6 28 #[.int .i64 7, .int .i64 2, .int .i64 3, .int .i64 0, .int .i64 0] from fun wq hb => Hq6.out.below hb Hq6.out.lt)
  clear hq4 hq5 hq6
  have c10 : w6.cell? ⟨q4, 0, none⟩ = some (.int .i64 65) := (HQ4.out _ (Below.refl _ _)).cell 0
  have c11 : w6.cell? ⟨q4, 1, none⟩ = some (.int .i64 2) := (HQ4.out _ (Below.refl _ _)).cell 1
  have c12 : w6.cell? ⟨q4, 2, none⟩ = some (.int .i64 3) := (HQ4.out _ (Below.refl _ _)).cell 2
  have c13 : w6.cell? ⟨q4, 3, none⟩ = some (.int .i64 61) := (HQ4.out _ (Below.refl _ _)).cell 3
  have c14 : w6.cell? ⟨q4, 4, none⟩ = some (.int .i64 0) := (HQ4.out _ (Below.refl _ _)).cell 4
  go_wp2_with fail
  refine (fmatch_any (some ⟨w3.heap.size, 0, none⟩) 3 S37 A371 w6 HSB6.out s37ok (by decide)).mono ?_
  rintro e w7 ⟨Am, cm, rfl, hrm, hb7⟩
  have hmf : matchF S37 A371 = ([0, 1, 2], 0) := by unfold matchF; rw [if_pos ⟨s37v, a371v⟩, m371]
  rw [hmf] at hrm ⊢
  dsimp only at hrm ⊢
  have HRM := hide hrm
  have HB7 := hide hb7
  clear c10 c11 c12 c13 c14
  clear hrm hb7 hmf HSB6
  have c10 : w7.cell? ⟨q4, 0, none⟩ = some (.int .i64 65) := (HQ4.out _ HB7.out).cell 0
  have c11 : w7.cell? ⟨q4, 1, none⟩ = some (.int .i64 2) := (HQ4.out _ HB7.out).cell 1
  have c12 : w7.cell? ⟨q4, 2, none⟩ = some (.int .i64 3) := (HQ4.out _ HB7.out).cell 2
  have c13 : w7.cell? ⟨q4, 3, none⟩ = some (.int .i64 61) := (HQ4.out _ HB7.out).cell 3
  have c14 : w7.cell? ⟨q4, 4, none⟩ = some (.int .i64 0) := (HQ4.out _ HB7.out).cell 4
  have L8 : Hid (RI (w7.alloc (Obj.cells #[.int .i64 0, .int .i64 1, .int .i64 2] 3)) (w7.alloc (Obj.cells #[.int .i64 0, .int .i64 1, .int .i64 2] 3)).heap.size (some ⟨w7.heap.size, 0, none⟩) 3 [0, 1, 2]) := hide (RI.lit w7 [0, 1, 2] 3 3 rfl)
  have HB8 : Hid (Below w6.heap.size w6 (w7.alloc (Obj.cells #[.int .i64 0, .int .i64 1, .int .i64 2] 3))) := hide (HB7.out.alloc HB7.out.size _)
  have HRM8 := hide (HRM.out.allocs (Obj.cells #[.int .i64 0, .int .i64 1, .int .i64 2] 3))
  go_wp2_with fail
  generalize w7.alloc (Obj.cells #[.int .i64 0, .int .i64 1, .int .i64 2] 3) = w8 at L8 HB8 HRM8 ⊢
  clear c10 c11 c12 c13 c14
  refine (matched_any p A371 S37 w4.heap.size w4.heap.size 3 (some ⟨w7.heap.size, 0, none⟩) 3 [0, 1, 2] w8 (HIX6.out.below HB8.out HK6.out) (Nat.le_trans HK6.out HB8.out.size) a371v s37ok (by decide) L8.out (by decide) m371 (by rw [l371]; rfl)).mono ?_
  rintro e w9 ⟨rfl, hb9⟩
  have HB9 := hide (HB8.out.trans (hb9.mono HB8.out.size))
  have HRM9 := hide (HRM8.out.next hb9)
  clear hb9 L8 HB8 HRM8 HRM HB7
  have c20 : w9.cell? ⟨q5, 0, none⟩ = some (.int .i64 65) := (HQ5.out _ HB9.out).cell 0
  have c21 : w9.cell? ⟨q5, 1, none⟩ = some (.int .i64 1) := (HQ5.out _ HB9.out).cell 1
  have c22 : w9.cell? ⟨q5, 2, none⟩ = some (.int .i64 0) := (HQ5.out _ HB9.out).cell 2
  have c23 : w9.cell? ⟨q5, 3, none⟩ = some (.int .i64 60) := (HQ5.out _ HB9.out).cell 3
  have c24 : w9.cell? ⟨q5, 4, none⟩ = some (.int .i64 0) := (HQ5.out _ HB9.out).cell 4
  go_wp2_with fail
  refine (matched_any p A372 S37 w4.heap.size w4.heap.size 2 none 0 [] w9 (HIX6.out.below HB9.out HK6.out) (Nat.le_trans HK6.out HB9.out.size) a372v s37ok (by decide) RI.none_ (by decide) m372 (by rw [l372]; rfl)).mono ?_
  rintro e w10 ⟨rfl, hb10⟩
  have HB10 := hide (HB9.out.trans (hb10.mono HB9.out.size))
  have HRM10 := hide (HRM9.out.next hb10)
  clear c20 c21 c22 c23 c24
  clear hb10 HB9 HRM9
  have c30 : w10.cell? ⟨q6, 0, none⟩ = some (.int .i64 7) := (HQ6.out _ HB10.out).cell 0
  have c31 : w10.cell? ⟨q6, 1, none⟩ = some (.int .i64 2) := (HQ6.out _ HB10.out).cell 1
  have c32 : w10.cell? ⟨q6, 2, none⟩ = some (.int .i64 3) := (HQ6.out _ HB10.out).cell 2
  have c33 : w10.cell? ⟨q6, 3, none⟩ = some (.int .i64 0) := (HQ6.out _ HB10.out).cell 3
  have c34 : w10.cell? ⟨q6, 4, none⟩ = some (.int .i64 0) := (HQ6.out _ HB10.out).cell 4
  have L11 : Hid (RI (w10.alloc (Obj.cells #[.int .i64 2] 3)) (w10.alloc (Obj.cells #[.int .i64 2] 3)).heap.size (some ⟨w10.heap.size, 0, none⟩) 1 [2]) := hide (RI.lit w10 [2] 1 3 rfl)
  have HB11 : Hid (Below w6.heap.size w6 (w10.alloc (Obj.cells #[.int .i64 2] 3))) := hide (HB10.out.alloc HB10.out.size _)
  have HRM11 := hide (HRM10.out.allocs (Obj.cells #[.int .i64 2] 3))
  go_wp2_with fail
  generalize w10.alloc (Obj.cells #[.int .i64 2] 3) = w11 at L11 HB11 HRM11 ⊢
  clear c30 c31 c32 c33 c34
  refine (matched_any p A373 S37 w4.heap.size w4.heap.size 2 (some ⟨w10.heap.size, 0, none⟩) 1 [2] w11 (HIX6.out.below HB11.out HK6.out) (Nat.le_trans HK6.out HB11.out.size) a373v s37ok (by decide) L11.out (by decide) m373 (by rw [l373]; rfl)).mono ?_
  rintro e w12 ⟨rfl, hb12⟩
  have HB12 := hide (HB11.out.trans (hb12.mono HB11.out.size))
  have HRM12 := hide (HRM11.out.next hb12)
  clear hb12 HB11 HRM11 L11 HB10 HRM10
  have L13 : Hid (RI (w12.alloc (Obj.cells #[.int .i64 0, .int .i64 1, .int .i64 2] 3)) (w12.alloc (Obj.cells #[.int .i64 0, .int .i64 1, .int .i64 2] 3)).heap.size (some ⟨w12.heap.size, 0, none⟩) 3 [0, 1, 2]) := hide (RI.lit w12 [0, 1, 2] 3 3 rfl)
  have HB13 : Hid (Below w6.heap.size w6 (w12.alloc (Obj.cells #[.int .i64 0, .int .i64 1, .int .i64 2] 3))) := hide (HB12.out.alloc HB12.out.size _)
  have HRM13 := hide (HRM12.out.allocs (Obj.cells #[.int .i64 0, .int .i64 1, .int .i64 2] 3))
  go_wp2_with fail
  generalize w12.alloc (Obj.cells #[.int .i64 0, .int .i64 1, .int .i64 2] 3) = w13 at L13 HB13 HRM13 ⊢
  refine (ints37_any Am cm [0, 1, 2] (some ⟨w12.heap.size, 0, none⟩) 3 [0, 1, 2] w13 HRM13.out L13.out (by decide) (by decide)).mono ?_
  rintro e w14 ⟨rfl, m, rfl⟩
  rw [decide_eq_true rfl]
  have HB14 := hide (below_drewN HB13.out m)
  clear HB13 HRM13 L13 HB12 HRM12
  generalize w13.drewN m = w14 at HB14 ⊢
  go_wp2_with fail
  refine (parsed_any _ E374 w14 (by decide) op4).mono ?_
  rintro e w15 ⟨A5, c5, rfl, he5, hb15⟩
  have HE5 := hide he5
  have HB15 := hide (HB14.out.trans (hb15.mono HB14.out.size))
  clear he5 hb15 HB14
  go_wp2_with fail
  refine (sbValid_any ⟨0, 0, 0, E374⟩ A5 c5 w15 HE5.out (by decide) (by decide)).mono ?_
  rintro e w16 ⟨rfl, hb16⟩
  rw [v374]
  have HB16 := hide (HB6.out.trans ((HB15.out.trans (hb16.mono HB15.out.size)).mono HB6.out.size))
  clear hb16
  go_wp2
  go_ret
  exact ⟨rfl, HB16.out⟩
end Go.Proofs.YtkomgidcgepknaaGreatDoor

set_option linter.unusedVariables false
set_option linter.unusedSimpArgs false
namespace Go.Proofs.YtkomgidcgepknaaGreatDoor

/-- The indices of the elements for which P holds. -/
def selL (P : Sb → Bool) (l : List Sb) : List Int := ((List.range l.length).filter fun i => P (sbAt l i)).map fun i : Nat => (i : Int)
theorem selL_snoc (P : Sb → Bool) (l : List Sb) (s : Sb) : selL P (l ++ [s]) = selL P l ++ if P s = true then [(l.length : Int)] else [] := by
  unfold selL
  rw [List.length_append, List.length_cons, List.length_nil, List.range_succ, List.filter_append, List.map_append]
  congr 1
  · congr 1
    exact List.filter_congr fun i hi => by rw [sbAt_snoc_lt (List.mem_range.1 hi)]
  · rw [List.filter_cons, sbAt_snoc_eq]
    by_cases h : P s = true
    · rw [if_pos h, if_pos h]
      rfl
    · rw [if_neg h, if_neg h]
      rfl
theorem selL_take (P : Sb → Bool) (l : List Sb) {k : Nat} (h : k < l.length) : selL P (l.take (k + 1)) = selL P (l.take k) ++ if P (sbAt l k) = true then [(k : Int)] else [] := by
  rw [sb_take h, selL_snoc, List.length_take, Nat.min_eq_left (Nat.le_of_lt h)]
theorem sbAt_left {l m : List Sb} {i : Nat} (h : i < l.length) : sbAt (l ++ m) i = sbAt l i := by
  unfold sbAt
  rw [List.getD_eq_getElem?_getD, List.getD_eq_getElem?_getD, List.getElem?_append_left h]
theorem sbAt_right {l m : List Sb} (i : Nat) : sbAt (l ++ m) (l.length + i) = sbAt m i := by
  unfold sbAt
  rw [List.getD_eq_getElem?_getD, List.getD_eq_getElem?_getD, List.getElem?_append_right (Nat.le_add_right _ _), Nat.add_sub_cancel_left]
theorem selL_append (P : Sb → Bool) (l m : List Sb) : selL P (l ++ m) = selL P l ++ (selL P m).map (· + (l.length : Int)) := by
  have gen : ∀ k, k ≤ m.length → selL P (l ++ m.take k) = selL P l ++ (selL P (m.take k)).map (· + (l.length : Int)) := by
    intro k
    induction k with
    | zero => intro _; simp [selL]
    | succ k ih =>
      intro hk
      rw [sb_take (by omega), selL_snoc, ← List.append_assoc, selL_snoc, ih (by omega), List.map_append, List.append_assoc]
      congr 2
      split
      · simp [List.length_take, Nat.min_eq_left (Nat.le_of_lt hk)]; omega
      · rfl
  have := gen m.length (Nat.le_refl _)
  rwa [List.take_length] at this
theorem selL_parts (P : Sb → Bool) (l : List Sb) {k : Nat} (h : k ≤ l.length) : selL P l = selL P (l.take k) ++ (selL P (l.drop k)).map (· + (k : Int)) := by
  have := selL_append P (l.take k) (l.drop k)
  rw [List.take_append_drop, List.length_take, Nat.min_eq_left h] at this
  exact this
theorem selL_len (P : Sb → Bool) (l : List Sb) : (selL P l).length ≤ l.length := by
  unfold selL
  rw [List.length_map]
  exact Nat.le_trans (List.length_filter_le _ _) (by simp)
theorem selL_mem {P : Sb → Bool} {l : List Sb} {x : Int} : x ∈ selL P l ↔ ∃ i : Nat, x = (i : Int) ∧ i < l.length ∧ P (sbAt l i) = true := by
  unfold selL
  constructor
  · intro h
    obtain ⟨i, hi, rfl⟩ := List.mem_map.1 h
    obtain ⟨h1, h2⟩ := List.mem_filter.1 hi
    exact ⟨i, rfl, List.mem_range.1 h1, h2⟩
  · rintro ⟨i, rfl, h1, h2⟩
    exact List.mem_map.2 ⟨i, List.mem_filter.2 ⟨List.mem_range.2 h1, h2⟩, rfl⟩
theorem selL_bound {P : Sb → Bool} {l : List Sb} {x : Int} (h : x ∈ selL P l) : 0 ≤ x ∧ x < l.length := by
  obtain ⟨i, rfl, h, _⟩ := selL_mem.1 h
  omega
theorem selL_congr {P Q : Sb → Bool} {l m : List Sb} (hl : l.length = m.length) (h : ∀ i, i < l.length → P (sbAt l i) = Q (sbAt m i)) : selL P l = selL Q m := by
  unfold selL
  rw [hl]
  congr 1
  exact List.filter_congr fun i hi => h i (by rw [hl]; exact List.mem_range.1 hi)

/-- Has a condition a value greater than 0? -/
def hitS (a : Al) (s : Sb) : Bool := decide ((evalM s.whn (vars37 a)).2 = 0) && decide (0 < (evalM s.whn (vars37 a)).1)
theorem conc_sel (l : List Sb) (a : Al) : concL l a = selL (fun s => conc s a) l := rfl
theorem matchL_sel {l : List Sb} {a : Al} (ha : alValid a = true) : matchL l a = selL (fun s => conc s a && hitS a s) l := by
  rw [matchL_eq ha]
  unfold concL selL
  rw [List.filter_map, List.filter_filter]
  congr 1
  exact List.filter_congr fun i hi => by
    show (hitL l a ((i : Nat) : Int) && _) = _
    rw [Bool.and_comm]
    rfl
theorem sbs_part {l m : List Sb} (h : sbsValid l = true) (hs : ∀ s ∈ m, s ∈ l) (hl : m.length ≤ l.length) : sbsValid m = true := by
  unfold sbsValid at h ⊢
  simp only [Bool.and_eq_true, decide_eq_true_eq, List.all_eq_true] at h ⊢
  exact ⟨by omega, fun s hm => h.2 s (hs s hm)⟩
theorem matchF_ok {l : List Sb} {a : Al} (h : (matchF l a).2 = 0) : sbsValid l = true ∧ alValid a = true := by
  unfold matchF at h
  split at h
  · assumption
  · cases h
theorem matchF_err {l : List Sb} {a : Al} (h : (matchF l a).2 ≠ 0) : matchF l a = ([], 1) ∧ ¬ (sbsValid l = true ∧ alValid a = true) := by
  unfold matchF at h ⊢
  split
  · rename_i hv
    rw [if_pos hv] at h
    exact absurd rfl h
  · rename_i hv
    exact ⟨rfl, hv⟩
theorem matchF_val {l : List Sb} {a : Al} (h : sbsValid l = true ∧ alValid a = true) : matchF l a = (selL (fun s => conc s a && hitS a s) l, 0) := by
  unfold matchF
  rw [if_pos h, matchL_sel h.2]
theorem matchF_parts {l : List Sb} {a : Al} (h : (matchF l a).2 = 0) {k : Nat} (hk : k ≤ l.length) :
    (matchF (l.take k) a).2 = 0 ∧ (matchF (l.drop k) a).2 = 0 ∧ (matchF l a).1 = (matchF (l.take k) a).1 ++ (matchF (l.drop k) a).1.map (· + (k : Int)) := by
  obtain ⟨h1, h2⟩ := matchF_ok h
  rw [matchF_val ⟨h1, h2⟩, matchF_val ⟨sbs_part h1 (fun s hs => List.mem_of_mem_take hs) (by rw [List.length_take]; omega), h2⟩, matchF_val ⟨sbs_part h1 (fun s hs => List.mem_of_mem_drop hs) (by rw [List.length_drop]; omega), h2⟩]
  dsimp only
  exact ⟨rfl, rfl, selL_parts _ l hk⟩
theorem matchF_len (l : List Sb) (a : Al) : (matchF l a).1.length ≤ l.length := by
  unfold matchF
  split
  · rename_i h
    dsimp only
    rw [matchL_sel h.2]
    exact selL_len _ _
  · exact Nat.zero_le _
theorem matchF_bound {l : List Sb} {a : Al} {x : Int} (h : x ∈ (matchF l a).1) : 0 ≤ x ∧ x < l.length := by
  unfold matchF at h
  split at h
  · rename_i hv
    dsimp only at h
    rw [matchL_sel hv.2] at h
    exact selL_bound h
  · cases h
end Go.Proofs.YtkomgidcgepknaaGreatDoor
