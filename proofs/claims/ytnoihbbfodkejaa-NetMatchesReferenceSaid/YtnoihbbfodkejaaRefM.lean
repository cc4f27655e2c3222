/-
  Chapter 54: the reference's network in memory; pair, cut, New.
-/
import Derived.Test.YtnoihbbfodkejaaRefP
import Derived.Test.YtnoihbbfodkejaaHead
import Derived.Deep.RegionHeld3
namespace Go.Proofs.Ytnoihbbfodkejaa
open Go.RowKit Go.Maps

def Msg.cells (m : Msg) : List Value := [.int .i64 m.a, .int .i64 m.b, .string m.t]
def msgs (L : List Msg) : List Value := L.flatMap Msg.cells
def prCells (x : Int × Int) : List Value := [.int .i64 x.1, .int .i64 x.2]
def prs (G : List (Int × Int)) : List Value := G.flatMap prCells
theorem flat_length {α : Type} (f : α → List Value) (n : Nat) (hf : ∀ x, (f x).length = n) : ∀ l : List α, (l.flatMap f).length = l.length * n
  | [] => by simp
  | x :: l => by rw [List.flatMap_cons, List.length_append, hf, flat_length f n hf l, List.length_cons, Nat.succ_mul]; omega
theorem flat_get {α : Type} (f : α → List Value) (n : Nat) (hf : ∀ x, (f x).length = n) : ∀ (l : List α) (k j : Nat) (hk : k < l.length), j < n → (l.flatMap f)[k * n + j]? = (f l[k])[j]?
  | x :: l, 0, j, _, hj => by
    rw [List.flatMap_cons, List.getElem?_append_left (by rw [hf]; omega)]
    simp
  | x :: l, k + 1, j, hk, hj => by
    have := flat_get f n hf l k j (by simpa using hk) hj
    rw [List.flatMap_cons, List.getElem?_append_right (by rw [hf, Nat.succ_mul]; omega), hf]
    have e : (k + 1) * n + j - n = k * n + j := by rw [Nat.succ_mul]; omega
    rw [e, this]
    simp
theorem flat_take {α : Type} (f : α → List Value) (n : Nat) (hf : ∀ x, (f x).length = n) (l : List α) (k : Nat) (hk : k ≤ l.length) : (l.flatMap f).take (k * n) = (l.take k).flatMap f := by
  have e : l.flatMap f = (l.take k).flatMap f ++ (l.drop k).flatMap f := by rw [← List.flatMap_append, List.take_append_drop]
  rw [e, List.take_append_of_le_length (by rw [flat_length f n hf, List.length_take]; rw [Nat.min_eq_left hk]; exact Nat.le_refl _)]
  apply List.take_of_length_le
  rw [flat_length f n hf, List.length_take, Nat.min_eq_left hk]
  exact Nat.le_refl _
theorem flat_drop {α : Type} (f : α → List Value) (n : Nat) (hf : ∀ x, (f x).length = n) (l : List α) (k : Nat) (hk : k ≤ l.length) : (l.flatMap f).drop (k * n) = (l.drop k).flatMap f := by
  have e : l.flatMap f = (l.take k).flatMap f ++ (l.drop k).flatMap f := by rw [← List.flatMap_append, List.take_append_drop]
  have hl : ((l.take k).flatMap f).length = k * n := by rw [flat_length f n hf, List.length_take, Nat.min_eq_left hk]
  conv => lhs; rw [e]
  rw [← hl, List.drop_left]
theorem msg_len (m : Msg) : m.cells.length = 3 := rfl
theorem pr_len (x : Int × Int) : (prCells x).length = 2 := rfl
theorem msg_one (L : List Msg) : ∀ u ∈ msgs L, u.oneCell' = true := by
  intro u hu
  obtain ⟨m, _, hm⟩ := List.mem_flatMap.1 hu
  simp [Msg.cells] at hm
  rcases hm with rfl | rfl | rfl <;> rfl
theorem pr_one (G : List (Int × Int)) : ∀ u ∈ prs G, u.oneCell' = true := by
  intro u hu
  obtain ⟨m, _, hm⟩ := List.mem_flatMap.1 hu
  simp [prCells] at hm
  rcases hm with rfl | rfl <;> rfl
theorem msg_info : (Try.prog.info? 69).map (fun i => (i.zero, i.size, i.bytes)) = some (some (.agg #[.int .i64 0, .int .i64 0, .string ByteArray.empty]), 3, 32) := by kernel_rfl
theorem pr_info : (Try.prog.info? 58).map (fun i => (i.zero, i.size, i.bytes)) = some (some (.agg #[.int .i64 0, .int .i64 0]), 2, 16) := by kernel_rfl

/-- Block p is the reference's network, its lists L and G; all of it lies in F. -/
structure RefIn (w : World) (p n : Nat) (N : Int) (L : List Msg) (G : List (Int × Int)) (A : Option Addr) (c : Nat) (A' : Option Addr) (c' : Nat) (F : Nat → Prop) : Prop where
  blk : Blk w p 66 #[.int .i64 N, .slice A L.length c, .slice A' G.length c']
  oL : Own w 0 69 3 A L.length c (msgs L)
  oG : Own w 0 58 2 A' G.length c' (prs G)
  inF : F p ∧ (∀ g, (Value.slice A L.length c).ownBlock = some g → F g ∧ g ≠ p) ∧ (∀ g, (Value.slice A' G.length c').ownBlock = some g → F g ∧ g ≠ p)
  off : ∀ g, (Value.slice A L.length c).ownBlock = some g → (Value.slice A' G.length c').ownBlock ≠ some g
  lt : ∀ k, F k → k < w.heap.size
  few : L.length ≤ n ∧ G.length ≤ n
def RefAt (w : World) (p n : Nat) (s : NS) (F : Nat → Prop) : Prop := ∃ L G A c A' c', RefIn w p n s.N L G A c A' c' F ∧ Abs L G s
section
variable {w w' : World} {p n : Nat} {N : Int} {L : List Msg} {G : List (Int × Int)} {A A' : Option Addr} {c c' : Nat} {F H : Nat → Prop} {s : NS}
theorem RefIn.kept (h : RefIn w p n N L G A c A' c' F) (hs : w.heap.size ≤ w'.heap.size) (hk : ∀ k, F k → w'.heap[k]? = w.heap[k]?) : RefIn w' p n N L G A c A' c' F :=
  ⟨(hk p h.inF.1).trans h.blk, Own.kept h.oL (fun g hg => hk g (h.inF.2.1 g hg).1), Own.kept h.oG (fun g hg => hk g (h.inF.2.2 g hg).1), h.inF, h.off, fun k hf => Nat.lt_of_lt_of_le (h.lt k hf) hs, h.few⟩
theorem RefAt.kept (h : RefAt w p n s F) (hs : w.heap.size ≤ w'.heap.size) (hk : ∀ k, F k → w'.heap[k]? = w.heap[k]?) : RefAt w' p n s F := by
  obtain ⟨L, G, A, c, A', c', h, ha⟩ := h
  exact ⟨L, G, A, c, A', c', h.kept hs hk, ha⟩
theorem RefAt.lt (h : RefAt w p n s F) : ∀ k, F k → k < w.heap.size := by
  obtain ⟨L, G, A, c, A', c', h, ha⟩ := h
  exact h.lt
theorem RefAt.moved (h : RefAt w p n s F) (hm : Moved H w w') (hd : ∀ k, F k → ¬ H k) : RefAt w' p n s F := h.kept hm.size (fun k hf => hm.block k (h.lt k hf) (hd k hf))
theorem RefAt.below (h : RefAt w p n s F) (hb : Below w.heap.size w w') : RefAt w' p n s F := h.kept hb.size (fun k hf => hb.block k (h.lt k hf))
theorem RefAt.mono (h : RefAt w p n s F) {n' : Nat} (hn : n ≤ n') : RefAt w p n' s F := by
  obtain ⟨L, G, A, c, A', c', h, ha⟩ := h
  exact ⟨L, G, A, c, A', c', ⟨h.blk, h.oL, h.oG, h.inF, h.off, h.lt, by have := h.few; omega⟩, ha⟩
theorem RefIn.c0 (h : RefIn w p n N L G A c A' c' F) : w.cell? ⟨p, 0, none⟩ = some (.int .i64 N) := by rw [h.blk.cell 0]; rfl
theorem RefIn.c1 (h : RefIn w p n N L G A c A' c' F) : w.cell? ⟨p, 1, none⟩ = some (.slice A L.length c) := by rw [h.blk.cell 1]; rfl
theorem RefIn.c2 (h : RefIn w p n N L G A c A' c' F) : w.cell? ⟨p, 2, none⟩ = some (.slice A' G.length c') := by rw [h.blk.cell 2]; rfl
theorem own_cells {e size : Nat} {xs : List Value} (h : Own w 0 e size A n c xs) {k : Nat} (hk : k < n) (hs : 0 < size) : ∃ g, A = some ⟨g, 0, none⟩ ∧ g < w.heap.size ∧ ∀ j, j < size → w.cell? ⟨g, k * size + j, none⟩ = xs[k * size + j]? := by
  obtain ⟨g, cap, hv, hb, hlt⟩ := World.ownsRow.form h (by omega)
  injection hv with e1 _ e3
  subst e1
  refine ⟨g, rfl, hlt, fun j hj => ?_⟩
  obtain ⟨hl, h2⟩ := Own.reads h
  obtain ⟨ad, e, _, hc⟩ := h2 (by omega)
  injection e with e
  subst e
  have hlen : k * size + j < xs.length := by
    rw [hl]
    have : (k + 1) * size ≤ n * size := Nat.mul_le_mul_right _ hk
    rw [Nat.succ_mul] at this
    omega
  obtain ⟨u, hu⟩ : ∃ u, xs[k * size + j]? = some u := ⟨_, List.getElem?_eq_getElem hlen⟩
  have := hc _ u hu
  rw [add_lit, Nat.zero_add] at this
  rw [hu, this]
theorem RefIn.msgAt (h : RefIn w p n N L G A c A' c' F) {k : Nat} (hk : k < L.length) : ∃ g, A = some ⟨g, 0, none⟩ ∧ g < w.heap.size ∧
    w.cell? ⟨g, k * 3, none⟩ = some (.int .i64 L[k].a) ∧ w.cell? ⟨g, k * 3 + 1, none⟩ = some (.int .i64 L[k].b) ∧ w.cell? ⟨g, k * 3 + 2, none⟩ = some (.string L[k].t) := by
  obtain ⟨g, rfl, hlt, hc⟩ := own_cells h.oL hk (by omega)
  refine ⟨g, rfl, hlt, ?_, ?_, ?_⟩
  · exact (hc 0 (by omega)).trans (flat_get Msg.cells 3 msg_len L k 0 hk (by omega))
  · exact (hc 1 (by omega)).trans (flat_get Msg.cells 3 msg_len L k 1 hk (by omega))
  · exact (hc 2 (by omega)).trans (flat_get Msg.cells 3 msg_len L k 2 hk (by omega))
theorem RefIn.prAt (h : RefIn w p n N L G A c A' c' F) {k : Nat} (hk : k < G.length) : ∃ g, A' = some ⟨g, 0, none⟩ ∧ g < w.heap.size ∧
    w.cell? ⟨g, k * 2, none⟩ = some (.int .i64 G[k].1) ∧ w.cell? ⟨g, k * 2 + 1, none⟩ = some (.int .i64 G[k].2) := by
  obtain ⟨g, rfl, hlt, hc⟩ := own_cells h.oG hk (by omega)
  refine ⟨g, rfl, hlt, ?_, ?_⟩
  · exact (hc 0 (by omega)).trans (flat_get prCells 2 pr_len G k 0 hk (by omega))
  · exact (hc 1 (by omega)).trans (flat_get prCells 2 pr_len G k 1 hk (by omega))
end

theorem ref_new_any (N : Int) (w : World) :
    Calls Try.prog 17 #[.int .i64 N] w fun e w' =>
      if 1 ≤ N ∧ N ≤ 8 then ∃ p F, e = .returned (.tuple #[.pointer (some ⟨p, 0, none⟩), .int .i64 0]) ∧ RefAt w' p 0 (NS.new N) F ∧ (∀ k, F k → w.heap.size ≤ k) ∧ Below w.heap.size w w'
      else e = .returned (.tuple #[.pointer none, .int .i64 1]) ∧ Below w.heap.size w w' := by
  by_cases h1 : N < 1
  · have hn : ¬ (1 ≤ N ∧ N ≤ 8) := by omega
    simp only [hn, if_false]
    clear hn
    go_enter Try.func17, Try.ntmps17
    go_wp2
    all_goals first | (exfalso; omega) | skip
    all_goals go_ret2
    all_goals exact ⟨rfl, Below.refl _ _⟩
  · by_cases h2 : 8 < N
    · have hn : ¬ (1 ≤ N ∧ N ≤ 8) := by omega
      simp only [hn, if_false]
      clear hn
      go_enter Try.func17, Try.ntmps17
      go_wp2
      all_goals first | (exfalso; omega) | skip
      all_goals go_ret2
      all_goals exact ⟨rfl, Below.refl _ _⟩
    · have hn : 1 ≤ N ∧ N ≤ 8 := by omega
      simp only [hn, if_true]
      clear hn
      go_enter Try.func17, Try.ntmps17
      go_wp2
      all_goals first | (exfalso; omega) | skip
      all_goals go_ret2
      refine ⟨_, rfl, fun k => k = w.heap.size, ⟨[], [], none, 0, none, 0, ⟨?_, Own.nil _ _ _ _, Own.nil _ _ _ _, ⟨rfl, fun g hg => by (cases hg), fun g hg => by (cases hg)⟩, fun g hg => by (cases hg), fun k hk => by (rw [hk]; simp), by simp⟩, Abs.new N⟩, fun k hk => by (rw [hk]; exact Nat.le_refl _), (Below.refl _ _).alloc (Nat.le_refl _) _⟩
      exact Blk.new w _ _
theorem ref_new_ok (N : Int) (w : World) (h : 1 ≤ N ∧ N ≤ 8) :
    Calls Try.prog 17 #[.int .i64 N] w fun e w' =>
      ∃ p F, e = .returned (.tuple #[.pointer (some ⟨p, 0, none⟩), .int .i64 0]) ∧ RefAt w' p 0 (NS.new N) F ∧ (∀ k, F k → w.heap.size ≤ k) ∧ Below w.heap.size w w' :=
  (ref_new_any N w).mono fun e w' hp => by simpa only [if_pos h] using hp
theorem ref_new_bad (N : Int) (w : World) (h : ¬ (1 ≤ N ∧ N ≤ 8)) :
    Calls Try.prog 17 #[.int .i64 N] w fun e w' => e = .returned (.tuple #[.pointer none, .int .i64 1]) ∧ Below w.heap.size w w' :=
  (ref_new_any N w).mono fun e w' hp => by simpa only [if_neg h] using hp

set_option maxHeartbeats 2000000 in
theorem pair_any (p : Nat) (N a b : Int) (w : World) (h0 : w.cell? ⟨p, 0, none⟩ = some (.int .i64 N)) :
    Calls Try.prog 32 #[.pointer (some ⟨p, 0, none⟩), .int .i64 a, .int .i64 b] w fun e w' => e = .returned (.bool (knows N a b)) ∧ w = w' := by
  have K : ∀ v, knows N a b = v → Hid (knows N a b = v) := fun v h => h
  by_cases h1 : (0 : Int) ≤ a
  · by_cases h2 : a < N
    · by_cases h3 : (0 : Int) ≤ b
      · by_cases h4 : b < N
        · by_cases h5 : a = b
          · have HK := K false (by simp [knows]; omega)
            have h5' : (a != b) = false := by simp [h5]
            clear K h5
            go_enter Try.func32, Try.ntmps32
            go_wp2
            go_ret
            exact ⟨by rw [HK.out]; rfl, rfl⟩
          · have HK := K true (by simp [knows]; omega)
            have h5' : (a != b) = true := by simp [h5]
            clear K h5
            go_enter Try.func32, Try.ntmps32
            go_wp2
            go_ret
            exact ⟨by rw [HK.out]; rfl, rfl⟩
        · have HK := K false (by simp [knows]; omega)
          clear K
          go_enter Try.func32, Try.ntmps32
          go_wp2
          go_ret
          exact ⟨by rw [HK.out]; simp [h4], rfl⟩
      · have HK := K false (by simp [knows]; omega)
        clear K
        go_enter Try.func32, Try.ntmps32
        go_wp2
        go_ret
        exact ⟨by rw [HK.out]; simp [h3], rfl⟩
    · have HK := K false (by simp [knows]; omega)
      clear K
      go_enter Try.func32, Try.ntmps32
      go_wp2
      go_ret
      exact ⟨by rw [HK.out]; simp [h2], rfl⟩
  · have HK := K false (by simp [knows]; omega)
    clear K
    go_enter Try.func32, Try.ntmps32
    go_wp2
    go_ret
    exact ⟨by rw [HK.out]; simp [h1], rfl⟩

/-- The index of the first cut of a line, from k on. -/
def lineIdx (a b : Int) (G : List (Int × Int)) : Int := if G.any (line a b) = true then (G.findIdx (line a b) : Int) else -1

set_option maxHeartbeats 4000000 in
theorem cutIdx_any (p n : Nat) (N : Int) (L : List Msg) (G : List (Int × Int)) (A : Option Addr) (c : Nat) (A' : Option Addr) (c' : Nat) (F : Nat → Prop) (a b : Int) (w : World) (h : RefIn w p n N L G A c A' c' F) (hn : n + 1 < maxLen) :
    Calls Try.prog 36 #[.pointer (some ⟨p, 0, none⟩), .int .i64 a, .int .i64 b] w fun e w' => e = .returned (.int .i64 (lineIdx a b G)) ∧ Below w.heap.size w w' := by
  have hGn : G.length ≤ n := h.few.2
  unfold maxLen at hn
  have H := hide h
  clear h
  go_enter Try.func36, Try.ntmps36
  go_wp2
  go_loopw [7] (fun i wr => ∃ k : Nat, k ≤ G.length ∧ i = .int .i64 k ∧ (∀ j (hj : j < G.length), j < k → line a b G[j] = false) ∧ Below w.heap.size w wr) (fun i _ => G.length - (intOf i).toNat)
  case atStart => exact ⟨0, Nat.zero_le _, rfl, fun j _ hj => absurd hj (by omega), Below.refl _ _⟩
  case round =>
    obtain ⟨k, hk, rfl, hr, hb⟩ := hrel
    have HR := hide hr
    have HB := hide hb
    clear hr hb
    have HW := hide (H.out.kept HB.out.size (fun j hj => HB.out.block j (H.out.lt j hj)))
    have d2 := HW.out.c2
    by_cases hlt : k < G.length
    · obtain ⟨g, rfl, hg, e0, e1⟩ := HW.out.prAt hlt
      have FIN : Hid (line a b G[k] = true → lineIdx a b G = (k : Int)) := by
        intro hl
        have hany : G.any (line a b) = true := List.any_eq_true.2 ⟨_, List.getElem_mem hlt, hl⟩
        unfold lineIdx
        rw [if_pos hany]
        congr 1
        rw [List.findIdx_eq hlt]
        exact ⟨hl, fun j hj => by simpa using HR.out j (by omega) hj⟩
      have NXT : Hid (line a b G[k] = false → ∀ j (hj : j < G.length), j < k + 1 → line a b G[j] = false) := by
        intro hl j hj hjk
        by_cases e : j = k
        · subst e; exact hl
        · exact HR.out j hj (by omega)
      have LN : Hid (∀ v, ((G[k].1 == a && G[k].2 == b) || (G[k].1 == b && G[k].2 == a)) = v → line a b G[k] = v) := fun v hv => hv
      generalize G[k].1 = x at e0 LN ⊢
      generalize G[k].2 = y at e1 LN ⊢
      have BB : Hid (∀ o, Below w.heap.size w (wr.alloc o)) := fun o => HB.out.alloc HB.out.size o
      cases hv : ((x == a && y == b) || (x == b && y == a))
      · have HN := hide (NXT.out (LN.out _ hv))
        clear FIN NXT LN
        cases hz1 : (x == a) <;> cases hz2 : (y == b) <;> cases hz3 : (x == b) <;> cases hz4 : (y == a) <;> simp only [hz1, hz2, hz3, hz4, Bool.and_true, Bool.and_false, Bool.or_true, Bool.or_false, Bool.false_and, Bool.true_and, Bool.true_or, Bool.false_or, Bool.and_self, Bool.or_self, reduceCtorEq] at hv
        all_goals
          go_wp2
          go_roundw
          case rel => exact ⟨k + 1, by omega, by go_num, HN.out, BB.out _⟩
          case measure => simp [intOf]; omega
      · have HF := hide (FIN.out (LN.out _ hv))
        clear FIN NXT LN
        cases hz1 : (x == a) <;> cases hz2 : (y == b) <;> cases hz3 : (x == b) <;> cases hz4 : (y == a) <;> simp only [hz1, hz2, hz3, hz4, Bool.and_true, Bool.and_false, Bool.or_true, Bool.or_false, Bool.false_and, Bool.true_and, Bool.true_or, Bool.false_or, Bool.and_self, Bool.or_self, reduceCtorEq] at hv
        all_goals
          go_wp2
          go_ret
          exact ⟨ret_int HF.out.symm, BB.out _⟩
    · go_wp2
      go_ret
      refine ⟨ret_int ?_, HB.out⟩
      unfold lineIdx
      rw [if_neg]
      rw [Bool.not_eq_true, List.any_eq_false]
      intro z hz
      obtain ⟨j, hj, rfl⟩ := List.getElem_of_mem hz
      simpa using HR.out j hj (by omega)
end Go.Proofs.Ytnoihbbfodkejaa
