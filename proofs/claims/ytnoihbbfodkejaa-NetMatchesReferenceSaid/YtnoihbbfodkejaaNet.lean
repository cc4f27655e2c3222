/-
  Chapter 54: a network in memory, and what leaves it as it is.
-/
import Derived.Test.YtnoihbbfodkejaaLeaf
namespace Go.Proofs.Ytnoihbbfodkejaa
open Go.RowKit Go.Maps

/-- What lies outside F is as it was. -/
structure Moved (F : Nat → Prop) (w w' : World) : Prop where
  os : w'.os = w.os
  tape : w'.tape = w.tape
  output : w'.output = w.output
  size : w.heap.size ≤ w'.heap.size
  block : ∀ k, k < w.heap.size → ¬ F k → w'.heap[k]? = w.heap[k]?
theorem Moved.refl (F : Nat → Prop) (w : World) : Moved F w w := ⟨rfl, rfl, rfl, Nat.le_refl _, fun _ _ _ => rfl⟩
theorem Moved.of_below {F : Nat → Prop} {w w' : World} (h : Below w.heap.size w w') : Moved F w w' := ⟨h.os, h.tape, h.output, h.size, fun k hk _ => h.block k hk⟩
theorem Moved.trans {F F' : Nat → Prop} {a b c : World} (h : Moved F a b) (k : Moved F' b c) (hF : ∀ i, F' i → F i ∨ a.heap.size ≤ i) : Moved F a c :=
  ⟨k.os.trans h.os, k.tape.trans h.tape, k.output.trans h.output, Nat.le_trans h.size k.size, fun i hi hn =>
    (k.block i (Nat.lt_of_lt_of_le hi h.size) (fun hf => by rcases hF i hf with h1 | h1; exact hn h1; omega)).trans (h.block i hi hn)⟩
theorem Moved.below {F : Nat → Prop} {w w' : World} {B : Nat} (h : Moved F w w') (hB : B ≤ w.heap.size) (hF : ∀ k, F k → B ≤ k) : Below B w w' :=
  ⟨h.os, h.tape, h.output, h.size, fun k hk => h.block k (by omega) (fun hf => by have := hF k hf; omega)⟩
theorem Moved.mono {F F' : Nat → Prop} {w w' : World} (h : Moved F w w') (hF : ∀ k, F k → F' k) : Moved F' w w' :=
  ⟨h.os, h.tape, h.output, h.size, fun k hk hn => h.block k hk (fun hf => hn (hF k hf))⟩
theorem Moved.of_grown {F : Nat → Prop} {w w' : World} {row : Option Nat} (h : w.grownBy w' row) (hr : ∀ g, row = some g → F g) : Moved F w w' :=
  ⟨h.os, h.tape, h.output, h.size, fun k hk hn => h.block k hk (fun e => hn (hr k e.symm))⟩

def strs (xs : List ByteArray) : List Value := xs.map Value.string
theorem strs_length (xs : List ByteArray) : (strs xs).length = xs.length := by simp [strs]
theorem strs_append (xs ys : List ByteArray) : strs (xs ++ ys) = strs xs ++ strs ys := by simp [strs]

/-- Block p is a network: its maps are bq and bc; the slices of bq are Vq; all of it lies in F. -/
structure NetIn (w : World) (p bq bc n : Nat) (s : NS) (Vq : Int × Int → Value) (F : Nat → Prop) : Prop where
  blk : Blk w p 57 #[.int .i64 s.N, .map (some bq), .map (some bc)]
  mq : MapIs way w Try.prog 59 (.slice none 0 0) bq n Vq
  mc : MapIs way w Try.prog 59 (.bool false) bc n (fun i => .bool (s.c i))
  row : ∀ i, ∃ A c, Vq i = .slice A (s.q i).length c ∧ Own w 0 9 1 A (s.q i).length c (strs (s.q i))
  far : ∀ i j, i ≠ j → (Vq i).ownBlock = none ∨ (Vq i).ownBlock ≠ (Vq j).ownBlock
  inF : F p ∧ F bq ∧ F bc ∧ ∀ i g, (Vq i).ownBlock = some g → F g
  off : p ≠ bq ∧ p ≠ bc ∧ bq ≠ bc ∧ ∀ i g, (Vq i).ownBlock = some g → g ≠ p ∧ g ≠ bq ∧ g ≠ bc
  lt : ∀ k, F k → k < w.heap.size
def NetAt (w : World) (p n : Nat) (s : NS) (F : Nat → Prop) : Prop := ∃ bq bc Vq, NetIn w p bq bc n s Vq F

section
variable {w w' : World} {p bq bc n : Nat} {s : NS} {Vq : Int × Int → Value} {F G : Nat → Prop}
theorem Own.kept {base : Nat} {e : TypeId} {size : Nat} {A : Option Addr} {n c : Nat} {xs : List Value} (h : Own w base e size A n c xs)
    (hk : ∀ g, (Value.slice A n c).ownBlock = some g → w'.heap[g]? = w.heap[g]?) : Own w' base e size A n c xs := by
  refine ⟨h.1, ?_⟩
  rcases h.2 with h2 | ⟨g, cap, cur, hv, hg, hh, r⟩
  · exact Or.inl h2
  · exact Or.inr ⟨g, cap, cur, hv, hg, (hk g (by rw [hv]; rfl)).trans hh, r⟩
theorem Own.base {base base' : Nat} {e : TypeId} {size : Nat} {A : Option Addr} {n c : Nat} {xs : List Value} (h : Own w base e size A n c xs) (hb : base' ≤ base) : Own w base' e size A n c xs := by
  refine ⟨h.1, ?_⟩
  rcases h.2 with h2 | ⟨g, cap, cur, hv, hg, r⟩
  · exact Or.inl h2
  · exact Or.inr ⟨g, cap, cur, hv, Nat.le_trans hb hg, r⟩
theorem NetIn.kept (h : NetIn w p bq bc n s Vq F) (hs : w.heap.size ≤ w'.heap.size) (hk : ∀ k, F k → w'.heap[k]? = w.heap[k]?) : NetIn w' p bq bc n s Vq F where
  blk := (hk p h.inF.1).trans h.blk
  mq := h.mq.kept (hk bq h.inF.2.1)
  mc := h.mc.kept (hk bc h.inF.2.2.1)
  row := fun i => by
    obtain ⟨A, c, hv, ho⟩ := h.row i
    exact ⟨A, c, hv, Own.kept ho (fun g hg => hk g (h.inF.2.2.2 i g (by rw [hv]; exact hg)))⟩
  far := h.far
  inF := h.inF
  off := h.off
  lt := fun k hf => Nat.lt_of_lt_of_le (h.lt k hf) hs
theorem NetIn.mono (h : NetIn w p bq bc n s Vq F) {n' : Nat} (hn : n ≤ n') : NetIn w p bq bc n' s Vq F :=
  ⟨h.blk, h.mq.mono hn, h.mc.mono hn, h.row, h.far, h.inF, h.off, h.lt⟩
theorem NetAt.mono (h : NetAt w p n s F) {n' : Nat} (hn : n ≤ n') : NetAt w p n' s F := by
  obtain ⟨bq, bc, Vq, h⟩ := h
  exact ⟨bq, bc, Vq, h.mono hn⟩
theorem NetAt.lt (h : NetAt w p n s F) : ∀ k, F k → k < w.heap.size := by
  obtain ⟨bq, bc, Vq, h⟩ := h
  exact h.lt
theorem NetAt.inp (h : NetAt w p n s F) : F p := by
  obtain ⟨bq, bc, Vq, h⟩ := h
  exact h.inF.1
theorem NetAt.moved (h : NetAt w p n s F) (hm : Moved G w w') (hd : ∀ k, F k → ¬ G k) : NetAt w' p n s F := by
  obtain ⟨bq, bc, Vq, h⟩ := h
  exact ⟨bq, bc, Vq, h.kept hm.size (fun k hf => hm.block k (h.lt k hf) (hd k hf))⟩
theorem NetAt.below (h : NetAt w p n s F) (hb : Below w.heap.size w w') : NetAt w' p n s F := by
  obtain ⟨bq, bc, Vq, h⟩ := h
  exact ⟨bq, bc, Vq, h.kept hb.size (fun k hf => hb.block k (h.lt k hf))⟩
theorem NetAt.drew (h : NetAt w p n s F) : NetAt w.drew p n s F := by
  obtain ⟨bq, bc, Vq, h⟩ := h
  exact ⟨bq, bc, Vq, h.kept (Nat.le_refl _) (fun _ _ => rfl)⟩
end

section
variable {w w' : World} {p bq bc n : Nat} {s : NS} {Vq : Int × Int → Value} {F : Nat → Prop}
/-- Another list at way i. -/
theorem NetIn.put (h : NetIn w p bq bc n s Vq F) (i : Int × Int) (q : List ByteArray) (A : Option Addr) (c : Nat)
    (hs : w.heap.size ≤ w'.heap.size) (hk : ∀ k, k < w.heap.size → k ≠ bq → some k ≠ (Vq i).ownBlock → w'.heap[k]? = w.heap[k]?)
    (hm : MapIs way w' Try.prog 59 (.slice none 0 0) bq (n + 1) (upd Vq i (.slice A q.length c))) (ho : Own w' 0 9 1 A q.length c (strs q))
    (hat : ∀ g, (Value.slice A q.length c).ownBlock = some g → (Vq i).ownBlock = some g ∨ w.heap.size ≤ g) :
    NetIn w' p bq bc (n + 1) { s with q := upd s.q i q } (upd Vq i (.slice A q.length c)) (fun k => F k ∨ (Value.slice A q.length c).ownBlock = some k) := by
  obtain ⟨o1, o2, o3, o4⟩ := h.off
  have hfr : ∀ k, F k → k ≠ bq → some k ≠ (Vq i).ownBlock → w'.heap[k]? = w.heap[k]? := fun k hf h1 h2 => hk k (h.lt k hf) h1 h2
  have hg : ∀ g, (Value.slice A q.length c).ownBlock = some g → g ≠ p ∧ g ≠ bq ∧ g ≠ bc := by
    intro g hg
    rcases hat g hg with h1 | h1
    · exact o4 i g h1
    · have l1 := h.lt p h.inF.1
      have l2 := h.lt bq h.inF.2.1
      have l3 := h.lt bc h.inF.2.2.1
      omega
  refine ⟨?_, hm, ?_, ?_, ?_, ⟨.inl h.inF.1, .inl h.inF.2.1, .inl h.inF.2.2.1, ?_⟩, ⟨o1, o2, o3, ?_⟩, ?_⟩
  · exact (hfr p h.inF.1 o1 (fun e => (o4 i p e.symm).1 rfl)).trans h.blk
  · exact (h.mc.kept (hfr bc h.inF.2.2.1 (Ne.symm o3) (fun e => (o4 i bc e.symm).2.2 rfl))).mono (by omega)
  · intro j
    by_cases e : j = i
    · subst e
      rw [upd_same]
      show ∃ A' c', _ = Value.slice A' (upd s.q j q j).length c' ∧ Own w' 0 _ 1 A' (upd s.q j q j).length c' (strs (upd s.q j q j))
      rw [upd_same]
      exact ⟨A, c, rfl, ho⟩
    · rw [upd_other _ _ _ _ e]
      show ∃ A' c', _ = Value.slice A' (upd s.q i q j).length c' ∧ Own w' 0 _ 1 A' (upd s.q i q j).length c' (strs (upd s.q i q j))
      rw [upd_other _ _ _ _ e]
      obtain ⟨A', c', hv, ho'⟩ := h.row j
      refine ⟨A', c', hv, Own.kept ho' (fun g hg' => ?_)⟩
      have hg2 : (Vq j).ownBlock = some g := by rw [hv]; exact hg'
      refine hfr g (h.inF.2.2.2 j g hg2) (o4 j g hg2).2.1 (fun e2 => ?_)
      rcases h.far j i e with h1 | h1
      · rw [hg2] at h1; cases h1
      · exact h1 (by rw [hg2, e2])
  · intro j k hjk
    by_cases ej : j = i
    · subst ej
      have ek : k ≠ j := Ne.symm hjk
      rw [upd_same, upd_other _ _ _ _ ek]
      cases hv : (Value.slice A q.length c).ownBlock with
      | none => exact .inl rfl
      | some g =>
        refine .inr (fun e2 => ?_)
        rcases hat g hv with h1 | h1
        · rcases h.far j k hjk with h2 | h2
          · rw [h1] at h2; cases h2
          · exact h2 (by rw [h1, e2])
        · have := h.lt g (h.inF.2.2.2 k g e2.symm)
          omega
    · rw [upd_other _ _ _ _ ej]
      by_cases ek : k = i
      · subst ek
        rw [upd_same]
        cases hv : (Vq j).ownBlock with
        | none => exact .inl rfl
        | some g =>
          refine .inr (fun e2 => ?_)
          rcases hat g e2.symm with h1 | h1
          · rcases h.far j k hjk with h2 | h2
            · rw [hv] at h2; cases h2
            · exact h2 (by rw [hv, h1])
          · have := h.lt g (h.inF.2.2.2 j g hv)
            omega
      · rw [upd_other _ _ _ _ ek]
        exact h.far j k hjk
  · intro j g hv
    by_cases e : j = i
    · subst e
      rw [upd_same] at hv
      exact .inr hv
    · rw [upd_other _ _ _ _ e] at hv
      exact .inl (h.inF.2.2.2 j g hv)
  · intro j g hv
    by_cases e : j = i
    · subst e
      rw [upd_same] at hv
      exact hg g hv
    · rw [upd_other _ _ _ _ e] at hv
      exact o4 j g hv
  · intro k hf
    rcases hf with hf | hf
    · exact Nat.lt_of_lt_of_le (h.lt k hf) hs
    · exact (ho.lt k hf).2
end

/-- From a network in F to one in F': what is not of the network is as it was. -/
structure NetGo (F F' : Nat → Prop) (w w' : World) : Prop where
  grow : ∀ k, F' k → F k ∨ w.heap.size ≤ k
  moved : Moved F w w'
theorem NetGo.refl (F : Nat → Prop) (w : World) : NetGo F F w w := ⟨fun _ h => .inl h, Moved.refl _ _⟩
theorem NetGo.of_below {F : Nat → Prop} {w w' : World} (h : Below w.heap.size w w') : NetGo F F w w' := ⟨fun _ h => .inl h, Moved.of_below h⟩
theorem NetGo.trans {F F' F'' : Nat → Prop} {a b c : World} (h : NetGo F F' a b) (k : NetGo F' F'' b c) : NetGo F F'' a c :=
  ⟨fun i hi => by
    rcases k.grow i hi with h1 | h1
    · exact h.grow i h1
    · exact .inr (Nat.le_trans h.moved.size h1), h.moved.trans k.moved h.grow⟩
/-- All that lay below B, and outside F, is as it was. -/
theorem NetGo.below {F F' : Nat → Prop} {w w' : World} {B : Nat} (h : NetGo F F' w w') (hB : B ≤ w.heap.size) (hF : ∀ k, F k → B ≤ k) : Below B w w' ∧ ∀ k, F' k → B ≤ k :=
  ⟨h.moved.below hB hF, fun k hk => by rcases h.grow k hk with h1 | h1; exact hF k h1; omega⟩

theorem way_inj : ∀ i j : Int × Int, way i = way j → i = j := by
  intro i j h
  unfold way at h
  simp at h
  exact Prod.ext h.1 h.2
theorem zero_strs (u : World) : (zeroValue 22).run Try.prog u = .ok (.slice none 0 0) u := by kernel_rfl
theorem zero_bool (u : World) : (zeroValue 4).run Try.prog u = .ok (.bool false) u := by kernel_rfl

theorem setBlock_alloc (w : World) (b : Nat) (x o : Obj) (h : b < w.heap.size) : ChangeMaps.setBlock (w.alloc o) b x = (ChangeMaps.setBlock w b x).alloc o := by
  unfold ChangeMaps.setBlock World.alloc
  simp only [World.mk.injEq, true_and, and_true]
  apply Array.ext'
  simp only [Array.toList_setIfInBounds, Array.toList_push]
  rw [List.set_append_left _ _ (by simpa using h)]
theorem setBlock_size (w : World) (b : Nat) (x : Obj) : (ChangeMaps.setBlock w b x).heap.size = w.heap.size := by simp [ChangeMaps.setBlock]
theorem setBlock_same (w : World) (b : Nat) (x : Obj) (h : b < w.heap.size) : (ChangeMaps.setBlock w b x).heap[b]? = some x := by
  simp [ChangeMaps.setBlock, h]
theorem setBlock_far (w : World) (b k : Nat) (x : Obj) (h : k ≠ b) : (ChangeMaps.setBlock w b x).heap[k]? = w.heap[k]? := by
  simp [ChangeMaps.setBlock, Array.getElem?_setIfInBounds, Ne.symm h]

section
variable {w : World} {p bq bc n : Nat} {s : NS} {Vq : Int × Int → Value} {F : Nat → Prop}
theorem NetIn.lookQ (h : NetIn w p bq bc n s Vq F) {a b : Int} (ha : (Lit.int .i64 a).wf = true) (hb : (Lit.int .i64 b).wf = true) :
    (Instr.lookup 54 (.map (some bq)) (.agg #[.int .i64 a, .int .i64 b]) false).run Try.prog w = .ok (Vq (a, b)) w := by
  obtain ⟨kl, hk⟩ := Option.isSome_iff_exists.1 (key_some a b ha hb)
  exact h.mq.lookup keyed Try.underlying54 (zero_strs w) (a, b) hk
theorem NetIn.lookC (h : NetIn w p bq bc n s Vq F) {a b : Int} (ha : (Lit.int .i64 a).wf = true) (hb : (Lit.int .i64 b).wf = true) :
    (Instr.lookup 55 (.map (some bc)) (.agg #[.int .i64 a, .int .i64 b]) false).run Try.prog w = .ok (.bool (s.c (a, b))) w := by
  obtain ⟨kl, hk⟩ := Option.isSome_iff_exists.1 (key_some a b ha hb)
  exact h.mc.lookup keyed Try.underlying55 (zero_bool w) (a, b) hk
theorem NetIn.c0 (h : NetIn w p bq bc n s Vq F) : w.cell? ⟨p, 0, none⟩ = some (.int .i64 s.N) := by rw [h.blk.cell 0]; rfl
theorem NetIn.c1 (h : NetIn w p bq bc n s Vq F) : w.cell? ⟨p, 1, none⟩ = some (.map (some bq)) := by rw [h.blk.cell 1]; rfl
theorem NetIn.c2 (h : NetIn w p bq bc n s Vq F) : w.cell? ⟨p, 2, none⟩ = some (.map (some bc)) := by rw [h.blk.cell 2]; rfl
end

theorem net_new (w : World) (N : Int) : NetAt (((w.alloc (.map #[] 0)).alloc (.map #[] 0)).alloc (.cells #[.int .i64 N, .map (some w.heap.size), .map (some (w.heap.size + 1))] 57)) (w.heap.size + 1 + 1) 0 (NS.new N)
    (fun k => w.heap.size ≤ k ∧ k < w.heap.size + 3) := by
  refine ⟨w.heap.size, w.heap.size + 1, fun _ => .slice none 0 0, ?_, ?_, ?_, ?_, ?_, ?_, ?_, ?_⟩
  · have := Blk.new ((w.alloc (.map #[] 0)).alloc (.map #[] 0)) 57 #[.int .i64 N, .map (some w.heap.size), .map (some (w.heap.size + 1))]
    simpa [NS.new] using this
  · exact ((MapIs.made way w _ _ _).kept (Below.heap_alloc _ _ _ (by simp))).kept (Below.heap_alloc _ _ _ (by simp; omega))
  · have := MapIs.made way (w.alloc (.map #[] 0)) Try.prog 59 (.bool false)
    have := this.kept (Below.heap_alloc ((w.alloc (.map #[] 0)).alloc (.map #[] 0)) (.cells #[.int .i64 N, .map (some w.heap.size), .map (some (w.heap.size + 1))] 57) _ (by simp))
    simpa [NS.new] using this
  · exact fun i => ⟨none, 0, rfl, Own.nil _ _ _ _⟩
  · exact fun i j _ => .inl rfl
  · refine ⟨by omega, by omega, by omega, fun i g h => ?_⟩
    cases h
  · refine ⟨by omega, by omega, by omega, fun i g h => ?_⟩
    cases h
  · intro k hk
    simp
    omega

theorem new_any (N : Int) (w : World) :
    Calls Try.prog 11 #[.int .i64 N] w fun e w' =>
      if 1 ≤ N ∧ N ≤ 8 then ∃ p F, e = .returned (.tuple #[.pointer (some ⟨p, 0, none⟩), .int .i64 0]) ∧ NetAt w' p 0 (NS.new N) F ∧ (∀ k, F k → w.heap.size ≤ k) ∧ Below w.heap.size w w'
      else e = .returned (.tuple #[.pointer none, .int .i64 1]) ∧ Below w.heap.size w w' := by
  have hmm := @run_makeMap Try.prog
  by_cases h1 : N < 1
  · have hn : ¬ (1 ≤ N ∧ N ≤ 8) := by omega
    simp only [hn, if_false]
    clear hn
    go_enter Try.func11, Try.ntmps11
    go_wp2
    all_goals first | (exfalso; omega) | skip
    all_goals go_ret2
    all_goals exact ⟨rfl, Below.refl _ _⟩
  · by_cases h2 : 8 < N
    · have hn : ¬ (1 ≤ N ∧ N ≤ 8) := by omega
      simp only [hn, if_false]
      clear hn
      go_enter Try.func11, Try.ntmps11
      go_wp2
      all_goals first | (exfalso; omega) | skip
      all_goals go_ret2
      all_goals exact ⟨rfl, Below.refl _ _⟩
    · have hn : 1 ≤ N ∧ N ≤ 8 := by omega
      simp only [hn, if_true]
      clear hn
      go_enter Try.func11, Try.ntmps11
      go_wp2
      all_goals first | (exfalso; omega) | skip
      all_goals go_ret2
      refine ⟨_, rfl, _, net_new w N, fun k hk => hk.1, (((Below.refl _ _).alloc (Nat.le_refl _) _).alloc (by simp) _).alloc (by simp; omega) _⟩
theorem new_ok (N : Int) (w : World) (h : 1 ≤ N ∧ N ≤ 8) :
    Calls Try.prog 11 #[.int .i64 N] w fun e w' =>
      ∃ p F, e = .returned (.tuple #[.pointer (some ⟨p, 0, none⟩), .int .i64 0]) ∧ NetAt w' p 0 (NS.new N) F ∧ (∀ k, F k → w.heap.size ≤ k) ∧ Below w.heap.size w w' :=
  (new_any N w).mono fun e w' hp => by simpa only [if_pos h] using hp
theorem new_bad (N : Int) (w : World) (h : ¬ (1 ≤ N ∧ N ≤ 8)) :
    Calls Try.prog 11 #[.int .i64 N] w fun e w' => e = .returned (.tuple #[.pointer none, .int .i64 1]) ∧ Below w.heap.size w w' :=
  (new_any N w).mono fun e w' hp => by simpa only [if_neg h] using hp
end Go.Proofs.Ytnoihbbfodkejaa
