/-
  Chapter 28: what the laws' walks share.
-/
import Derived.Test.YteknmllcpemnoaaHead
import Derived.Test.YteknmllcpemnoaaPlain
import Derived.Deep.Cut
namespace Go.Proofs.Yteknmllcpemnoaa
open Go.RowKit Go.Deep

theorem valW_Good {us : List Int} (hu : ∀ z ∈ us, 0 ≤ z ∧ z ≤ 4294967295) : Good (valW us) := by
  have h0 : ∀ k, 0 ≤ nth us k := fun k => by
    by_cases hk : k < us.length
    · exact (hu _ (nth_mem hk)).1
    · rw [nth_out hk]; omega
  have := valW_good h0
  exact ⟨by have := valW_len us; omega, this.1, this.2⟩
theorem val_at (A : Option Addr) (n c : Nat) (us : List Int) (raw : Int) (T : Nat) (ws : List Int) (hT : raw % 721 = T) (hws : valW us = ws) (w : World) (h : RK .u32 w w.heap.size A n us) (hn : n ≤ maxLen) (hu : ∀ z ∈ us, 0 ≤ z ∧ z ≤ 4294967295) (hr : 0 ≤ raw ∧ raw ≤ 65535) :
    Calls Try.prog 13 #[.int .u16 raw, .slice A n c] w (RetNL w (T : Int) ws) := by
  rw [← hT, ← hws]; exact val_any A n c us raw w h hn hu hr
theorem share_at (A : Option Addr) (n c : Nat) (ws : List Int) (T : Nat) (w : World) (h : RI w w.heap.size A n ws) (G : Good ws) (hl : n ≤ 200) (hT : T ≤ 720) :
    Calls Try.prog 10 #[.int .i64 (T : Int), .slice A n c] w (RetLE w (run ws T) 0) := by
  have he : shrE (T : Int) ws = 0 := shr_valid G.pos (by rw [h.len]; exact hl) G.bad G.one (by omega) (by omega)
  have := share_any A n c ws (T : Int) w h (by unfold maxLen; omega)
  rw [he, show shrL (T : Int) ws = run ws T by simp [shrL, he]] at this
  exact this
theorem wsum_small {l : List Int} (M : Int) (h : ∀ k, k < l.length → 0 ≤ nth l k ∧ nth l k ≤ M) (hb : l.length * M ≤ 9000000000000000000) : wsum l = l.sum := by
  have := sum_bd l M fun x hx => by
    obtain ⟨i, hi, rfl⟩ := List.getElem_of_mem hx
    have := h i hi
    rwa [nth_eq hi] at this
  rw [wsum_eq]
  exact W_in (by omega)
theorem sum_pos {w : List Int} (h : Good w) : 1 ≤ w.sum := by
  have hp := h.pos
  have h1 := h.one
  cases w with
  | nil => simp at hp
  | cons x xs =>
    have := sum_bd xs 1000000000 fun y hy => by
      obtain ⟨i, hi, rfl⟩ := List.getElem_of_mem hy
      have := badW_nth h.bad (i + 1)
      simp only [nth, List.getD_cons_succ] at this
      have e := nth_eq hi
      simp only [nth] at e
      rwa [e] at this
    simp only [nth, List.getD_cons_zero] at h1
    rw [List.sum_cons]
    omega
theorem wf_u8 {x : Int} (h : (Lit.int .u8 x).wf = true) : 0 ≤ x ∧ x ≤ 255 := by
  simp only [Lit.wf, Bool.and_eq_true, IntKind.min, IntKind.max] at h
  simpa [IntKind.signed, IntKind.bits] using h
theorem wf_u16 {x : Int} (h : (Lit.int .u16 x).wf = true) : 0 ≤ x ∧ x ≤ 65535 := by
  simp only [Lit.wf, Bool.and_eq_true, IntKind.min, IntKind.max] at h
  simpa [IntKind.signed, IntKind.bits] using h
theorem wf_u32 {x : Int} (h : (Lit.int .u32 x).wf = true) : 0 ≤ x ∧ x ≤ 4294967295 := by
  simp only [Lit.wf, Bool.and_eq_true, IntKind.min, IntKind.max] at h
  simpa [IntKind.signed, IntKind.bits] using h
theorem run_bd720 {w : List Int} (h : Good w) {t : Nat} (ht : t ≤ 721) (k : Nat) : 0 ≤ nth (run w t) k ∧ nth (run w t) k ≤ 721 := by
  have := run_bd w h.pos t k
  omega
/-- Behind an append onto the block that has just been made nothing older has turned. -/
theorem only_new {w w4 : World} {o : Obj} {base : Nat} (hb : Below base (w.alloc o) w4) (hg : (w.alloc o).grownBy w4 (some w.heap.size)) : Below w.heap.size w w4 :=
  ((Below.refl _ w).alloc (Nat.le_refl _) o).grown hg (by simp) (fun k hk => by injection hk with hk; omega)
theorem valO_at (A : Option Addr) (n c : Nat) (us : List Int) (raw : Int) (T : Nat) (ws : List Int) (hT : raw % 721 = T) (hws : valW us = ws) (w : World) (h : RK .u32 w w.heap.size A n us) (hn : n ≤ maxLen) (hu : ∀ z ∈ us, 0 ≤ z ∧ z ≤ 4294967295) (hr : 0 ≤ raw ∧ raw ≤ 65535) :
    Calls Try.prog 13 #[.int .u16 raw, .slice A n c] w (RetNO w (T : Int) ws) := by
  rw [← hT, ← hws]; exact val_own A n c us raw w h hn hu hr
theorem Own.mono {w : World} {base base' : Nat} {e : TypeId} {size n c : Nat} {A : Option Addr} {xs : List Value} (h : Own w base e size A n c xs) (hb : base' ≤ base) : Own w base' e size A n c xs := by
  refine ⟨h.1, ?_⟩
  rcases h.2 with h2 | ⟨g, cap, cur, hv, hg, r⟩
  · exact Or.inl h2
  · exact Or.inr ⟨g, cap, cur, hv, Nat.le_trans hb hg, r⟩
theorem reads_new_at (w : World) (cs : Array Value) (e : TypeId) (size n b : Nat) (hs : cs.size = n * size) (hb : w.heap.size = b) : Reads (w.alloc (.cells cs e)) (b + 1) size (some ⟨b, 0, none⟩) n cs.toList := by
  subst hb; exact reads_new w cs e size n hs
/-- A row of the call's own is kept where it lies below what is written. -/
theorem Own.under {w w' : World} {base g B : Nat} {e : TypeId} {size n c : Nat} {xs : List Value} (h : Own w base e size (some ⟨g, 0, none⟩) n c xs) (hg : g < B) (hb : Below B w w') : Own w' base e size (some ⟨g, 0, none⟩) n c xs := by
  refine ⟨h.1, ?_⟩
  rcases h.2 with ⟨h2, _⟩ | ⟨g', cap, cur, hv, hg', hh, r⟩
  · cases h2
  · injection hv with e1 e2 e3
    injection e1 with e1
    injection e1 with e1
    subst e1
    exact Or.inr ⟨g, cap, cur, by rw [e3], hg', (hb.block g hg).trans hh, r⟩
theorem Own.far {w : World} {base : Nat} {e : TypeId} {size n c : Nat} {A : Option Addr} {xs : List Value} (h : Own w base e size A n c xs) {a : Addr} (ha : a.block < base) (u : Value) : Own (w.setCell a u) base e size A n c xs := ownsRow_setCell_below h ha u
end Go.Proofs.Yteknmllcpemnoaa
