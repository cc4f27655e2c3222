/-
  Chapter 23: variables in memory, and the map of their values.
-/
import Derived.Test.YtkomgidcgepknaaGreatDoorMerB
import Derived.Test.YtkomgidcgepknaaGreatDoorExpA
set_option linter.unusedVariables false
set_option linter.unusedSimpArgs false
namespace Go.Proofs.YtkomgidcgepknaaGreatDoor
open Go.RowKit Go.Deep Go.Maps

theorem hasV_snoc (l : List Vr) (v : Vr) (t : ByteArray) : hasV (l ++ [v]) t = (hasV l t || decide (v.name = t)) := by simp [hasV]
/-- Block b is the map of the variables l. -/
def VM (w : World) (b : Nat) (l : List Vr) : Prop :=
  ∃ D : DataW Value, w.ownsMap Tryz.prog 9 Rv b l.length D ∧ (∀ s kl, keyOf Tryz.prog 9 (.string s) = some kl → has D kl = hasV l s) ∧
    (∀ s kl, keyOf Tryz.prog 9 (.string s) = some kl → ∀ zd, D.atKey kl zd = match sigV l s with | none => zd | some x => .held (.int .i64 x))
theorem VM.made (w : World) : VM (w.alloc (.map #[] 0)) w.heap.size [] := ⟨.map [], World.ownsMap_made _ _ _ _, fun _ _ _ => rfl, fun _ _ _ _ => rfl⟩
theorem VM.kept {w w' : World} {b : Nat} {l : List Vr} (h : VM w b l) (hb : w'.heap[b]? = w.heap[b]?) : VM w' b l := by
  obtain ⟨D, ⟨es, clock, h1, h2⟩, hV⟩ := h
  exact ⟨D, ⟨es, clock, hb.trans h1, h2⟩, hV⟩
theorem VM.lt {w : World} {b : Nat} {l : List Vr} (h : VM w b l) : b < w.heap.size := by
  obtain ⟨D, hown, _⟩ := h
  exact hown.lt
theorem zeroInt (w : World) : (zeroValue 3).run Tryz.prog w = .ok (.int .i64 0) w := by kernel_rfl
set_option maxRecDepth 20000 in
theorem VM.put {w : World} {b : Nat} {l : List Vr} (h : VM w b l) (hn : l.length < maxLen) (v : Vr) (hr : v.name.size ≤ maxLen) (hnew : hasV l v.name = false) :
    ∃ w', (Instr.mapUpdate 94 (.map (some b)) (.string v.name) (.int .i64 v.val)).run Tryz.prog w = .ok () w' ∧ VM w' b (l ++ [v]) ∧ w.grownBy w' (some b) := by
  obtain ⟨kl, hkl⟩ := Option.isSome_iff_exists.1 (keyS hr)
  obtain ⟨D, hown, hh, hV⟩ := h
  obtain ⟨w', hrun, hown', hgr⟩ := hown.update keyedS Tryz.underlying94 hn hkl (val := .int .i64 v.val) (d := .held (.int .i64 v.val)) (ps := []) rfl
  have ht : Tidy D := World.ownsMap.tidy hown keyedS
  refine ⟨w', hrun, ⟨D.put kl (.held (.int .i64 v.val)), by rw [List.length_append]; exact hown', fun s kj hj => ?_, fun s kj hj zd => ?_⟩, hgr⟩
  · rw [hasV_snoc]
    by_cases e : s = v.name
    · subst e
      obtain rfl : kj = kl := Option.some.inj (hj.symm.trans hkl)
      rw [has_put_same ht.isMap (keyedS.key hj), decide_eq_true rfl, Bool.or_true]
    · have hne : kj ≠ kl := fun he => e (Value.string.inj (keyedS.inj hj (he ▸ hkl)))
      rw [has_put_other hne, hh s kj hj, decide_eq_false (fun e2 => e e2.symm), Bool.or_false]
  · rw [sigV_snoc]
    by_cases e : s = v.name
    · subst e
      obtain rfl : kj = kl := Option.some.inj (hj.symm.trans hkl)
      rw [sigV_none hnew]
      dsimp only
      rw [if_pos rfl, atKey_put_same hown.isMap (keyedS.key hj)]
    · have hne : kj ≠ kl := fun he => e (Value.string.inj (keyedS.inj hj (he ▸ hkl)))
      rw [atKey_put_other hne, hV s kj hj zd, if_neg (fun e2 => e e2.symm)]
      cases sigV l s <;> rfl
set_option maxRecDepth 20000 in
theorem VM.look_ {w : World} {b : Nat} {l : List Vr} (h : VM w b l) {t : ByteArray} (ht : t.size ≤ maxLen) :
    (Instr.lookup 94 (.map (some b)) (.string t) true).run Tryz.prog w = .ok (.tuple #[.int .i64 ((sigV l t).getD 0), .bool (sigV l t).isSome]) w := by
  obtain ⟨kl, hkl⟩ := Option.isSome_iff_exists.1 (keyS ht)
  obtain ⟨D, hown, hh, hV⟩ := h
  obtain ⟨v, ps, hrun, hv⟩ := hown.look_ok keyedS Tryz.underlying94 (zeroInt w) (zd := .held (.int .i64 0)) (zp := []) rfl hkl
  rw [hV t kl hkl] at hv
  rw [hh t kl hkl, ← sigV_has] at hrun
  rw [hrun]
  cases hl : sigV l t with
  | none =>
    rw [hl] at hv
    injection hv with hv
    injection hv with hv _
    injection hv with hv
    rw [hv]; rfl
  | some x =>
    rw [hl] at hv
    injection hv with hv
    injection hv with hv _
    injection hv with hv
    rw [hv]; rfl

/-- The cells of variables. -/
def cellsV (rs : List Vr) : List Value := rs.flatMap fun r => [.string r.name, .int .i64 r.val]
theorem cellsV_len : ∀ rs : List Vr, (cellsV rs).length = rs.length * 2
  | [] => rfl
  | r :: rs => by
    have := cellsV_len rs
    unfold cellsV at this ⊢
    rw [List.flatMap_cons, List.length_append, this]
    simp
    omega
theorem cellsV_get {r : Vr} : ∀ (rs : List Vr) (i : Nat), rs[i]? = some r → (cellsV rs)[i * 2]? = some (.string r.name) ∧ (cellsV rs)[i * 2 + 1]? = some (.int .i64 r.val)
  | [], i, h => by simp at h
  | y :: rs, 0, h => by
    simp only [List.getElem?_cons_zero, Option.some.injEq] at h
    subst h
    exact ⟨rfl, rfl⟩
  | y :: rs, i + 1, h => by
    have := cellsV_get rs i (by simpa using h)
    rw [show (i + 1) * 2 = (i * 2) + 1 + 1 from by omega]
    unfold cellsV at this ⊢
    simpa only [List.flatMap_cons, List.cons_append, List.nil_append, List.getElem?_cons_succ] using this
theorem cellsV_one : ∀ (rs : List Vr), ∀ u ∈ cellsV rs, u.oneCell' = true := by
  intro rs u hu
  unfold cellsV at hu
  obtain ⟨s, _, hs⟩ := List.mem_flatMap.1 hu
  simp only [List.mem_cons, List.not_mem_nil, or_false] at hs
  rcases hs with rfl | rfl <;> rfl
theorem cellsV_append (rs ss : List Vr) : cellsV (rs ++ ss) = cellsV rs ++ cellsV ss := by simp [cellsV]
/-- '.slice A n c' reads as the variables rs, below block B. -/
def RVr (w : World) (B : Nat) (A : Option Addr) (n : Nat) (rs : List Vr) : Prop := Reads w B 2 A n (cellsV rs)
section
variable {w w' : World} {B B' : Nat} {A : Option Addr} {n : Nat} {rs : List Vr}
theorem RVr.len (h : RVr w B A n rs) : rs.length = n := by
  have := h.1
  rw [cellsV_len] at this
  omega
theorem RVr.at_ (h : RVr w B A n rs) {i : Nat} (hi : i < n) : ∃ b off, A = some ⟨b, off, none⟩ ∧ b < B ∧
    w.cell? ⟨b, off + i * 2, none⟩ = some (.string (vrAt rs i).name) ∧ w.cell? ⟨b, off + i * 2 + 1, none⟩ = some (.int .i64 (vrAt rs i).val) := by
  have hl := h.len
  have h0 := (cellsV_get rs 0 (vrAt_get (by omega))).1
  obtain ⟨ad, hA, hb, hc⟩ := h.2 (by omega)
  have hz := hc (0 * 2) _ h0
  obtain ⟨b, off, spot⟩ := ad
  have hsp : spot = none := by simpa [Addr.add] using World.cell?_spot hz
  subst hsp
  obtain ⟨g0, g1⟩ := cellsV_get rs i (vrAt_get (by omega))
  have k0 := hc _ _ g0
  have k1 := hc _ _ g1
  rw [add_lit] at k0 k1
  exact ⟨b, off, hA, hb, k0, by rwa [← Nat.add_assoc] at k1⟩
theorem RVr.below (h : RVr w B A n rs) (hb : Below B w w') : RVr w' B A n rs := Reads.below h hb
theorem RVr.more (h : RVr w B A n rs) (hB : B ≤ B') : RVr w B' A n rs := Reads.more h hB
theorem RVr.next (h : RVr w w.heap.size A n rs) (hb : Below w.heap.size w w') : RVr w' w'.heap.size A n rs := (Reads.below h hb).more hb.size
end
end Go.Proofs.YtkomgidcgepknaaGreatDoor
