/-
  Chapter 17: the map of counts in memory.
-/
import Derived.Test.YtlkgoljpjeieiaaGreatDoorNatI
import Derived.Maps.RangeWalk
import Derived.Maps.Ext
set_option linter.unusedVariables false
set_option linter.unusedSimpArgs false
namespace Go.Proofs.YtlkgoljpjeieiaaGreatDoor
open Go.RowKit Go.Deep Go.Maps

abbrev MT : TypeId := 46
theorem keyedI : Keyed Tryz.prog 3 := int_keyed Tryz.underlying3
theorem keyI {v : Int} (h : (Lit.int .i64 v).wf = true) : keyOf Tryz.prog 3 (.int .i64 v) = some (.int .i64 v) := keyOf_int_mk Tryz.underlying3 h
/-- Block b is the map of the counts N, of at most k entries. -/
def CM (w : World) (b k : Nat) (N : Int → Nat) : Prop :=
  ∃ D : DataW Value, w.ownsMap Tryz.prog 3 Rv b k D ∧ (∀ v : Int, (Lit.int .i64 v).wf = true → has D (.int .i64 v) = decide (N v ≠ 0)) ∧
    (∀ v : Int, (Lit.int .i64 v).wf = true → ∀ zd, D.atKey (.int .i64 v) zd = if N v = 0 then zd else .held (.string (NS (N v))))
theorem CM.made (w : World) : CM (w.alloc (.map #[] 0)) w.heap.size 0 (fun _ => 0) := ⟨.map [], World.ownsMap_made _ _ _ _, fun _ _ => rfl, fun _ _ _ => rfl⟩
theorem CM.kept {w w' : World} {b k : Nat} {N : Int → Nat} (h : CM w b k N) (hb : w'.heap[b]? = w.heap[b]?) : CM w' b k N := by
  obtain ⟨D, ⟨es, clock, h1, h2⟩, hV⟩ := h
  exact ⟨D, ⟨es, clock, hb.trans h1, h2⟩, hV⟩
theorem CM.lt {w : World} {b k : Nat} {N : Int → Nat} (h : CM w b k N) : b < w.heap.size := by
  obtain ⟨D, hown, _⟩ := h
  exact hown.lt
theorem CM.mono {w : World} {b k k' : Nat} {N : Int → Nat} (h : CM w b k N) (hk : k ≤ k') : CM w b k' N := by
  obtain ⟨D, hown, hV⟩ := h
  exact ⟨D, hown.mono hk, hV⟩
theorem CM.ext {w : World} {b k : Nat} {N M : Int → Nat} (h : CM w b k N) (e : ∀ v, N v = M v) : CM w b k M := by
  obtain rfl : N = M := funext e
  exact h
theorem zeroNat (w : World) : (zeroValue 29).run Tryz.prog w = .ok (.string ⟨#[]⟩) w := by kernel_rfl
set_option maxRecDepth 20000 in
theorem CM.put {w : World} {b k : Nat} {N : Int → Nat} (h : CM w b k N) (hk : k < maxLen) {v : Int} (hv : (Lit.int .i64 v).wf = true) {c : Nat} (hc : c ≠ 0) :
    ∃ w', (Instr.mapUpdate MT (.map (some b)) (.int .i64 v) (.string (NS c))).run Tryz.prog w = .ok () w' ∧ CM w' b (k + 1) (fun x => if x = v then c else N x) ∧ w.grownBy w' (some b) := by
  have hkl := keyI hv
  obtain ⟨D, hown, hh, hV⟩ := h
  obtain ⟨w', hrun, hown', hgr⟩ := hown.update keyedI Tryz.underlying46 hk hkl (val := .string (NS c)) (d := .held (.string (NS c))) (ps := []) rfl
  have ht : Tidy D := World.ownsMap.tidy hown keyedI
  refine ⟨w', hrun, ⟨D.put (.int .i64 v) (.held (.string (NS c))), hown', fun x hx => ?_, fun x hx zd => ?_⟩, hgr⟩
  · by_cases e : x = v
    · subst e
      rw [has_put_same ht.isMap (keyedI.key hkl)]
      simp [hc]
    · have hne : (Lit.int .i64 x) ≠ (Lit.int .i64 v) := fun he => e (by injection he)
      rw [has_put_other hne, hh x hx]
      simp [e]
  · by_cases e : x = v
    · subst e
      rw [atKey_put_same hown.isMap (keyedI.key hkl)]
      simp [hc]
    · have hne : (Lit.int .i64 x) ≠ (Lit.int .i64 v) := fun he => e (by injection he)
      rw [atKey_put_other hne, hV x hx zd]
      simp [e]
set_option maxRecDepth 20000 in
theorem CM.look_ {w : World} {b k : Nat} {N : Int → Nat} (h : CM w b k N) {v : Int} (hv : (Lit.int .i64 v).wf = true) :
    (Instr.lookup MT (.map (some b)) (.int .i64 v) true).run Tryz.prog w = .ok (.tuple #[.string (if N v = 0 then ⟨#[]⟩ else NS (N v)), .bool (decide (N v ≠ 0))]) w := by
  have hkl := keyI hv
  obtain ⟨D, hown, hh, hV⟩ := h
  obtain ⟨x, ps, hrun, hx⟩ := hown.look_ok keyedI Tryz.underlying46 (zeroNat w) (zd := .held (.string ⟨#[]⟩)) (zp := []) rfl hkl
  rw [hV v hv] at hx
  rw [hh v hv] at hrun
  rw [hrun]
  by_cases h0 : N v = 0
  · rw [if_pos h0] at hx ⊢
    injection hx with hx
    injection hx with hx _
    injection hx with hx
    rw [hx]
  · rw [if_neg h0] at hx ⊢
    injection hx with hx
    injection hx with hx _
    injection hx with hx
    rw [hx]
set_option maxRecDepth 20000 in
theorem CM.look1 {w : World} {b k : Nat} {N : Int → Nat} (h : CM w b k N) {v : Int} (hv : (Lit.int .i64 v).wf = true) (h0 : N v ≠ 0) :
    (Instr.lookup MT (.map (some b)) (.int .i64 v) false).run Tryz.prog w = .ok (.string (NS (N v))) w := by
  have hkl := keyI hv
  obtain ⟨D, hown, hh, hV⟩ := h
  obtain ⟨x, ps, hrun, hx⟩ := hown.lookup keyedI Tryz.underlying46 (zeroNat w) (zd := .held (.string ⟨#[]⟩)) (zp := []) rfl hkl
  rw [hV v hv, if_neg h0] at hx
  injection hx with hx
  injection hx with hx _
  injection hx with hx
  rw [hrun, hx]
end Go.Proofs.YtlkgoljpjeieiaaGreatDoor
