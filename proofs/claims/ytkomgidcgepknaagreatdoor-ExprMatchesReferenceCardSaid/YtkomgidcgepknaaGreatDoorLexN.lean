/-
  The lexer's next token.
-/
import Derived.Test.YtkomgidcgepknaaGreatDoorIdx
set_option linter.unusedVariables false
set_option linter.unusedSimpArgs false
namespace Go.Proofs.YtkomgidcgepknaaGreatDoor
open Go.RowKit Go.Deep

/-- The cells of a token. -/
def Tok.cells (t : Tok) : Array Value := #[.int .i64 t.kind, .string t.text, .int .i64 t.n, .int .i64 t.off]
theorem results_cell2 {P : Program} {fn : Func} {p t u : Tmp} {ty : TypeId} (h : fn.results = #[.cell p ty, .tmp t, .tmp u]) (tmps : Array Value) (w : World) (g : Nat) (T : TypeId) (cs : Array Value) (fr : Nat × Nat) (d : TypeDesc)
    (hp : tmps.getD p undef = .pointer (some ⟨g, 0, none⟩)) (hg : w.heap[g]? = some (.cells cs T fr))
    (hu : P.underlying ty = some d) (hd : (match d with | .struct _ | .array _ _ => true | _ => false) = true) (hi : (P.info? ty).map (·.size) = some cs.size) :
    (results fn tmps).run P w = .ok (.tuple #[.agg cs, tmps.getD t undef, tmps.getD u undef]) w := by
  have hp' : tmps[p]?.getD undef = .pointer (some ⟨g, 0, none⟩) := by simpa using hp
  simp [results, h, hp', asAddr, run_loadVar_row w g T ty cs fr d hg hu hd hi]
theorem set4 {w : World} {g : Nat} {t : TypeId} {a b c d : Value} (h : Blk w g t #[a, b, c, d]) (v0 v1 v2 v3 : Value) :
    Blk ((((w.setCell ⟨g, 0, none⟩ v0).setCell ⟨g, 1, none⟩ v1).setCell ⟨g, 2, none⟩ v2).setCell ⟨g, 3, none⟩ v3) g t #[v0, v1, v2, v3] := by
  have h1 := (((h.set_ 0 v0).set_ 1 v1).set_ 2 v2).set_ 3 v3
  simpa using h1
theorem below4 {B g : Nat} {w0 w : World} (h : Below B w0 w) (hg : B ≤ g) (v0 v1 v2 v3 : Value) :
    Below B w0 ((((w.setCell ⟨g, 0, none⟩ v0).setCell ⟨g, 1, none⟩ v1).setCell ⟨g, 2, none⟩ v2).setCell ⟨g, 3, none⟩ v3) :=
  (((h.setCell hg _).setCell hg _).setCell hg _).setCell hg _

theorem blk4 {w : World} {g : Nat} {t : TypeId} {a b c d : Value} (h : Blk w g t #[a, b, c, d]) :
    w.cell? ⟨g, 0, none⟩ = some a ∧ w.cell? ⟨g, 1, none⟩ = some b ∧ w.cell? ⟨g, 2, none⟩ = some c ∧ w.cell? ⟨g, 3, none⟩ = some d ∧
    w.frozen? ⟨g, 0, none⟩ = false ∧ w.frozen? ⟨g, 1, none⟩ = false ∧ w.frozen? ⟨g, 2, none⟩ = false ∧ w.frozen? ⟨g, 3, none⟩ = false :=
  ⟨h.cell 0, h.cell 1, h.cell 2, h.cell 3, h.frozen 0, h.frozen 1, h.frozen 2, h.frozen 3⟩

/-- What 'next' hands back. -/
def nextV (s : ByteArray) (i : Nat) : Value := .tuple #[.agg (nextT s i).2.1.cells, .int .i64 ((nextT s i).2.2 : Nat), .int .i64 (nextT s i).1]
theorem nextV_of {s : ByteArray} {i : Nat} {err : Int} {t : Tok} {e : Nat} (h : nextT s i = (err, t, e)) : nextV s i = .tuple #[.agg t.cells, .int .i64 (e : Nat), .int .i64 err] := by
  unfold nextV; rw [h]

set_option maxHeartbeats 2000000 in
set_option maxRecDepth 100000 in
theorem next_name (p : Nat) (s : ByteArray) (i : Nat) (w : World) (h : Scan w p s) (hi : i < s.size) (hs : s.size ≤ 20000) (k3 : atC s i = 3) :
    Calls Tryz.prog 116 #[.pointer (some ⟨p, 0, none⟩), .int .i64 i] w fun e w' => e = .returned (nextV s i) ∧ Below w.heap.size w w' := by
  have hp := h.lt
  have hm : s.size < maxLen := by unfold maxLen; omega
  have HM := hide hm
  clear hm
  have hb0 : Below w.heap.size w (w.alloc (Obj.cells #[.int .i64 0, .string ⟨#[]⟩, .int .i64 0, .int .i64 0] 166)) := (Below.refl _ _).alloc (Nat.le_refl _) _
  have hB0 : Blk (w.alloc (Obj.cells #[.int .i64 0, .string ⟨#[]⟩, .int .i64 0, .int .i64 0] 166)) w.heap.size 166 #[.int .i64 0, .string ⟨#[]⟩, .int .i64 0, .int .i64 0] := Blk.new _ _ _
  go_enter Tryz.func116, Tryz.ntmps116
  go_wp2_with fail
  generalize w.alloc (Obj.cells #[.int .i64 0, .string ⟨#[]⟩, .int .i64 0, .int .i64 0] 166) = v0 at hb0 hB0 ⊢
  have hs0 := h.below hb0 hp
  refine (at_any p s i v0 hs0 (by unfold maxLen; omega) (by unfold maxLen; omega)).mono ?_
  rintro e v1 ⟨rfl, m1, rfl⟩
  have hb1 := below_drewN hb0 m1
  have hB1 : Blk (v0.drewN m1) _ _ _ := hB0
  have hs1 := hs0.drewN m1
  clear hb0 hB0 hs0
  generalize v0.drewN m1 = v1 at hb1 hB1 hs1 ⊢
  have hlw1 := hb1.size
  have HN0 : Hid (nextT s i = if 24 < whileE s isWordC i - i then (2, ⟨0, ByteArray.empty, 0, 0⟩, 0) else (0, ⟨1, s.extract i (whileE s isWordC i), 0, i⟩, whileE s isWordC i)) := by
    show nextT s i = _
    unfold nextT
    rw [if_pos k3]
  rw [k3]
  clear k3
  have hl := Blk.new v1 3 (ints [3, 4, 5]).toArray
  have hb2 := hb1.alloc hb1.size (Obj.cells (ints [3, 4, 5]).toArray 3)
  have hB2 := hB1.alloc (Obj.cells (ints [3, 4, 5]).toArray 3)
  go_wp2_with fail
  change Calls _ _ _ (v1.alloc (Obj.cells (ints [3, 4, 5]).toArray 3)) _
  generalize v1.alloc (Obj.cells (ints [3, 4, 5]).toArray 3) = v2 at hl hb2 hB2 ⊢
  refine (while_any p v1.heap.size 3 3 _ [3, 4, 5] s i v2 (h.below hb2 hp) hl rfl (by unfold maxLen; omega) (by omega) HM.out).mono ?_
  rintro e v3 ⟨rfl, m3, rfl⟩
  have hb3 := below_drewN hb2 m3
  have hB3 : Blk (v2.drewN m3) _ _ _ := hB2
  have hs3 := h.below hb3 hp
  clear hb1 hB1 hs1 hb2 hB2 hl
  generalize v2.drewN m3 = v3 at hb3 hB3 hs3 ⊢
  have ht3 := hs3.text
  have hg := whileE_ge s isWordC i
  have hl := whileE_le s isWordC i (by omega)
  rw [show inL [3, 4, 5] = isWordC from rfl]
  generalize whileE s isWordC i = e0 at hg hl HN0 ⊢
  by_cases h24 : 24 < e0 - i
  · have HN : Hid (nextT s i = (2, ⟨0, ByteArray.empty, 0, 0⟩, 0)) := by
      show nextT s i = _
      rw [HN0.out, if_pos h24]
    have h24' : (24 : Int) < (e0 : Int) - i := by omega
    obtain ⟨c0, c1, c2, c3, z0, z1, z2, z3⟩ := blk4 hB3
    have hq := set4 hB3 (.int .i64 0) (.string ⟨#[]⟩) (.int .i64 0) (.int .i64 0)
    have hbq := below4 hb3 (Nat.le_refl _) (.int .i64 0) (.string ⟨#[]⟩) (.int .i64 0) (.int .i64 0)
    have HQ := hide hq
    have HBQ := hide hbq
    clear hq hbq hB3 hb3
    go_wp2
    refine bodyPost_ret (results_cell2 rfl _ _ w.heap.size 166 _ (0, 0) _ rfl HQ.out Tryz.underlying166 rfl (by kernel_rfl)) rfl ?_
    exact ⟨by rw [nextV_of HN.out]; rfl, HBQ.out⟩
  · have HN : Hid (nextT s i = (0, ⟨1, s.extract i e0, 0, i⟩, e0)) := by
      show nextT s i = _
      rw [HN0.out, if_neg h24]
    have h24' : ¬ (24 : Int) < (e0 : Int) - i := by omega
    obtain ⟨c0, c1, c2, c3, z0, z1, z2, z3⟩ := blk4 hB3
    have hq := set4 hB3 (.int .i64 1) (.string (s.extract i e0)) (.int .i64 0) (.int .i64 i)
    have hbq := below4 hb3 (Nat.le_refl _) (.int .i64 1) (.string (s.extract i e0)) (.int .i64 0) (.int .i64 i)
    have HQ := hide hq
    have HBQ := hide hbq
    clear hq hbq hB3 hb3
    go_wp2
    refine bodyPost_ret (results_cell2 rfl _ _ w.heap.size 166 _ (0, 0) _ rfl HQ.out Tryz.underlying166 rfl (by kernel_rfl)) rfl ?_
    exact ⟨by rw [nextV_of HN.out]; rfl, HBQ.out⟩

set_option maxHeartbeats 2000000 in
set_option maxRecDepth 100000 in
theorem next_num (p : Nat) (s : ByteArray) (i : Nat) (w : World) (h : Scan w p s) (hi : i < s.size) (hs : s.size ≤ 20000) (k4 : atC s i = 4) :
    Calls Tryz.prog 116 #[.pointer (some ⟨p, 0, none⟩), .int .i64 i] w fun e w' => e = .returned (nextV s i) ∧ Below w.heap.size w w' := by
  have hp := h.lt
  have hm : s.size < maxLen := by unfold maxLen; omega
  have HM := hide hm
  clear hm
  have hb0 : Below w.heap.size w (w.alloc (Obj.cells #[.int .i64 0, .string ⟨#[]⟩, .int .i64 0, .int .i64 0] 166)) := (Below.refl _ _).alloc (Nat.le_refl _) _
  have hB0 : Blk (w.alloc (Obj.cells #[.int .i64 0, .string ⟨#[]⟩, .int .i64 0, .int .i64 0] 166)) w.heap.size 166 #[.int .i64 0, .string ⟨#[]⟩, .int .i64 0, .int .i64 0] := Blk.new _ _ _
  go_enter Tryz.func116, Tryz.ntmps116
  go_wp2_with fail
  generalize w.alloc (Obj.cells #[.int .i64 0, .string ⟨#[]⟩, .int .i64 0, .int .i64 0] 166) = v0 at hb0 hB0 ⊢
  have hs0 := h.below hb0 hp
  refine (at_any p s i v0 hs0 (by unfold maxLen; omega) (by unfold maxLen; omega)).mono ?_
  rintro e v1 ⟨rfl, m1, rfl⟩
  have hb1 := below_drewN hb0 m1
  have hB1 : Blk (v0.drewN m1) _ _ _ := hB0
  have hs1 := hs0.drewN m1
  clear hb0 hB0 hs0
  generalize v0.drewN m1 = v1 at hb1 hB1 hs1 ⊢
  have hlw1 := hb1.size
  have k3 : ¬ atC s i = 3 := by omega
  have k4i : ((atC s i : Nat) : Int) ≠ 3 := by omega
  have HN0 : Hid (nextT s i = if 13 < whileE s isDigC i - i ∨ atC s (whileE s isDigC i) = 3 ∨ atC s (whileE s isDigC i) = 5 then (4, ⟨0, ByteArray.empty, 0, 0⟩, 0)
     else (0, ⟨2, s.extract i (whileE s isDigC i), numD s i (whileE s isDigC i - i), i⟩, whileE s isDigC i)) := by
    show nextT s i = _
    unfold nextT
    rw [if_neg k3, if_pos k4]
  have hg1 : i < whileE s isDigC i := by
    have e1 : whileE s isDigC i = whileE s isDigC (i + 1) := whileE_step hi (by rw [k4]; rfl)
    have e2 := whileE_ge s isDigC (i + 1)
    omega
  have hall : ∀ j, i ≤ j → j < whileE s isDigC i → atC s j = 4 := fun j h1 h2 => by
    have := whileE_all h1 h2
    have e3 : (atC s j : Int) = 4 := by simpa [isDigC, inL] using this
    omega
  have HA : Hid (∀ j, i ≤ j → j < whileE s isDigC i → atC s j = 4) := hall
  clear hall
  rw [k4]
  clear k3 k4 k4i
  have hl := Blk.new v1 3 (ints [4]).toArray
  have hb2 := hb1.alloc hb1.size (Obj.cells (ints [4]).toArray 3)
  have hB2 := hB1.alloc (Obj.cells (ints [4]).toArray 3)
  go_wp2_with fail
  change Calls _ _ _ (v1.alloc (Obj.cells (ints [4]).toArray 3)) _
  generalize v1.alloc (Obj.cells (ints [4]).toArray 3) = v2 at hl hb2 hB2 ⊢
  refine (while_any p v1.heap.size 1 1 _ [4] s i v2 (h.below hb2 hp) hl rfl (by unfold maxLen; omega) (by omega) HM.out).mono ?_
  rintro e v3 ⟨rfl, m3, rfl⟩
  have hb3 := below_drewN hb2 m3
  have hB3 : Blk (v2.drewN m3) _ _ _ := hB2
  have hs3 := h.below hb3 hp
  clear hb1 hB1 hs1 hb2 hB2 hl
  generalize v2.drewN m3 = v3 at hb3 hB3 hs3 ⊢
  have ht3 := hs3.text
  have hl := whileE_le s isDigC i (by omega)
  rw [show inL [4] = isDigC from rfl]
  generalize whileE s isDigC i = e0 at hg1 hl HN0 HA ⊢
  go_wp2_with fail
  refine (at_any p s e0 v3 hs3 (by unfold maxLen; omega) (by unfold maxLen; omega)).mono ?_
  rintro e v4 ⟨rfl, m4, rfl⟩
  have hb4 := below_drewN hb3 m4
  have hB4 : Blk (v3.drewN m4) _ _ _ := hB3
  have hs4 := h.below hb4 hp
  clear hb3 hB3 hs3 ht3
  generalize v3.drewN m4 = v4 at hb4 hB4 hs4 ⊢
  have ht4 := hs4.text
  by_cases hbad : 13 < e0 - i ∨ atC s e0 = 3 ∨ atC s e0 = 5
  · have HN : Hid (nextT s i = (4, ⟨0, ByteArray.empty, 0, 0⟩, 0)) := by
      show nextT s i = _
      rw [HN0.out, if_pos hbad]
    have HBAD := hide hbad
    clear hbad HN0 HA
    have hres : 13 < e0 - i ∨ (¬ 13 < e0 - i ∧ atC s e0 = 3) ∨ (¬ 13 < e0 - i ∧ ¬ atC s e0 = 3 ∧ atC s e0 = 5) := by
      have := HBAD.out
      omega
    clear HBAD
    generalize atC s e0 = a0 at hres ⊢
    rcases hres with q | ⟨q, rfl⟩ | ⟨q, q3, rfl⟩
    · have hd : (13 : Int) < (e0 : Int) - i := by omega
      obtain ⟨c0, c1, c2, c3, z0, z1, z2, z3⟩ := blk4 hB4
      have hq := set4 hB4 (.int .i64 0) (.string ⟨#[]⟩) (.int .i64 0) (.int .i64 0)
      have hbq := below4 hb4 (Nat.le_refl _) (.int .i64 0) (.string ⟨#[]⟩) (.int .i64 0) (.int .i64 0)
      have HQ := hide hq
      have HBQ := hide hbq
      clear hq hbq hB4 hb4
      go_wp2
      refine bodyPost_ret (results_cell2 rfl _ _ w.heap.size 166 _ (0, 0) _ rfl HQ.out Tryz.underlying166 rfl (by kernel_rfl)) rfl ?_
      exact ⟨by rw [nextV_of HN.out]; rfl, HBQ.out⟩
    · have hd : decide ((13 : Int) < (e0 : Int) - i) = false := decide_eq_false (by omega)
      obtain ⟨c0, c1, c2, c3, z0, z1, z2, z3⟩ := blk4 hB4
      have hq := set4 hB4 (.int .i64 0) (.string ⟨#[]⟩) (.int .i64 0) (.int .i64 0)
      have hbq := below4 hb4 (Nat.le_refl _) (.int .i64 0) (.string ⟨#[]⟩) (.int .i64 0) (.int .i64 0)
      have HQ := hide hq
      have HBQ := hide hbq
      clear hq hbq hB4 hb4
      go_wp2
      refine bodyPost_ret (results_cell2 rfl _ _ w.heap.size 166 _ (0, 0) _ rfl HQ.out Tryz.underlying166 rfl (by kernel_rfl)) rfl ?_
      exact ⟨by rw [nextV_of HN.out]; rfl, HBQ.out⟩
    · have hd : decide ((13 : Int) < (e0 : Int) - i) = false := decide_eq_false (by omega)
      obtain ⟨c0, c1, c2, c3, z0, z1, z2, z3⟩ := blk4 hB4
      have hq := set4 hB4 (.int .i64 0) (.string ⟨#[]⟩) (.int .i64 0) (.int .i64 0)
      have hbq := below4 hb4 (Nat.le_refl _) (.int .i64 0) (.string ⟨#[]⟩) (.int .i64 0) (.int .i64 0)
      have HQ := hide hq
      have HBQ := hide hbq
      clear hq hbq hB4 hb4
      go_wp2
      refine bodyPost_ret (results_cell2 rfl _ _ w.heap.size 166 _ (0, 0) _ rfl HQ.out Tryz.underlying166 rfl (by kernel_rfl)) rfl ?_
      exact ⟨by rw [nextV_of HN.out]; rfl, HBQ.out⟩
  · have HN : Hid (nextT s i = (0, ⟨2, s.extract i e0, numD s i (e0 - i), i⟩, e0)) := by
      show nextT s i = _
      rw [HN0.out, if_neg hbad]
    have hd : decide ((13 : Int) < (e0 : Int) - i) = false := decide_eq_false (by omega)
    have hd3 : (((atC s e0 : Nat) : Int) == 3) = false := by simp; omega
    have hd5 : (((atC s e0 : Nat) : Int) == 5) = false := by simp; omega
    have hle : e0 - i ≤ 13 := by omega
    have HT := hide (Go.Proofs.Tryz.strconv_Atoi (s.extract i e0) (numD s i (e0 - i)) (by rw [ByteArray.size_extract]; omega) (atoi_digits s i e0 hg1 hl HA.out))
    clear hbad HN0 HA
    generalize atC s e0 = a0 at hd3 hd5 ⊢
    go_wp2_with fail
    refine (HT.out v4).mono ?_
    rintro e v5 ⟨rfl, T5, rfl⟩
    have hbb := Go.Lib.bytesWorld_below v4 5 T5
    have hb5 := hb4.trans (hbb.mono hb4.size)
    have hB5 := Blk.below hB4 hbb (Blk.lt hB4)
    have hs5 := h.below hb5 hp
    clear hb4 hB4 hs4 ht4 hbb HT
    generalize Go.Lib.bytesWorld v4 5 T5 = v5 at hb5 hB5 hs5 ⊢
    have ht5 := hs5.text
    generalize hnum : numD s i (e0 - i) = num at HN ⊢
    clear hnum
    obtain ⟨c0, c1, c2, c3, z0, z1, z2, z3⟩ := blk4 hB5
    have hq := set4 hB5 (.int .i64 2) (.string (s.extract i e0)) (.int .i64 num) (.int .i64 i)
    have hbq := below4 hb5 (Nat.le_refl _) (.int .i64 2) (.string (s.extract i e0)) (.int .i64 num) (.int .i64 i)
    have HQ := hide hq
    have HBQ := hide hbq
    clear hq hbq hB5 hb5
    go_wp2
    refine bodyPost_ret (results_cell2 rfl _ _ w.heap.size 166 _ (0, 0) _ rfl HQ.out Tryz.underlying166 rfl (by kernel_rfl)) rfl ?_
    exact ⟨by rw [nextV_of HN.out]; rfl, HBQ.out⟩
end Go.Proofs.YtkomgidcgepknaaGreatDoor
