/-
  expr.Parse: its deferred closure.
-/
import Derived.Test.YtkomgidcgepknaaGreatDoorExpO
import Derived.Recover
import Derived.Test.YtkomgidcgepknaaGreatDoorValP
set_option linter.unusedVariables false
set_option linter.unusedSimpArgs false
namespace Go.Proofs.YtkomgidcgepknaaGreatDoor
open Go.RowKit Go.Deep Go.Maps

theorem assert_nil (w : World) : (Instr.typeAssert .nilIface 20 107 true).run Tryz.prog w = .ok (.tuple #[.agg #[.int .i64 0, .int .i64 0], .bool false]) w := by kernel_rfl
theorem assert_fail (a b : Int) (w : World) : (Instr.typeAssert (.iface 107 (.agg #[.int .i64 a, .int .i64 b])) 20 107 true).run Tryz.prog w = .ok (.tuple #[.agg #[.int .i64 a, .int .i64 b], .bool true]) w := by kernel_rfl

theorem rep12 : Array.replicate 12 undef = #[undef, undef, undef, undef, undef, undef, undef, undef, undef, undef, undef, undef] := rfl

set_option maxHeartbeats 1000000 in
set_option maxRecDepth 100000 in
theorem catch_idle (g2 g3 g4 : Nat) (w : World) :
    CallsD Tryz.prog 65 #[.pointer (some ⟨g2, 0, none⟩), .pointer (some ⟨g3, 0, none⟩), .pointer (some ⟨g4, 0, none⟩)] .returning w fun e u' w' => e = .returned (.tuple #[]) ∧ u' = .returning ∧ Below w.heap.size w w' := by
  have hb : Below w.heap.size w (w.alloc (Obj.cells #[.int .i64 0, .int .i64 0] 107)) := (Below.refl _ _).alloc (Nat.le_refl _) _
  have HB := hide hb
  clear hb
  refine callsD_of_wpS Tryz.func65 rfl fun c₀ cs hu => ?_
  have HU := hide hu
  apply wpS_seq
  apply wpS_region
  simp [wpOpsS, go_sem, recoverD, hu, Tryz.ntmps65, Exit.thenS, assert_nil, rep12]
  clear hu
  refine wpS_of_wp ?_
  go_wp2
  have hu := HU.out
  cases c₀
  simp_all [bodyPostS, results, Tryz.results65]
  exact HB.out
set_option maxHeartbeats 2000000 in
set_option maxRecDepth 100000 in
theorem catch_fail (g2 g3 g4 : Nat) (a b : Int) (older : List PanicEntry) (w : World) {v2 v3 v4 : Value} (h2 : Blk w g2 24 #[v2]) (h3 : Blk w g3 32 #[v3]) (h4 : Blk w g4 3 #[v4]) (h23 : g2 < g3) (h34 : g3 < g4) :
    CallsD Tryz.prog 65 #[.pointer (some ⟨g2, 0, none⟩), .pointer (some ⟨g3, 0, none⟩), .pointer (some ⟨g4, 0, none⟩)] (.panicking ({ v := .iface 107 (.agg #[.int .i64 a, .int .i64 b]), recovered := false } :: older)) w
      fun e u' w' => e = .returned (.tuple #[]) ∧ u' = .panicking ({ v := .iface 107 (.agg #[.int .i64 a, .int .i64 b]), recovered := true } :: older) ∧
        (Blk w' g2 24 #[.slice none 0 0] ∧ Blk w' g3 32 #[.int .i64 a] ∧ Blk w' g4 3 #[.int .i64 b] ∧ Below g2 w w') := by
  have hlt2 := h2.lt
  have hlt3 := h3.lt
  have hlt4 := h4.lt
  have k2 := h2.alloc (Obj.cells #[.int .i64 a, .int .i64 b] 107)
  have k3 := h3.alloc (Obj.cells #[.int .i64 a, .int .i64 b] 107)
  have k4 := h4.alloc (Obj.cells #[.int .i64 a, .int .i64 b] 107)
  have kf : Blk (w.alloc (Obj.cells #[.int .i64 a, .int .i64 b] 107)) w.heap.size 107 #[.int .i64 a, .int .i64 b] := Blk.new _ _ _
  have HB : Hid (Below w.heap.size w (w.alloc (Obj.cells #[.int .i64 a, .int .i64 b] 107))) := hide ((Below.refl _ _).alloc (Nat.le_refl _) _)
  clear h2 h3 h4
  refine callsD_of_wpS Tryz.func65 rfl fun c₀ cs hu => ?_
  apply wpS_seq
  apply wpS_region
  simp [wpOpsS, go_sem, recoverD, hu, Tryz.ntmps65, Exit.thenS, assert_fail, rep12]
  have HU := hide hu
  clear hu
  refine wpS_of_wp ?_
  generalize w.alloc (Obj.cells #[.int .i64 a, .int .i64 b] 107) = w1 at k2 k3 k4 kf HB ⊢
  have c2 : w1.cell? ⟨g2, 0, none⟩ = some v2 := k2.cell 0
  have c3 : w1.cell? ⟨g3, 0, none⟩ = some v3 := k3.cell 0
  have c4 : w1.cell? ⟨g4, 0, none⟩ = some v4 := k4.cell 0
  have f2 := k2.frozen 0
  have f3 := k3.frozen 0
  have f4 := k4.frozen 0
  have e0 : w1.cell? ⟨w.heap.size, 0, none⟩ = some (.int .i64 a) := kf.cell 0
  have e1 : w1.cell? ⟨w.heap.size, 1, none⟩ = some (.int .i64 b) := kf.cell 1
  have n1 : ¬ g2 = g3 := by omega
  have n2 : ¬ g2 = g4 := by omega
  have n3 : ¬ g3 = g4 := by omega
  have n4 : ¬ g2 = w.heap.size := by omega
  have n5 : ¬ g3 = w.heap.size := by omega
  have n6 : ¬ g4 = w.heap.size := by omega
  have K2 := hide k2
  have K3 := hide k3
  have K4 := hide k4
  clear k2 k3 k4 kf
  go_wp2
  go_region
  have r2 : Blk (((w1.setCell ⟨g2, 0, none⟩ (.slice none 0 0)).setCell ⟨g3, 0, none⟩ (.int .i64 a)).setCell ⟨g4, 0, none⟩ (.int .i64 b)).drew g2 24 #[.slice none 0 0] := ((Blk.set_ K2.out 0 _).far (p := ⟨g3, 0, none⟩) n1 _).far (p := ⟨g4, 0, none⟩) n2 _
  have r3 : Blk (((w1.setCell ⟨g2, 0, none⟩ (.slice none 0 0)).setCell ⟨g3, 0, none⟩ (.int .i64 a)).setCell ⟨g4, 0, none⟩ (.int .i64 b)).drew g3 32 #[.int .i64 a] := (Blk.set_ (Blk.far K3.out (p := ⟨g2, 0, none⟩) (fun e => n1 e.symm) _) 0 _).far (p := ⟨g4, 0, none⟩) n3 _
  have r4 : Blk (((w1.setCell ⟨g2, 0, none⟩ (.slice none 0 0)).setCell ⟨g3, 0, none⟩ (.int .i64 a)).setCell ⟨g4, 0, none⟩ (.int .i64 b)).drew g4 3 #[.int .i64 b] := Blk.set_ (Blk.far (Blk.far K4.out (p := ⟨g2, 0, none⟩) (fun e => n2 e.symm) _) (p := ⟨g3, 0, none⟩) (fun e => n3 e.symm) _) 0 _
  have hb5 : Below g2 w (((w1.setCell ⟨g2, 0, none⟩ (.slice none 0 0)).setCell ⟨g3, 0, none⟩ (.int .i64 a)).setCell ⟨g4, 0, none⟩ (.int .i64 b)).drew :=
    ((((HB.out.mono (Nat.le_of_lt hlt2)).setCell (p := ⟨g2, 0, none⟩) (Nat.le_refl _) _).setCell (p := ⟨g3, 0, none⟩) (Nat.le_of_lt h23) _).setCell (p := ⟨g4, 0, none⟩) (Nat.le_of_lt (Nat.lt_trans h23 h34)) _).drew
  have RES := hide (And.intro r2 (And.intro r3 (And.intro r4 hb5)))
  clear r2 r3 r4 hb5
  generalize (((w1.setCell ⟨g2, 0, none⟩ (.slice none 0 0)).setCell ⟨g3, 0, none⟩ (.int .i64 a)).setCell ⟨g4, 0, none⟩ (.int .i64 b)).drew = w5 at RES ⊢
  clear c2 c3 c4 f2 f3 f4 e0 e1 n1 n2 n3 n4 n5 n6 K2 K3 K4 HB
  go_wp2
  have hu := HU.out
  cases c₀
  simp_all [bodyPostS, results, Tryz.results65]
  exact RES.out
end Go.Proofs.YtkomgidcgepknaaGreatDoor

/-
  What Parse returns, in plain words; the lexer's tokens are few and short. No program.
-/
namespace Go.Proofs.YtkomgidcgepknaaGreatDoor

theorem extract_le (s : ByteArray) (i j : Nat) : (s.extract i j).size ≤ s.size := by
  rw [ByteArray.size_extract]; omega
def SmallT (s : ByteArray) (x : Int × Tok × Nat) : Prop := x.2.1.text.size ≤ s.size
theorem small_ite {s : ByteArray} {c : Prop} [Decidable c] {a b : Int × Tok × Nat} (ha : SmallT s a) (hb : SmallT s b) : SmallT s (if c then a else b) := by
  split
  · exact ha
  · exact hb
theorem small_none (s : ByteArray) (e : Int) : SmallT s (e, ⟨0, ByteArray.empty, 0, 0⟩, 0) := Nat.zero_le _
theorem small_cut (s : ByteArray) (e k n o : Int) (i j : Nat) (m : Nat) : SmallT s (e, ⟨k, s.extract i j, n, o⟩, m) := extract_le s i j
theorem nextT_size (s : ByteArray) (i : Nat) : (nextT s i).2.1.text.size ≤ s.size := by
  show SmallT s (nextT s i)
  unfold nextT
  refine small_ite (small_ite (small_none _ _) (small_cut _ _ _ _ _ _ _ _)) (small_ite (small_ite (small_none _ _) (small_cut _ _ _ _ _ _ _ _)) (small_ite ?_
    (small_ite (small_ite (small_cut _ _ _ _ _ _ _ _) (small_ite (small_none _ _) (small_cut _ _ _ _ _ _ _ _))) (small_ite (small_cut _ _ _ _ _ _ _ _) (small_none _ _)))))
  cases find s isQuo (i + 1) with
  | none => exact small_none _ _
  | some k => exact small_ite (small_none _ _) (small_ite (small_none _ _) (small_cut _ _ _ _ _ _ _ _))
theorem lexF_toks (s : ByteArray) : ∀ (f i : Nat) (acc : List Tok), acc.length ≤ 5000 → (∀ t ∈ acc, t.text.size ≤ s.size) → (lexF s f i acc).toks.length ≤ 5000 ∧ ∀ t ∈ (lexF s f i acc).toks, t.text.size ≤ s.size
  | 0, i, acc, h, h' => ⟨h, h'⟩
  | f + 1, i, acc, h, h' => by
    unfold lexF
    split
    · split
      · exact ⟨Nat.zero_le _, fun t ht => by cases ht⟩
      · split
        · exact ⟨Nat.zero_le _, fun t ht => by cases ht⟩
        · refine lexF_toks s f _ _ (by simp; omega) (fun t ht => ?_)
          rcases List.mem_append.1 ht with ht | ht
          · exact h' t ht
          · rw [List.mem_singleton.1 ht]; exact nextT_size s i
    · exact ⟨h, h'⟩
theorem lexL_toks (s : ByteArray) : (lexL s).toks.length ≤ 5000 ∧ ∀ t ∈ (lexL s).toks, t.text.size ≤ s.size := by
  unfold lexL
  split
  · exact ⟨Nat.zero_le _, fun t ht => by cases ht⟩
  · exact lexF_toks s _ _ [] (Nat.zero_le _) (fun t ht => by cases ht)

/-- What Parse returns. -/
structure ParR where
  out : List Nod
  err : Int
  off : Int
/-- Behind the parser: tokens that are left, or an expression that is not valid, are errors. -/
def endP (res : PR) : ParR :=
  match res with
  | Except.error x => ⟨[], x.1, x.2⟩
  | Except.ok x => match x.2.1 with
    | [] => if validL x.2.2 = true then ⟨x.2.2, 0, 0⟩ else ⟨[], 2, 0⟩
    | k :: _ => ⟨[], 5, k.off⟩
/-- r is what Parse returns for s. -/
def ParseIs (s : ByteArray) (r : ParR) : Prop :=
  if (lexL s).err ≠ 0 then r = ⟨[], (lexL s).err, (lexL s).off⟩ else ∃ f res, parF s.size f (jLevel 1 (lexL s).toks []) = some res ∧ r = endP res
end Go.Proofs.YtkomgidcgepknaaGreatDoor

/-
  expr.Parse.
-/
namespace Go.Proofs.YtkomgidcgepknaaGreatDoor
open Go.RowKit Go.Deep Go.Maps

/-- Three result variables in memory. -/
structure Res3 (W w : World) (g3 g4 : Nat) (v2 v3 v4 : Value) : Prop where
  k2 : Blk w W.heap.size 24 #[v2]
  k3 : Blk w g3 32 #[v3]
  k4 : Blk w g4 3 #[v4]
  bel : Below W.heap.size W w
  m1 : W.heap.size < g3
  m2 : g3 < g4
section
variable {W w w' : World} {g3 g4 : Nat} {v2 v3 v4 : Value}
theorem Res3.set2 (h : Res3 W w g3 g4 v2 v3 v4) (v : Value) : Res3 W (w.setCell ⟨W.heap.size, 0, none⟩ v) g3 g4 v v3 v4 := by
  have h1 := h.m1
  have h2 := h.m2
  exact ⟨Blk.set_ h.k2 0 _, h.k3.far (p := ⟨W.heap.size, 0, none⟩) (by show g3 ≠ W.heap.size; omega) _, h.k4.far (p := ⟨W.heap.size, 0, none⟩) (by show g4 ≠ W.heap.size; omega) _, h.bel.setCell (p := ⟨W.heap.size, 0, none⟩) (Nat.le_refl _) _, h1, h2⟩
theorem Res3.set3 (h : Res3 W w g3 g4 v2 v3 v4) (v : Value) : Res3 W (w.setCell ⟨g3, 0, none⟩ v) g3 g4 v2 v v4 := by
  have h1 := h.m1
  have h2 := h.m2
  exact ⟨h.k2.far (p := ⟨g3, 0, none⟩) (by show W.heap.size ≠ g3; omega) _, Blk.set_ h.k3 0 _, h.k4.far (p := ⟨g3, 0, none⟩) (by show g4 ≠ g3; omega) _, h.bel.setCell (p := ⟨g3, 0, none⟩) (Nat.le_of_lt h1) _, h1, h2⟩
theorem Res3.set4 (h : Res3 W w g3 g4 v2 v3 v4) (v : Value) : Res3 W (w.setCell ⟨g4, 0, none⟩ v) g3 g4 v2 v3 v := by
  have h1 := h.m1
  have h2 := h.m2
  exact ⟨h.k2.far (p := ⟨g4, 0, none⟩) (by show W.heap.size ≠ g4; omega) _, h.k3.far (p := ⟨g4, 0, none⟩) (by show g3 ≠ g4; omega) _, Blk.set_ h.k4 0 _, h.bel.setCell (p := ⟨g4, 0, none⟩) (by show _ ≤ g4; omega) _, h1, h2⟩
theorem Res3.drew (h : Res3 W w g3 g4 v2 v3 v4) : Res3 W w.drew g3 g4 v2 v3 v4 := ⟨h.k2, h.k3, h.k4, h.bel.drew, h.m1, h.m2⟩
theorem Res3.below {B : Nat} (h : Res3 W w g3 g4 v2 v3 v4) (hb : Below B w w') (hB : g4 < B) : Res3 W w' g3 g4 v2 v3 v4 := by
  have h1 := h.m1
  have h2 := h.m2
  exact ⟨h.k2.below hb (by omega), h.k3.below hb (by omega), h.k4.below hb hB, h.bel.trans (hb.mono (by omega)), h1, h2⟩
theorem Res3.cells (h : Res3 W w g3 g4 v2 v3 v4) : w.cell? ⟨W.heap.size, 0, none⟩ = some v2 ∧ w.cell? ⟨g3, 0, none⟩ = some v3 ∧ w.cell? ⟨g4, 0, none⟩ = some v4 ∧ w.frozen? ⟨W.heap.size, 0, none⟩ = false ∧ w.frozen? ⟨g3, 0, none⟩ = false ∧ w.frozen? ⟨g4, 0, none⟩ = false :=
  ⟨h.k2.cell 0, h.k3.cell 0, h.k4.cell 0, h.k2.frozen 0, h.k3.frozen 0, h.k4.frozen 0⟩
end

/-- What Parse leaves. -/
def ParsePost (w : World) (r : ParR) (e : Ending) (w' : World) : Prop :=
  ∃ A c, e = .returned (.tuple #[.slice A r.out.length c, .int .i64 r.err, .int .i64 r.off]) ∧ ExprAt w' w'.heap.size A r.out ∧ (∀ x ∈ r.out, x.name.size ≤ maxLen) ∧ r.out.length ≤ 300 ∧ Below w.heap.size w w'

set_option maxHeartbeats 2000000 in
set_option maxRecDepth 100000 in
theorem parse_any (s : ByteArray) (w : World) (hs : s.size ≤ maxLen) {r : ParR} (hr : ParseIs s r) : Calls Tryz.prog 27 #[.string s] w (ParsePost w r) := by
  have hmf : ∀ (fn : Fn) (first cap : Array Value) (w : World), (Instr.makeFunc fn first cap).run Tryz.prog w = .ok (.func fn first cap) w := fun _ _ _ _ => rfl
  have HS := hide hs
  have HR := hide hr
  clear hr
  unfold maxLen at hs
  have hb0 : Below w.heap.size w (((w.alloc (Obj.cells #[.slice none 0 0] 24)).alloc (Obj.cells #[.int .i64 0] 32)).alloc (Obj.cells #[.int .i64 0] 3)) :=
    (((Below.refl _ _).alloc (Nat.le_refl _) _).alloc (by simp) _).alloc (by simp; omega) _
  go_enter_defers Tryz.func27, Tryz.ntmps27
  have n2 : Blk (((w.alloc (Obj.cells #[.slice none 0 0] 24)).alloc (Obj.cells #[.int .i64 0] 32)).alloc (Obj.cells #[.int .i64 0] 3)) w.heap.size 24 #[.slice none 0 0] := ((Blk.new _ _ _).alloc _).alloc _
  have n3 : Blk (((w.alloc (Obj.cells #[.slice none 0 0] 24)).alloc (Obj.cells #[.int .i64 0] 32)).alloc (Obj.cells #[.int .i64 0] 3)) (w.heap.size + 1) 32 #[.int .i64 0] := by
    have := (Blk.new (w.alloc (Obj.cells #[.slice none 0 0] 24)) 32 #[.int .i64 0]).alloc (Obj.cells #[.int .i64 0] 3)
    simpa using this
  have n4 : Blk (((w.alloc (Obj.cells #[.slice none 0 0] 24)).alloc (Obj.cells #[.int .i64 0] 32)).alloc (Obj.cells #[.int .i64 0] 3)) (w.heap.size + 1 + 1) 3 #[.int .i64 0] := by
    have := Blk.new ((w.alloc (Obj.cells #[.slice none 0 0] 24)).alloc (Obj.cells #[.int .i64 0] 32)) 3 #[.int .i64 0]
    simpa using this
  have h23 : w.heap.size < w.heap.size + 1 := by omega
  have h34 : w.heap.size + 1 < w.heap.size + 1 + 1 := by omega
  go_wp2_with fail
  generalize (((w.alloc (Obj.cells #[.slice none 0 0] 24)).alloc (Obj.cells #[.int .i64 0] 32)).alloc (Obj.cells #[.int .i64 0] 3)) = w0 at hb0 n2 n3 n4 ⊢
  generalize w.heap.size + 1 + 1 = g4 at n4 h34 ⊢
  generalize w.heap.size + 1 = g3 at n3 h23 h34 ⊢
  refine (lex_any s w0 HS.out).mono ?_
  rintro e w1 ⟨⟨v, rfl, A, c, rfl, hown⟩, hb1⟩
  have hcap := Own.cap hown
  have htk := lexL_toks s
  have hr := HR.out
  unfold ParseIs at hr
  clear HR
  generalize lexL s = lr at hown hcap htk hr ⊢
  obtain ⟨toks, err, off⟩ := lr
  dsimp only at hown hcap htk hr ⊢
  have l4 := n4.lt
  have r1 : Res3 w w1 g3 g4 (.slice none 0 0) (.int .i64 0) (.int .i64 0) := ⟨n2.below hb1 n2.lt, n3.below hb1 n3.lt, n4.below hb1 n4.lt, hb0.trans (hb1.mono hb0.size), h23, h34⟩
  have r2 := (r1.set3 (.int .i64 err)).set4 (.int .i64 off)
  have R2 := hide r2
  obtain ⟨c2, c3, c4, f2, f3, f4⟩ := r1.cells
  have m1 : ¬ w.heap.size = g3 := by omega
  have m2 : ¬ w.heap.size = g4 := by omega
  have m3 : ¬ g3 = g4 := by omega
  clear n2 n3 n4 hb0 r1 r2
  by_cases he : err = 0
  · subst he
    rw [if_neg (by decide)] at hr
    obtain ⟨f, res, hres, rfl⟩ := hr
    have hrd : Reads ((w1.setCell ⟨g3, 0, none⟩ (.int .i64 0)).setCell ⟨g4, 0, none⟩ (.int .i64 off)) w1.heap.size 4 A toks.length (cellsT toks) := by
      have h1 : Own ((w1.setCell ⟨g3, 0, none⟩ (.int .i64 0)).setCell ⟨g4, 0, none⟩ (.int .i64 off)) w0.heap.size 166 4 A toks.length c (cellsT toks) :=
        hown.keepC (fun g hg _ => (Below.heap_setCell _ ⟨g4, 0, none⟩ _ g (by show g ≠ g4; omega)).trans (Below.heap_setCell _ ⟨g3, 0, none⟩ _ g (by show g ≠ g3; omega)))
      have h2 := h1.reads
      simpa using h2
    have l1 := hb1.size
    have r3 := R2.out.below (B := w1.heap.size) (w' := ((w1.setCell ⟨g3, 0, none⟩ (.int .i64 0)).setCell ⟨g4, 0, none⟩ (.int .i64 off)).alloc (Obj.cells #[.slice A toks.length c, .int .i64 s.size, .slice none 0 0] 110)) ((Below.refl _ _).alloc (by simp) _) (by omega)
    have h3 : ParAt (((w1.setCell ⟨g3, 0, none⟩ (.int .i64 0)).setCell ⟨g4, 0, none⟩ (.int .i64 off)).alloc (Obj.cells #[.slice A toks.length c, .int .i64 s.size, .slice none 0 0] 110)) w1.heap.size s.size toks.length toks [] ⟨none, fun _ => False⟩ := by
      have hz : ((w1.setCell ⟨g3, 0, none⟩ (.int .i64 0)).setCell ⟨g4, 0, none⟩ (.int .i64 off)).heap.size = w1.heap.size := by simp
      have hnew := Blk.new ((w1.setCell ⟨g3, 0, none⟩ (.int .i64 0)).setCell ⟨g4, 0, none⟩ (.int .i64 off)) 110 #[.slice A toks.length c, .int .i64 s.size, .slice none 0 0]
      rw [hz] at hnew
      exact ⟨⟨A, c, none, 0, hnew, hrd.alloc (by rw [hz]; exact Nat.le_refl _) _, hcap, NodsOwn.nil, rfl⟩, by simp, fun t ht => Nat.le_trans (htk.2 t ht) HS.out, fun x hx => absurd hx List.not_mem_nil, fun g hg => hg.elim⟩
    have R3 := hide r3
    have H3 := hide h3
    have HRES := hide hres
    have hn := htk.1
    clear hown hcap htk hrd r3 h3 hres R2
    go_wp2_with fail
    generalize ((w1.setCell ⟨g3, 0, none⟩ (.int .i64 0)).setCell ⟨g4, 0, none⟩ (.int .i64 off)).alloc (Obj.cells #[.slice A toks.length c, .int .i64 s.size, .slice none 0 0] 110) = w3 at R3 H3 ⊢
    generalize w1.heap.size = q at H3 l1 ⊢
    clear c2 c3 c4 f2 f3 f4 m1 m2 m3 hb1
    refine (level_any (lv := 1) (by omega) (by omega) HRES.out H3.out (by omega)).mono ?_
    intro e w4 hp
    clear HRES
    cases res with
    | error x =>
      obtain ⟨rfl, hb⟩ := hp
      have r4 := R3.out.below hb (by omega)
      go_wp2
      refine leaves_cons (f := 65) (args := #[.pointer (some ⟨w.heap.size, 0, none⟩), .pointer (some ⟨g3, 0, none⟩), .pointer (some ⟨g4, 0, none⟩)]) (by simp) (by simp [go_sem]) ?_
      refine (catch_fail w.heap.size g3 g4 x.1 x.2 [] w4 r4.k2 r4.k3 r4.k4 r4.m1 r4.m2).mono ?_
      rintro e u' w5 ⟨rfl, rfl, k2, k3, k4, hb5⟩
      have c2 : w5.cell? ⟨w.heap.size, 0, none⟩ = some (.slice none 0 0) := k2.cell 0
      have c3 : w5.cell? ⟨g3, 0, none⟩ = some (.int .i64 x.1) := k3.cell 0
      have c4 : w5.cell? ⟨g4, 0, none⟩ = some (.int .i64 x.2) := k4.cell 0
      refine ⟨.tuple #[.slice none 0 0, .int .i64 x.1, .int .i64 x.2], by simp [results, Tryz.results27, go_sem, c2, c3, c4], ?_⟩
      exact ⟨none, 0, rfl, ExprAt.none_, (fun x hx => absurd hx List.not_mem_nil), Nat.zero_le _, r4.bel.trans hb5⟩
    | ok x =>
      obtain ⟨a, t, o⟩ := x
      obtain ⟨rfl, rr, h4, gg⟩ := hp
      dsimp only at h4
      have hbq := gg.pbelow H3.out
      have r4 := R3.out.below hbq (by omega)
      have hlt4 := h4.lt
      have hsum4 := h4.sum
      obtain ⟨A1, c1, A2, c2', hblk, hrd4, hcap4, hnod, _⟩ := h4.ex
      have e0 : w4.cell? ⟨q, 0, none⟩ = some (.slice A1 t.length c1) := hblk.cell 0
      have e2 : w4.cell? ⟨q, 2, none⟩ = some (.slice A2 o.length c2') := hblk.cell 2
      have HEX := hide hnod.expr
      have HNOD := hide hnod
      have HN := hide h4.nam
      have H4 := hide h4
      have R4 := hide r4
      have HBQ := hide hbq
      clear gg h4 r4 hbq hrd4 hcap4 hnod R3 H3
      cases t with
      | cons k rest =>
        have hll : (((k :: rest).length : Nat) : Int) = (rest.length : Int) + 1 := by simp
        have hl01 : (0 : Int) < (rest.length : Int) + 1 := by omega
        clear hblk
        go_wp2_with fail
        refine (fail_any H4.out (by omega) 5).mono ?_
        intro e w5 hp
        obtain ⟨rfl, hb⟩ := hp
        have r5 := R4.out.below hb (by omega)
        go_wp2
        refine leaves_cons (f := 65) (args := #[.pointer (some ⟨w.heap.size, 0, none⟩), .pointer (some ⟨g3, 0, none⟩), .pointer (some ⟨g4, 0, none⟩)]) (by simp) (by simp [go_sem]) ?_
        refine (catch_fail w.heap.size g3 g4 5 k.off [] w5 r5.k2 r5.k3 r5.k4 r5.m1 r5.m2).mono ?_
        rintro e u' w6 ⟨rfl, rfl, k2, k3, k4, hb5⟩
        have c2 : w6.cell? ⟨w.heap.size, 0, none⟩ = some (.slice none 0 0) := k2.cell 0
        have c3 : w6.cell? ⟨g3, 0, none⟩ = some (.int .i64 5) := k3.cell 0
        have c4 : w6.cell? ⟨g4, 0, none⟩ = some (.int .i64 k.off) := k4.cell 0
        refine ⟨.tuple #[.slice none 0 0, .int .i64 5, .int .i64 k.off], by simp [results, Tryz.results27, go_sem, c2, c3, c4], ?_⟩
        exact ⟨none, 0, rfl, ExprAt.none_, (fun x hx => absurd hx List.not_mem_nil), Nat.zero_le _, r5.bel.trans hb5⟩
      | nil =>
        have e0' : w4.cell? ⟨q, 0, none⟩ = some (.slice A1 0 c1) := e0
        have hol : o.length ≤ maxLen := by unfold maxLen; omega
        have HOL := hide hol
        have HBL := hide hblk
        clear e0 hol hblk
        go_wp2_with fail
        refine (valid_any A2 c2' o w4 HEX.out HN.out HOL.out).mono ?_
        rintro e w5 ⟨rfl, hb5⟩
        have r5 := R4.out.below hb5 (by omega)
        have f2' : w5.cell? ⟨q, 2, none⟩ = some (.slice A2 o.length c2') := (hb5.cell (p := ⟨q, 2, none⟩) hlt4).trans e2
        have HN5 := hide (HNOD.out.below hb5)
        have hz5 := hb5.size
        have R5 := hide r5
        obtain ⟨c2, c3, c4, f2, f3, f4⟩ := r5.cells
        have m1 : ¬ w.heap.size = g3 := by have := r5.m1; omega
        have m2 : ¬ w.heap.size = g4 := by have := r5.m1; have := r5.m2; omega
        have m3 : ¬ g3 = g4 := by have := r5.m2; omega
        have m4 : ¬ q = w.heap.size := by have := r5.m1; have := r5.m2; omega
        clear e0' e2 hb5 r5 HEX HNOD R4 H4
        have HVV : Hid (endP (Except.ok (a, [], o)) = if validL o = true then ⟨o, 0, 0⟩ else ⟨[], 2, 0⟩) := rfl
        cases hv : validL o
        · rw [hv, if_neg (by decide)] at HVV
          go_wp2
          refine leaves_cons (f := 65) (args := #[.pointer (some ⟨w.heap.size, 0, none⟩), .pointer (some ⟨g3, 0, none⟩), .pointer (some ⟨g4, 0, none⟩)]) (by simp) (by simp [go_sem]) ?_
          have r6 := ((R5.out.set2 (.slice none 0 0)).set3 (.int .i64 2)).set4 (.int .i64 0)
          have hz6 : (((w5.setCell ⟨w.heap.size, 0, none⟩ (.slice none 0 0)).setCell ⟨g3, 0, none⟩ (.int .i64 2)).setCell ⟨g4, 0, none⟩ (.int .i64 0)).heap.size = w5.heap.size := by simp
          refine (catch_idle w.heap.size g3 g4 _).mono ?_
          rintro e u' w7 ⟨rfl, rfl, hb7⟩
          have r7 := r6.below hb7 (by rw [hz6]; omega)
          obtain ⟨d2, d3, d4, _, _, _⟩ := r7.cells
          refine ⟨.tuple #[.slice none 0 0, .int .i64 2, .int .i64 0], by simp [results, Tryz.results27, go_sem, d2, d3, d4], ?_⟩
          show ParsePost w (endP (Except.ok (a, [], o))) _ _
          rw [HVV.out]
          exact ⟨none, 0, rfl, ExprAt.none_, (fun x hx => absurd hx List.not_mem_nil), Nat.zero_le _, r7.bel⟩
        · rw [hv, if_pos rfl] at HVV
          go_wp2
          refine leaves_cons (f := 65) (args := #[.pointer (some ⟨w.heap.size, 0, none⟩), .pointer (some ⟨g3, 0, none⟩), .pointer (some ⟨g4, 0, none⟩)]) (by simp) (by simp [go_sem]) ?_
          have r6 := ((R5.out.set2 (.slice A2 o.length c2')).set3 (.int .i64 0)).set4 (.int .i64 0)
          have hz6 : (((w5.setCell ⟨w.heap.size, 0, none⟩ (.slice A2 o.length c2')).setCell ⟨g3, 0, none⟩ (.int .i64 0)).setCell ⟨g4, 0, none⟩ (.int .i64 0)).heap.size = w5.heap.size := by simp
          refine (catch_idle w.heap.size g3 g4 _).mono ?_
          rintro e u' w7 ⟨rfl, rfl, hb7⟩
          have r7 := r6.below hb7 (by rw [hz6]; omega)
          obtain ⟨d2, d3, d4, _, _, _⟩ := r7.cells
          refine ⟨.tuple #[.slice A2 o.length c2', .int .i64 0, .int .i64 0], by simp [results, Tryz.results27, go_sem, d2, d3, d4], ?_⟩
          show ParsePost w (endP (Except.ok (a, [], o))) _ _
          rw [HVV.out]
          refine ⟨A2, c2', rfl, ?_, HN.out, ?_, r7.bel⟩
          · have hg2 := R5.out.m1
            have hg3 := R5.out.m2
            have hn6 := HN5.out.keepC (w' := ((w5.setCell ⟨w.heap.size, 0, none⟩ (.slice A2 o.length c2')).setCell ⟨g3, 0, none⟩ (.int .i64 0)).setCell ⟨g4, 0, none⟩ (.int .i64 0)) (fun g hg _ =>
              ((Below.heap_setCell _ ⟨g4, 0, none⟩ _ g (by show g ≠ g4; omega)).trans (Below.heap_setCell _ ⟨g3, 0, none⟩ _ g (by show g ≠ g3; omega))).trans (Below.heap_setCell _ ⟨w.heap.size, 0, none⟩ _ g (by show g ≠ w.heap.size; omega)))
            exact (hn6.below hb7).expr
          · have hh : validL o = true := hv
            unfold validL at hh
            simp only [Bool.and_eq_true, decide_eq_true_eq] at hh
            exact hh.1.1.2
  · have he' : (err != 0) = true := bne_iff_ne.2 he
    rw [if_pos he] at hr
    subst hr
    clear hown hcap htk
    go_wp2
    go_region
    have r5 := (((R2.out.set2 (.slice none 0 0)).set3 (.int .i64 err)).set4 (.int .i64 off)).drew
    generalize (((((w1.setCell ⟨g3, 0, none⟩ (.int .i64 err)).setCell ⟨g4, 0, none⟩ (.int .i64 off)).setCell ⟨w.heap.size, 0, none⟩ (.slice none 0 0)).setCell ⟨g3, 0, none⟩ (.int .i64 err)).setCell ⟨g4, 0, none⟩ (.int .i64 off)).drew = w5 at r5 ⊢
    have R5 := hide r5
    clear c2 c3 c4 f2 f3 f4 r5
    obtain ⟨c2, c3, c4, f2, f3, f4⟩ := R5.out.cells
    go_wp2
    refine ⟨.tuple #[.slice none 0 0, .int .i64 err, .int .i64 off], by simp [results, Tryz.results27, go_sem, c2, c3, c4], ?_⟩
    exact ⟨none, 0, rfl, ExprAt.none_, (fun x hx => absurd hx List.not_mem_nil), Nat.zero_le _, R5.out.bel⟩
end Go.Proofs.YtkomgidcgepknaaGreatDoor
