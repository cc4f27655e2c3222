/-
  strings.Builder at this dump, whose copyCheck ends in a refusal that is never reached: copyCheck, WriteString, String.
-/
import Derived.Test.YtkofmiegnfgbjaaGreatDoorTools
import Derived.Test.YtkofmiegnfgbjaaGreatDoorShelf
import Derived.Shelf.Strings.BuilderK
import Derived.Defers
import Derived.Test.YtkofmiegnfgbjaaGreatDoorExpG
import Derived.Test.YtkofmiegnfgbjaaGreatDoorExpL
import Derived.Test.YtkofmiegnfgbjaaGreatDoorTxtP
import Derived.Lib.LaidTab
set_option linter.unusedVariables false
set_option linter.unusedSimpArgs false
namespace Go.Proofs.YtkofmiegnfgbjaaGreatDoor
open Go.RowKit Go.Deep

abbrev BuiF (B b : Nat) (bs : List Value) (w : World) : Prop := Lib.IsBuilderF 92 5 B b bs w
abbrev OthK (b : Nat) (w w' : World) : Prop := Lib.OthersKept 5 (some b) w w'
theorem bui_size : (Tryz.prog.info? 92).map (·.size) = some 2 := by kernel_rfl
theorem bui_lies : liesAt Tryz.prog Tryz.prog.depth 92 (2 / Tryz.prog.cellsOf 92) 0 92 1 = true := by kernel_rfl
theorem bui_byte : (Tryz.prog.info? 5).map (fun i => (i.zero, i.size, i.bytes)) = some (some (.int .u8 0), 1, 1) := by kernel_rfl
set_option maxHeartbeats 1000000 in
set_option maxRecDepth 100000 in
theorem bui_fresh (b : Nat) (w : World) (h0 : w.cell? ⟨b, 0, none⟩ = some (.pointer none)) (hsh : w.shape? b = some (92, 2)) (hfz : w.frozen? ⟨b, 0, none⟩ = false) :
    Calls Tryz.prog 105 #[.pointer (some ⟨b, 0, none⟩)] w fun e w' => e = .returned (.tuple #[]) ∧ w' = w.setCell ⟨b, 0, none⟩ (.pointer (some ⟨b, 0, none⟩)) := by
  obtain ⟨j, hj, hjs⟩ := Option.map_eq_some_iff.1 bui_size
  go_enter Tryz.func105, Tryz.ntmps105
  go_wp2
  rw [Lib.run_to_unsafe w ⟨b, 0, none⟩ Tryz.underlying89 Tryz.underlying187 hj (by rw [hjs]; decide) hsh (Nat.zero_lt_succ 1)]
  simp only [Result.andThen]
  rw [Oper.upon_value]
  go_wp2
  rw [run_callFunc_extern Tryz.func151 (by kernel_rfl) (by kernel_rfl) (by kernel_rfl) (e := Extern.AbiNoEscape.same) (by kernel_rfl)]
  rw [Lib.run_noEscape]
  simp only [Result.andThen]
  rw [Oper.upon_value]
  go_wp2
  rw [Lib.run_from_unsafe w ⟨b, 0, none⟩ Tryz.underlying187 Tryz.underlying89 hj hsh bui_lies]
  simp only [Result.andThen]
  rw [Oper.upon_value]
  go_wp2
  exact ⟨rfl, .tuple #[], by simp [results, Tryz.results105, go_sem], rfl, rfl⟩
set_option maxHeartbeats 1000000 in
set_option maxRecDepth 100000 in
theorem bui_used (b : Nat) (w : World) (h0 : w.cell? ⟨b, 0, none⟩ = some (.pointer (some ⟨b, 0, none⟩))) :
    Calls Tryz.prog 105 #[.pointer (some ⟨b, 0, none⟩)] w fun e w' => e = .returned (.tuple #[]) ∧ w' = w := by
  obtain ⟨j, hj, _⟩ := Option.map_eq_some_iff.1 bui_size
  go_enter Tryz.func105, Tryz.ntmps105
  go_wp2
  rw [Lib.run_neq_ptr_same w _ Tryz.underlying89 hj]
  go_wp2
  go_end0
  exact ⟨rfl, rfl⟩
theorem bui_check (B b : Nat) (bs : List Value) (w : World) (h : BuiF B b bs w) :
    Calls Tryz.prog 105 #[.pointer (some ⟨b, 0, none⟩)] w fun e w' => e = .returned (.tuple #[]) ∧ (Lib.BuilderAtF 92 5 B b (.pointer (some ⟨b, 0, none⟩)) bs w' ∧ Below B w w' ∧ OthK b w w') := by
  rcases h with h | h
  · refine (bui_fresh b w h.cell0 h.shape h.frozen0).mono ?_
    rintro e w' ⟨rfl, rfl⟩
    exact ⟨rfl, h.used _, (Below.refl B w).setCell (p := ⟨b, 0, none⟩) h.1 _, (Lib.OthersKept.refl _ _ w).setCell ⟨b, 0, none⟩ rfl _⟩
  · refine (bui_used b w h.cell0).mono ?_
    rintro e w' ⟨rfl, rfl⟩
    exact ⟨rfl, h, Below.refl B _, Lib.OthersKept.refl _ _ _⟩
set_option maxHeartbeats 2000000 in
set_option maxRecDepth 100000 in
theorem bui_write (B b : Nat) (bs : List Value) (s : ByteArray) (w : World) (h : BuiF B b bs w) (hlen : bs.length + s.size ≤ 140737488355328) (hBw : B ≤ w.heap.size) :
    Calls Tryz.prog 52 #[.pointer (some ⟨b, 0, none⟩), .string s] w fun e w' => e = .returned (.tuple #[.int .i64 s.size, .nilIface]) ∧ (Lib.BuilderAtF 92 5 B b (.pointer (some ⟨b, 0, none⟩)) (bs ++ Lib.strCells s) w' ∧ Below B w w' ∧ OthK b w w') := by
  obtain ⟨i0, hi, hz0, hz1, hz2⟩ := info_parts bui_byte
  go_enter Tryz.func52, Tryz.ntmps52
  go_wp2_with fail
  refine (bui_check B b bs w h).mono ?_
  rintro e w1 ⟨rfl, h1, hb1, hk1⟩
  obtain ⟨hB, v, hbk, hown, hne⟩ := h1
  have c0 : w1.cell? ⟨b, 0, none⟩ = some (.pointer (some ⟨b, 0, none⟩)) := by rw [Lib.cell_of_heap hbk]; rfl
  have c1 : w1.cell? ⟨b, 1, none⟩ = some v := by rw [Lib.cell_of_heap hbk]; rfl
  go_wp2_with (at_builtin; refine Lib.wpList_append_own_stringF _ rfl _ _ 90 9 rfl B 5 i0 Tryz.underlying90 Tryz.underlying9 hi hz0 hz1 hz2 _ _ _ rfl hown s rfl ?c3 ?c4 ?c5 ?_)
  case c3 => unfold maxLen; omega
  case c4 => omega
  case c5 => have := hb1.size; omega
  intro v' w2 hown' hgrow _
  have hlt : b < w1.heap.size := by
    rcases Nat.lt_or_ge b w1.heap.size with h' | h'
    · exact h'
    · simp [Array.getElem?_eq_none h'] at hbk
  have hb2 : w2.heap[b]? = some (.cells #[.pointer (some ⟨b, 0, none⟩), v] 92 (0, 0)) := by
    rw [hgrow.block b hlt (fun e => hne e.symm)]
    exact hbk
  have d0 : w2.cell? ⟨b, 0, none⟩ = some (.pointer (some ⟨b, 0, none⟩)) := by rw [Lib.cell_of_heap hb2]; rfl
  have d1 : w2.cell? ⟨b, 1, none⟩ = some v := by rw [Lib.cell_of_heap hb2]; rfl
  have f1 : w2.frozen? ⟨b, 1, none⟩ = false := Lib.frozen_of_heap hb2 1
  obtain ⟨ao, n', cap, rfl⟩ : ∃ ao n' cap, v' = .slice ao n' cap := by
    rcases hown'.2 with ⟨hv, _⟩ | ⟨g, cap, cur, fz, hv, _⟩
    · exact ⟨_, _, _, hv⟩
    · exact ⟨_, _, _, hv⟩
  go_wp2
  go_ret2
  refine ⟨rfl, ?_, ?_, (hk1.grown hgrow (Lib.ownsRowF_kind hown)).setCell ⟨b, 1, none⟩ rfl _⟩
  · exact Lib.BuilderAtF.put (T := 92) (e := 5) hB hb2 (bs' := bs ++ Lib.strCells s) (by simpa [Lib.strCells_length] using hown') (by decide)
  · exact (hb1.grown hgrow (by have := hb1.size; omega) (fun k hk => (hown.lt k hk).1)).setCell (p := ⟨b, 1, none⟩) hB _
set_option maxHeartbeats 2000000 in
set_option maxRecDepth 100000 in
/-- The same, deferred. -/
theorem bui_writeD (u : FrameMode) (B b : Nat) (bs : List Value) (s : ByteArray) (w : World) (h : BuiF B b bs w) (hlen : bs.length + s.size ≤ 140737488355328) (hBw : B ≤ w.heap.size) :
    CallsD Tryz.prog 52 #[.pointer (some ⟨b, 0, none⟩), .string s] u w fun e u' w' => u' = u ∧ (e = .returned (.tuple #[.int .i64 s.size, .nilIface]) ∧ (Lib.BuilderAtF 92 5 B b (.pointer (some ⟨b, 0, none⟩)) (bs ++ Lib.strCells s) w' ∧ Below B w w' ∧ OthK b w w')) := by
  obtain ⟨i0, hi, hz0, hz1, hz2⟩ := info_parts bui_byte
  go_enter_d Tryz.func52, Tryz.ntmps52
  go_wp2_with fail
  refine (bui_check B b bs w h).mono ?_
  rintro e w1 ⟨rfl, h1, hb1, hk1⟩
  obtain ⟨hB, v, hbk, hown, hne⟩ := h1
  have c0 : w1.cell? ⟨b, 0, none⟩ = some (.pointer (some ⟨b, 0, none⟩)) := by rw [Lib.cell_of_heap hbk]; rfl
  have c1 : w1.cell? ⟨b, 1, none⟩ = some v := by rw [Lib.cell_of_heap hbk]; rfl
  go_wp2_with (at_builtin; refine Lib.wpList_append_own_stringF _ rfl _ _ 90 9 rfl B 5 i0 Tryz.underlying90 Tryz.underlying9 hi hz0 hz1 hz2 _ _ _ rfl hown s rfl ?c3 ?c4 ?c5 ?_)
  case c3 => unfold maxLen; omega
  case c4 => omega
  case c5 => have := hb1.size; omega
  intro v' w2 hown' hgrow _
  have hlt : b < w1.heap.size := by
    rcases Nat.lt_or_ge b w1.heap.size with h' | h'
    · exact h'
    · simp [Array.getElem?_eq_none h'] at hbk
  have hb2 : w2.heap[b]? = some (.cells #[.pointer (some ⟨b, 0, none⟩), v] 92 (0, 0)) := by
    rw [hgrow.block b hlt (fun e => hne e.symm)]
    exact hbk
  have d0 : w2.cell? ⟨b, 0, none⟩ = some (.pointer (some ⟨b, 0, none⟩)) := by rw [Lib.cell_of_heap hb2]; rfl
  have d1 : w2.cell? ⟨b, 1, none⟩ = some v := by rw [Lib.cell_of_heap hb2]; rfl
  have f1 : w2.frozen? ⟨b, 1, none⟩ = false := Lib.frozen_of_heap hb2 1
  obtain ⟨ao, n', cap, rfl⟩ : ∃ ao n' cap, v' = .slice ao n' cap := by
    rcases hown'.2 with ⟨hv, _⟩ | ⟨g, cap, cur, fz, hv, _⟩
    · exact ⟨_, _, _, hv⟩
    · exact ⟨_, _, _, hv⟩
  go_wp2
  go_ret2
  refine ⟨rfl, ?_, ?_, (hk1.grown hgrow (Lib.ownsRowF_kind hown)).setCell ⟨b, 1, none⟩ rfl _⟩
  · exact Lib.BuilderAtF.put (T := 92) (e := 5) hB hb2 (bs' := bs ++ Lib.strCells s) (by simpa [Lib.strCells_length] using hown') (by decide)
  · exact (hb1.grown hgrow (by have := hb1.size; omega) (fun k hk => (hown.lt k hk).1)).setCell (p := ⟨b, 1, none⟩) hB _
end Go.Proofs.YtkofmiegnfgbjaaGreatDoor

/-
  expr.Text: its closure.
-/
set_option linter.unusedVariables false
set_option linter.unusedSimpArgs false
namespace Go.Proofs.YtkofmiegnfgbjaaGreatDoor
open Go.RowKit Go.Deep Go.Maps

/-- All below the builder, and all above it that is no row of bytes, is as it was. -/
structure KeptB (pb : Nat) (w w' : World) : Prop where
  bel : Below pb w w'
  oth : OthK pb w w'
section
variable {pb : Nat} {w w' w'' : World}
theorem KeptB.refl (pb : Nat) (w : World) : KeptB pb w w := ⟨Below.refl _ _, Lib.OthersKept.refl _ _ _⟩
theorem KeptB.trans (h : KeptB pb w w') (h' : KeptB pb w' w'') : KeptB pb w w'' := ⟨h.bel.trans h'.bel, h.oth.trans h'.oth⟩
theorem KeptB.of_below (hb : Below w.heap.size w w') (hp : pb ≤ w.heap.size) : KeptB pb w w' :=
  ⟨hb.mono hp, fun k o hk _ _ => by rw [hb.block k (Array.getElem?_eq_some_iff.1 hk).1]; exact hk⟩
theorem KeptB.blk (h : KeptB pb w w') {g : Nat} {t : TypeId} {cs : Array Value} (hb : Blk w g t cs) (hg : g ≠ pb) (ht : t ≠ 5) : Blk w' g t cs :=
  h.oth g _ hb (fun e => hg (Option.some.inj e)) (fun c fz e => by injection e with _ e _; exact ht e)
theorem KeptB.drewN (h : KeptB pb w w') (n : Nat) : KeptB pb w (w'.drewN n) := ⟨below_drewN h.bel n, h.oth⟩
end
theorem BuiF.below {B b : Nat} {bs : List Value} {w w' : World} (h : BuiF B b bs w) (hb : Below w.heap.size w w') : BuiF B b bs w' := by
  have key : ∀ p, Lib.BuilderAtF 92 5 B b p bs w → Lib.BuilderAtF 92 5 B b p bs w' := by
    rintro p ⟨hB, v, hk, hown, hne⟩
    refine ⟨hB, v, (hb.block b (Array.getElem?_eq_some_iff.1 hk).1).trans hk, ?_, hne⟩
    refine ⟨hown.1, ?_⟩
    rcases hown.2 with h2 | ⟨g, cap, cur, fz, hv, hgb, hh, r⟩
    · exact Or.inl h2
    · exact Or.inr ⟨g, cap, cur, fz, hv, hgb, (hb.block g (Array.getElem?_eq_some_iff.1 hh).1).trans hh, r⟩
  rcases h with h | h
  · exact .inl (key _ h)
  · exact .inr (key _ h)
theorem BuiF.drewN {B b : Nat} {bs : List Value} {w : World} (h : BuiF B b bs w) (n : Nat) : BuiF B b bs (w.drewN n) := h.below (drewN_below _ _ _)
abbrev pow10Name : String := "internal/strconv.uint64pow10"
abbrev Pow (w : World) : Prop := Lib.TabIs Tryz.prog w pow10Name .u64 Lib.pow10Tab
theorem pow_glob : Tryz.prog.globalNamed pow10Name = some 0 := by kernel_rfl
theorem Pow.below {w w' : World} {B : Nat} (h : Pow w) (hb : Below B w w') (hB : 0 < B) : Pow w' := by
  have h : Lib.TabIs Tryz.prog w pow10Name .u64 Lib.pow10Tab := h
  show Lib.TabIs Tryz.prog w' pow10Name .u64 Lib.pow10Tab
  unfold Lib.TabIs World.var? at h ⊢
  rw [pow_glob] at h ⊢
  rw [Option.bind_some] at h ⊢
  rw [hb.block 0 hB]
  exact h
/-- The variables of the closure in memory. -/
structure TEnv (w : World) (pe pb pw : Nat) (A : Option Addr) (c : Nat) (e : List Nod) : Prop where
  box : Blk w pe 23 #[.slice A e.length c]
  self : Blk w pw 93 #[.func (.func 50) #[] #[.pointer (some ⟨pe, 0, none⟩), .pointer (some ⟨pb, 0, none⟩), .pointer (some ⟨pw, 0, none⟩)]]
  ex : ExprAt w pb A e
  tab : Pow w
  one : pe < pb
  two : pb < pw
theorem TEnv.kept {w w' : World} {pe pb pw : Nat} {A : Option Addr} {c : Nat} {e : List Nod} (h : TEnv w pe pb pw A c e) (k : KeptB pb w w') : TEnv w' pe pb pw A c e :=
  ⟨h.box.below k.bel h.one, k.blk h.self (by have := h.two; omega) (by decide), h.ex.below k.bel, h.tab.below k.bel (Nat.lt_of_le_of_lt (Nat.zero_le _) h.one), h.one, h.two⟩
/-- What a call of the closure leaves. -/
def TPost (pb : Nat) (bs l : List UInt8) (w : World) (en : Ending) (w' : World) : Prop :=
  en = .returned (.tuple #[]) ∧ BuiF pb pb (Lib.byteCells (bs ++ l)) w' ∧ KeptB pb w w'
/-- A write to the builder. -/
theorem txt_write (pb : Nat) (bs : List UInt8) (s : ByteArray) (w : World) (h : BuiF pb pb (Lib.byteCells bs) w) (hl : bs.length + s.size ≤ 1000000) (hw : pb ≤ w.heap.size) :
    Calls Tryz.prog 52 #[.pointer (some ⟨pb, 0, none⟩), .string s] w fun e w' => e = .returned (.tuple #[.int .i64 s.size, .nilIface]) ∧ BuiF pb pb (Lib.byteCells (bs ++ s.data.toList)) w' ∧ KeptB pb w w' :=
  (bui_write pb pb (Lib.byteCells bs) s w h (by rw [Lib.byteCells_length]; omega) hw).mono fun e w' ⟨h1, h2, h3, h4⟩ => ⟨h1, by rw [Lib.byteCells_append]; exact .inr h2, h3, h4⟩
theorem txt_writeD (u : FrameMode) (pb : Nat) (bs : List UInt8) (s : ByteArray) (w : World) (h : BuiF pb pb (Lib.byteCells bs) w) (hl : bs.length + s.size ≤ 1000000) (hw : pb ≤ w.heap.size) :
    CallsD Tryz.prog 52 #[.pointer (some ⟨pb, 0, none⟩), .string s] u w fun e u' w' => u' = u ∧ e = .returned (.tuple #[.int .i64 s.size, .nilIface]) ∧ BuiF pb pb (Lib.byteCells (bs ++ s.data.toList)) w' ∧ KeptB pb w w' :=
  (bui_writeD u pb pb (Lib.byteCells bs) s w h (by rw [Lib.byteCells_length]; omega) hw).mono fun e u' w' ⟨h0, h1, h2, h3, h4⟩ => ⟨h0, h1, by rw [Lib.byteCells_append]; exact .inr h2, h3, h4⟩
theorem infixO_is {t : ByteArray} {op : Int} (h : infixO t = some op) : t = infixT op := by
  unfold infixO infixOp at h
  repeat' split at h
  all_goals first | (exfalso; simp_all; done) | (subst_vars; simp at h; subst h; rfl)
theorem funcO_is {t : ByteArray} {op : Int} (h : funcO t = some op) : t = funcT op := by
  unfold funcO funcOp at h
  repeat' split at h
  all_goals first | (exfalso; simp_all; done) | (subst_vars; simp at h; subst h; rfl)
theorem sp_data (t : ByteArray) : ((⟨#[32]⟩ : ByteArray) ++ t ++ ⟨#[32]⟩).data.toList = 32 :: (t.data.toList ++ [32]) := by
  simp [ByteArray.data_append]
theorem sp_size (t : ByteArray) : ((⟨#[32]⟩ : ByteArray) ++ t ++ ⟨#[32]⟩).size = t.size + 2 := by
  have h := congrArg List.length (sp_data t)
  simp only [Array.length_toList, List.length_cons, List.length_append, List.length_nil] at h
  exact h
theorem par_data (t : ByteArray) : (t ++ (⟨#[40]⟩ : ByteArray)).data.toList = t.data.toList ++ [40] := by
  simp [ByteArray.data_append]
theorem par_size (t : ByteArray) : (t ++ (⟨#[40]⟩ : ByteArray)).size = t.size + 1 := by
  have h := congrArg List.length (par_data t)
  simp only [Array.length_toList, List.length_append, List.length_cons, List.length_nil] at h
  exact h
/-- The symbol of an operator that has one. -/
theorem infixSym_any (b n : Nat) (op : Int) (w : World) (h : PM w b n infixO) (hop : op = 10 ∨ op = 11 ∨ op = 3 ∨ op = 4 ∨ op = 5 ∨ op = 6) :
    Calls Tryz.prog 53 #[.map (some b), .int .i64 op] w fun e w' => e = .returned (.string (infixT op)) ∧ Below w.heap.size w w' :=
  (symbol_any b n infixO op w h).mono fun e w' ⟨hb, t, he, ht⟩ => by
    rcases ht with ht | ⟨_, ht⟩
    · rw [infixO_is ht] at he
      exact ⟨he, hb⟩
    · exact absurd hop (infixO_has ht)
theorem funcSym_any (b n : Nat) (op : Int) (w : World) (h : PM w b n funcO) (hop : op = 7 ∨ op = 8 ∨ op = 9) :
    Calls Tryz.prog 53 #[.map (some b), .int .i64 op] w fun e w' => e = .returned (.string (funcT op)) ∧ Below w.heap.size w w' :=
  (symbol_any b n funcO op w h).mono fun e w' ⟨hb, t, he, ht⟩ => by
    rcases ht with ht | ⟨_, ht⟩
    · rw [funcO_is ht] at he
      exact ⟨he, hb⟩
    · exact absurd hop (funcO_has ht)
end Go.Proofs.YtkofmiegnfgbjaaGreatDoor
