/-
  The reference of chapter 21: Text.
-/
import Derived.Test.YtkomgidcgepknaaGreatDoorTools
import Derived.Test.YtkomgidcgepknaaGreatDoorShelf
import Derived.Shelf.Strings.BuilderK
import Derived.Defers
import Derived.Test.YtkomgidcgepknaaGreatDoorExpG
import Derived.Test.YtkomgidcgepknaaGreatDoorExpL
import Derived.Test.YtkomgidcgepknaaGreatDoorTxtP
import Derived.Lib.LaidTab
import Derived.Test.YtkomgidcgepknaaGreatDoorShelfB
import Derived.Lib.ItoaMem
import Derived.Test.YtkomgidcgepknaaGreatDoorRefN
import Derived.Deep.CutBlock
import Derived.Deep.DeepCutAuto
import Derived.Test.YtkomgidcgepknaaGreatDoorText
set_option linter.unusedVariables false
set_option linter.unusedSimpArgs false
namespace Go.Proofs.YtkomgidcgepknaaGreatDoor
open Go.RowKit Go.Deep

abbrev BuiF (B b : Nat) (bs : List Value) (w : World) : Prop := Lib.IsBuilderF 120 5 B b bs w
abbrev OthK (b : Nat) (w w' : World) : Prop := Lib.OthersKept 5 (some b) w w'
theorem bui_size : (Tryz.prog.info? 120).map (·.size) = some 2 := by kernel_rfl
theorem bui_lies : liesAt Tryz.prog Tryz.prog.depth 120 (2 / Tryz.prog.cellsOf 120) 0 120 1 = true := by kernel_rfl
theorem bui_byte : (Tryz.prog.info? 5).map (fun i => (i.zero, i.size, i.bytes)) = some (some (.int .u8 0), 1, 1) := by kernel_rfl
set_option maxHeartbeats 1000000 in
set_option maxRecDepth 100000 in
theorem bui_fresh (b : Nat) (w : World) (h0 : w.cell? ⟨b, 0, none⟩ = some (.pointer none)) (hsh : w.shape? b = some (120, 2)) (hfz : w.frozen? ⟨b, 0, none⟩ = false) :
    Calls Tryz.prog 128 #[.pointer (some ⟨b, 0, none⟩)] w fun e w' => e = .returned (.tuple #[]) ∧ w' = w.setCell ⟨b, 0, none⟩ (.pointer (some ⟨b, 0, none⟩)) := by
  obtain ⟨j, hj, hjs⟩ := Option.map_eq_some_iff.1 bui_size
  go_enter Tryz.func128, Tryz.ntmps128
  go_wp2
  rw [Lib.run_to_unsafe w ⟨b, 0, none⟩ Tryz.underlying117 Tryz.underlying205 hj (by rw [hjs]; decide) hsh (Nat.zero_lt_succ 1)]
  simp only [Result.andThen]
  rw [Oper.upon_value]
  go_wp2
  rw [run_callFunc_extern Tryz.func173 (by kernel_rfl) (by kernel_rfl) (by kernel_rfl) (e := Extern.AbiNoEscape.same) (by kernel_rfl)]
  rw [Lib.run_noEscape]
  simp only [Result.andThen]
  rw [Oper.upon_value]
  go_wp2
  rw [Lib.run_from_unsafe w ⟨b, 0, none⟩ Tryz.underlying205 Tryz.underlying117 hj hsh bui_lies]
  simp only [Result.andThen]
  rw [Oper.upon_value]
  go_wp2
  exact ⟨rfl, .tuple #[], by simp [results, Tryz.results128, go_sem], rfl, rfl⟩
set_option maxHeartbeats 1000000 in
set_option maxRecDepth 100000 in
theorem bui_used (b : Nat) (w : World) (h0 : w.cell? ⟨b, 0, none⟩ = some (.pointer (some ⟨b, 0, none⟩))) :
    Calls Tryz.prog 128 #[.pointer (some ⟨b, 0, none⟩)] w fun e w' => e = .returned (.tuple #[]) ∧ w' = w := by
  obtain ⟨j, hj, _⟩ := Option.map_eq_some_iff.1 bui_size
  go_enter Tryz.func128, Tryz.ntmps128
  go_wp2
  rw [Lib.run_neq_ptr_same w _ Tryz.underlying117 hj]
  go_wp2
  go_end0
  exact ⟨rfl, rfl⟩
theorem bui_check (B b : Nat) (bs : List Value) (w : World) (h : BuiF B b bs w) :
    Calls Tryz.prog 128 #[.pointer (some ⟨b, 0, none⟩)] w fun e w' => e = .returned (.tuple #[]) ∧ (Lib.BuilderAtF 120 5 B b (.pointer (some ⟨b, 0, none⟩)) bs w' ∧ Below B w w' ∧ OthK b w w') := by
  rcases h with h | h
  · refine (bui_fresh b w h.cell0 h.shape h.frozen0).mono ?_
    rintro e w' ⟨rfl, rfl⟩
    exact ⟨rfl, h.used _, (Below.refl B w).setCell (p := ⟨b, 0, none⟩) h.1 _, (Lib.OthersKept.refl _ _ w).setCell ⟨b, 0, none⟩ rfl _⟩
  · refine (bui_used b w h.cell0).mono ?_
    rintro e w' ⟨rfl, rfl⟩
    exact ⟨rfl, h, Below.refl B _, Lib.OthersKept.refl _ _ _⟩
set_option maxHeartbeats 2000000 in
set_option maxRecDepth 100000 in
theorem bui_write (B b : Nat) (bs : List Value) (s : ByteArray) (w : World) (h : BuiF B b bs w) (hlen : bs.length + s.size ≤ 140737488355328) (hBw : B ≤ w.heap.size) :
    Calls Tryz.prog 73 #[.pointer (some ⟨b, 0, none⟩), .string s] w fun e w' => e = .returned (.tuple #[.int .i64 s.size, .nilIface]) ∧ (Lib.BuilderAtF 120 5 B b (.pointer (some ⟨b, 0, none⟩)) (bs ++ Lib.strCells s) w' ∧ Below B w w' ∧ OthK b w w') := by
  obtain ⟨i0, hi, hz0, hz1, hz2⟩ := info_parts bui_byte
  go_enter Tryz.func73, Tryz.ntmps73
  go_wp2_with fail
  refine (bui_check B b bs w h).mono ?_
  rintro e w1 ⟨rfl, h1, hb1, hk1⟩
  obtain ⟨hB, v, hbk, hown, hne⟩ := h1
  have c0 : w1.cell? ⟨b, 0, none⟩ = some (.pointer (some ⟨b, 0, none⟩)) := by rw [Lib.cell_of_heap hbk]; rfl
  have c1 : w1.cell? ⟨b, 1, none⟩ = some v := by rw [Lib.cell_of_heap hbk]; rfl
  go_wp2_with (at_builtin; refine Lib.wpList_append_own_stringF _ rfl _ _ 118 9 rfl B 5 i0 Tryz.underlying118 Tryz.underlying9 hi hz0 hz1 hz2 _ _ _ rfl hown s rfl ?c3 ?c4 ?c5 ?_)
  case c3 => unfold maxLen; omega
  case c4 => omega
  case c5 => have := hb1.size; omega
  intro v' w2 hown' hgrow _
  have hlt : b < w1.heap.size := by
    rcases Nat.lt_or_ge b w1.heap.size with h' | h'
    · exact h'
    · simp [Array.getElem?_eq_none h'] at hbk
  have hb2 : w2.heap[b]? = some (.cells #[.pointer (some ⟨b, 0, none⟩), v] 120 (0, 0)) := by
    rw [hgrow.block b hlt (fun e => hne e.symm)]
    exact hbk
  have d0 : w2.cell? ⟨b, 0, none⟩ = some (.pointer (some ⟨b, 0, none⟩)) := by rw [Lib.cell_of_heap hb2]; rfl
  have d1 : w2.cell? ⟨b, 1, none⟩ = some v := by rw [Lib.cell_of_heap hb2]; rfl
  have f1 : w2.frozen? ⟨b, 1, none⟩ = false := Lib.frozen_of_heap hb2 1
  obtain ⟨ao, n', cap, rfl⟩ : ∃ ao n' cap, v' = .slice ao n' cap := by
    rcases hown'.2 with ⟨hv, _⟩ | ⟨g, cap, cur, fz, hv, _⟩
    · exact ⟨_, _, _, hv⟩
    · exact ⟨_, _, _, hv⟩
  go_wp2
  go_ret2
  refine ⟨rfl, ?_, ?_, (hk1.grown hgrow (Lib.ownsRowF_kind hown)).setCell ⟨b, 1, none⟩ rfl _⟩
  · exact Lib.BuilderAtF.put (T := 120) (e := 5) hB hb2 (bs' := bs ++ Lib.strCells s) (by simpa [Lib.strCells_length] using hown') (by decide)
  · exact (hb1.grown hgrow (by have := hb1.size; omega) (fun k hk => (hown.lt k hk).1)).setCell (p := ⟨b, 1, none⟩) hB _
set_option maxHeartbeats 2000000 in
set_option maxRecDepth 100000 in
/-- The same, deferred. -/
theorem bui_writeD (u : FrameMode) (B b : Nat) (bs : List Value) (s : ByteArray) (w : World) (h : BuiF B b bs w) (hlen : bs.length + s.size ≤ 140737488355328) (hBw : B ≤ w.heap.size) :
    CallsD Tryz.prog 73 #[.pointer (some ⟨b, 0, none⟩), .string s] u w fun e u' w' => u' = u ∧ (e = .returned (.tuple #[.int .i64 s.size, .nilIface]) ∧ (Lib.BuilderAtF 120 5 B b (.pointer (some ⟨b, 0, none⟩)) (bs ++ Lib.strCells s) w' ∧ Below B w w' ∧ OthK b w w')) := by
  obtain ⟨i0, hi, hz0, hz1, hz2⟩ := info_parts bui_byte
  go_enter_d Tryz.func73, Tryz.ntmps73
  go_wp2_with fail
  refine (bui_check B b bs w h).mono ?_
  rintro e w1 ⟨rfl, h1, hb1, hk1⟩
  obtain ⟨hB, v, hbk, hown, hne⟩ := h1
  have c0 : w1.cell? ⟨b, 0, none⟩ = some (.pointer (some ⟨b, 0, none⟩)) := by rw [Lib.cell_of_heap hbk]; rfl
  have c1 : w1.cell? ⟨b, 1, none⟩ = some v := by rw [Lib.cell_of_heap hbk]; rfl
  go_wp2_with (at_builtin; refine Lib.wpList_append_own_stringF _ rfl _ _ 118 9 rfl B 5 i0 Tryz.underlying118 Tryz.underlying9 hi hz0 hz1 hz2 _ _ _ rfl hown s rfl ?c3 ?c4 ?c5 ?_)
  case c3 => unfold maxLen; omega
  case c4 => omega
  case c5 => have := hb1.size; omega
  intro v' w2 hown' hgrow _
  have hlt : b < w1.heap.size := by
    rcases Nat.lt_or_ge b w1.heap.size with h' | h'
    · exact h'
    · simp [Array.getElem?_eq_none h'] at hbk
  have hb2 : w2.heap[b]? = some (.cells #[.pointer (some ⟨b, 0, none⟩), v] 120 (0, 0)) := by
    rw [hgrow.block b hlt (fun e => hne e.symm)]
    exact hbk
  have d0 : w2.cell? ⟨b, 0, none⟩ = some (.pointer (some ⟨b, 0, none⟩)) := by rw [Lib.cell_of_heap hb2]; rfl
  have d1 : w2.cell? ⟨b, 1, none⟩ = some v := by rw [Lib.cell_of_heap hb2]; rfl
  have f1 : w2.frozen? ⟨b, 1, none⟩ = false := Lib.frozen_of_heap hb2 1
  obtain ⟨ao, n', cap, rfl⟩ : ∃ ao n' cap, v' = .slice ao n' cap := by
    rcases hown'.2 with ⟨hv, _⟩ | ⟨g, cap, cur, fz, hv, _⟩
    · exact ⟨_, _, _, hv⟩
    · exact ⟨_, _, _, hv⟩
  go_wp2
  go_ret2
  refine ⟨rfl, ?_, ?_, (hk1.grown hgrow (Lib.ownsRowF_kind hown)).setCell ⟨b, 1, none⟩ rfl _⟩
  · exact Lib.BuilderAtF.put (T := 120) (e := 5) hB hb2 (bs' := bs ++ Lib.strCells s) (by simpa [Lib.strCells_length] using hown') (by decide)
  · exact (hb1.grown hgrow (by have := hb1.size; omega) (fun k hk => (hown.lt k hk).1)).setCell (p := ⟨b, 1, none⟩) hB _
end Go.Proofs.YtkomgidcgepknaaGreatDoor

/-
  expr.Text: its closure.
-/
set_option linter.unusedVariables false
set_option linter.unusedSimpArgs false
namespace Go.Proofs.YtkomgidcgepknaaGreatDoor
open Go.RowKit Go.Deep Go.Maps

/-- All below the builder, and all above it that is no row of bytes, is as it was. -/
structure KeptB (pb : Nat) (w w' : World) : Prop where
  bel : Below pb w w'
  oth : OthK pb w w'
section
variable {pb : Nat} {w w' w'' : World}
theorem KeptB.refl (pb : Nat) (w : World) : KeptB pb w w := ⟨Below.refl _ _, Lib.OthersKept.refl _ _ _⟩
theorem KeptB.trans (h : KeptB pb w w') (h' : KeptB pb w' w'') : KeptB pb w w'' := ⟨h.bel.trans h'.bel, h.oth.trans h'.oth⟩
theorem KeptB.of_below (hb : Below w.heap.size w w') (hp : pb ≤ w.heap.size) : KeptB pb w w' :=
  ⟨hb.mono hp, fun k o hk _ _ => by rw [hb.block k (Array.getElem?_eq_some_iff.1 hk).1]; exact hk⟩
theorem KeptB.blk (h : KeptB pb w w') {g : Nat} {t : TypeId} {cs : Array Value} (hb : Blk w g t cs) (hg : g ≠ pb) (ht : t ≠ 5) : Blk w' g t cs :=
  h.oth g _ hb (fun e => hg (Option.some.inj e)) (fun c fz e => by injection e with _ e _; exact ht e)
theorem KeptB.drewN (h : KeptB pb w w') (n : Nat) : KeptB pb w (w'.drewN n) := ⟨below_drewN h.bel n, h.oth⟩
end
theorem BuiF.below {B b : Nat} {bs : List Value} {w w' : World} (h : BuiF B b bs w) (hb : Below w.heap.size w w') : BuiF B b bs w' := by
  have key : ∀ p, Lib.BuilderAtF 120 5 B b p bs w → Lib.BuilderAtF 120 5 B b p bs w' := by
    rintro p ⟨hB, v, hk, hown, hne⟩
    refine ⟨hB, v, (hb.block b (Array.getElem?_eq_some_iff.1 hk).1).trans hk, ?_, hne⟩
    refine ⟨hown.1, ?_⟩
    rcases hown.2 with h2 | ⟨g, cap, cur, fz, hv, hgb, hh, r⟩
    · exact Or.inl h2
    · exact Or.inr ⟨g, cap, cur, fz, hv, hgb, (hb.block g (Array.getElem?_eq_some_iff.1 hh).1).trans hh, r⟩
  rcases h with h | h
  · exact .inl (key _ h)
  · exact .inr (key _ h)
theorem BuiF.drewN {B b : Nat} {bs : List Value} {w : World} (h : BuiF B b bs w) (n : Nat) : BuiF B b bs (w.drewN n) := h.below (drewN_below _ _ _)
abbrev pow10Name : String := "internal/strconv.uint64pow10"
abbrev Pow (w : World) : Prop := Lib.TabIs Tryz.prog w pow10Name .u64 Lib.pow10Tab
theorem pow_glob : Tryz.prog.globalNamed pow10Name = some 0 := by kernel_rfl
theorem Pow.below {w w' : World} {B : Nat} (h : Pow w) (hb : Below B w w') (hB : 0 < B) : Pow w' := by
  have h : Lib.TabIs Tryz.prog w pow10Name .u64 Lib.pow10Tab := h
  show Lib.TabIs Tryz.prog w' pow10Name .u64 Lib.pow10Tab
  unfold Lib.TabIs World.var? at h ⊢
  rw [pow_glob] at h ⊢
  rw [Option.bind_some] at h ⊢
  rw [hb.block 0 hB]
  exact h
/-- The variables of the closure in memory. -/
structure TEnv (w : World) (pe pb pw : Nat) (A : Option Addr) (c : Nat) (e : List Nod) : Prop where
  box : Blk w pe 24 #[.slice A e.length c]
  self : Blk w pw 121 #[.func (.func 71) #[] #[.pointer (some ⟨pe, 0, none⟩), .pointer (some ⟨pb, 0, none⟩), .pointer (some ⟨pw, 0, none⟩)]]
  ex : ExprAt w pb A e
  tab : Pow w
  one : pe < pb
  two : pb < pw
theorem TEnv.kept {w w' : World} {pe pb pw : Nat} {A : Option Addr} {c : Nat} {e : List Nod} (h : TEnv w pe pb pw A c e) (k : KeptB pb w w') : TEnv w' pe pb pw A c e :=
  ⟨h.box.below k.bel h.one, k.blk h.self (by have := h.two; omega) (by decide), h.ex.below k.bel, h.tab.below k.bel (Nat.lt_of_le_of_lt (Nat.zero_le _) h.one), h.one, h.two⟩
/-- What a call of the closure leaves. -/
def TPost (pb : Nat) (bs l : List UInt8) (w : World) (en : Ending) (w' : World) : Prop :=
  en = .returned (.tuple #[]) ∧ BuiF pb pb (Lib.byteCells (bs ++ l)) w' ∧ KeptB pb w w'
/-- A write to the builder. -/
theorem txt_write (pb : Nat) (bs : List UInt8) (s : ByteArray) (w : World) (h : BuiF pb pb (Lib.byteCells bs) w) (hl : bs.length + s.size ≤ 1000000) (hw : pb ≤ w.heap.size) :
    Calls Tryz.prog 73 #[.pointer (some ⟨pb, 0, none⟩), .string s] w fun e w' => e = .returned (.tuple #[.int .i64 s.size, .nilIface]) ∧ BuiF pb pb (Lib.byteCells (bs ++ s.data.toList)) w' ∧ KeptB pb w w' :=
  (bui_write pb pb (Lib.byteCells bs) s w h (by rw [Lib.byteCells_length]; omega) hw).mono fun e w' ⟨h1, h2, h3, h4⟩ => ⟨h1, by rw [Lib.byteCells_append]; exact .inr h2, h3, h4⟩
theorem txt_writeD (u : FrameMode) (pb : Nat) (bs : List UInt8) (s : ByteArray) (w : World) (h : BuiF pb pb (Lib.byteCells bs) w) (hl : bs.length + s.size ≤ 1000000) (hw : pb ≤ w.heap.size) :
    CallsD Tryz.prog 73 #[.pointer (some ⟨pb, 0, none⟩), .string s] u w fun e u' w' => u' = u ∧ e = .returned (.tuple #[.int .i64 s.size, .nilIface]) ∧ BuiF pb pb (Lib.byteCells (bs ++ s.data.toList)) w' ∧ KeptB pb w w' :=
  (bui_writeD u pb pb (Lib.byteCells bs) s w h (by rw [Lib.byteCells_length]; omega) hw).mono fun e u' w' ⟨h0, h1, h2, h3, h4⟩ => ⟨h0, h1, by rw [Lib.byteCells_append]; exact .inr h2, h3, h4⟩
theorem infixO_is {t : ByteArray} {op : Int} (h : infixO t = some op) : t = infixT op := by
  unfold infixO infixOp at h
  repeat' split at h
  all_goals first | (exfalso; simp_all; done) | (subst_vars; simp at h; subst h; rfl)
theorem funcO_is {t : ByteArray} {op : Int} (h : funcO t = some op) : t = funcT op := by
  unfold funcO funcOp at h
  repeat' split at h
  all_goals first | (exfalso; simp_all; done) | (subst_vars; simp at h; subst h; rfl)
theorem sp_data (t : ByteArray) : ((⟨#[32]⟩ : ByteArray) ++ t ++ ⟨#[32]⟩).data.toList = 32 :: (t.data.toList ++ [32]) := by
  simp [ByteArray.data_append]
theorem sp_size (t : ByteArray) : ((⟨#[32]⟩ : ByteArray) ++ t ++ ⟨#[32]⟩).size = t.size + 2 := by
  have h := congrArg List.length (sp_data t)
  simp only [Array.length_toList, List.length_cons, List.length_append, List.length_nil] at h
  exact h
theorem par_data (t : ByteArray) : (t ++ (⟨#[40]⟩ : ByteArray)).data.toList = t.data.toList ++ [40] := by
  simp [ByteArray.data_append]
theorem par_size (t : ByteArray) : (t ++ (⟨#[40]⟩ : ByteArray)).size = t.size + 1 := by
  have h := congrArg List.length (par_data t)
  simp only [Array.length_toList, List.length_append, List.length_cons, List.length_nil] at h
  exact h
/-- The symbol of an operator that has one. -/
theorem infixSym_any (b n : Nat) (op : Int) (w : World) (h : PM w b n infixO) (hop : op = 10 ∨ op = 11 ∨ op = 3 ∨ op = 4 ∨ op = 5 ∨ op = 6) :
    Calls Tryz.prog 74 #[.map (some b), .int .i64 op] w fun e w' => e = .returned (.string (infixT op)) ∧ Below w.heap.size w w' :=
  (symbol_any b n infixO op w h).mono fun e w' ⟨hb, t, he, ht⟩ => by
    rcases ht with ht | ⟨_, ht⟩
    · rw [infixO_is ht] at he
      exact ⟨he, hb⟩
    · exact absurd hop (infixO_has ht)
theorem funcSym_any (b n : Nat) (op : Int) (w : World) (h : PM w b n funcO) (hop : op = 7 ∨ op = 8 ∨ op = 9) :
    Calls Tryz.prog 74 #[.map (some b), .int .i64 op] w fun e w' => e = .returned (.string (funcT op)) ∧ Below w.heap.size w w' :=
  (symbol_any b n funcO op w h).mono fun e w' ⟨hb, t, he, ht⟩ => by
    rcases ht with ht | ⟨_, ht⟩
    · rw [funcO_is ht] at he
      exact ⟨he, hb⟩
    · exact absurd hop (funcO_has ht)
end Go.Proofs.YtkomgidcgepknaaGreatDoor

set_option linter.unusedVariables false
set_option linter.unusedSimpArgs false
namespace Go.Proofs.YtkomgidcgepknaaGreatDoor
open Go.RowKit Go.Deep Go.Maps
open Go.Lib (itoa decDigits)

section
variable {pe pb pw : Nat} {A : Option Addr} {c : Nat} {e : List Nod}
theorem KeptB.draw (pb : Nat) (w : World) : KeptB pb w w.drew := ⟨(Below.refl _ _).drew, (Lib.OthersKept.refl _ _ _).drew⟩
theorem BuiF.draw {B b : Nat} {bs : List Value} {w : World} (h : BuiF B b bs w) : BuiF B b bs w.drew := h.below (Below.refl _ _).drew
theorem sp1_run {t : ByteArray} (h : t.size ≤ 2) (w : World) : (Op.stringOp .add ⟨#[32]⟩ t).run Tryz.prog w = .ok (.string (⟨#[32]⟩ ++ t)) w :=
  run_string_add_sum w _ _ (by have : (⟨#[32]⟩ : ByteArray).size = 1 := rfl; omega)
theorem sp2_run {t : ByteArray} (h : t.size ≤ 2) (w : World) : (Op.stringOp .add (⟨#[32]⟩ ++ t) ⟨#[32]⟩).run Tryz.prog w = .ok (.string (⟨#[32]⟩ ++ t ++ ⟨#[32]⟩)) w :=
  run_string_add_sum w _ _ (by have : (⟨#[32]⟩ : ByteArray).size = 1 := rfl; have := ByteArray.size_append (a := ⟨#[32]⟩) (b := t); omega)
theorem par_run {t : ByteArray} (h : t.size ≤ 3) (w : World) : (Op.stringOp .add t ⟨#[40]⟩).run Tryz.prog w = .ok (.string (t ++ ⟨#[40]⟩)) w :=
  run_string_add_sum w _ _ (by have : (⟨#[40]⟩ : ByteArray).size = 1 := rfl; omega)
theorem TEnv.pos {w : World} (h : TEnv w pe pb pw A c e) : pb < w.heap.size := Nat.lt_trans h.two h.self.lt
/-- The closure writes the text l of the node idx at the strength m. -/
def TGo (pe pb pw : Nat) (A : Option Addr) (c : Nat) (e : List Nod) (size idx m : Nat) (l : List UInt8) : Prop := ∀ (bs : List UInt8) (w : World), bs.length + 26 * size ≤ 100000 → TEnv w pe pb pw A c e → BuiF pb pb (Lib.byteCells bs) w →
  Calls Tryz.prog 71 #[.int .i64 (idx : Int), .int .i64 (m : Int), .pointer (some ⟨pe, 0, none⟩), .pointer (some ⟨pb, 0, none⟩), .pointer (some ⟨pw, 0, none⟩)] w (TPost pb bs l w)
def TIH (pe pb pw : Nat) (A : Option Addr) (c : Nat) (e : List Nod) (N : Nat) : Prop := ∀ (s : Tr), s.size < N → s.good → ∀ (K m : Nat), AtL e K (s.flat K) → K + s.size ≤ e.length → 1 ≤ m → m ≤ 5 → TGo pe pb pw A c e s.size (K + s.size - 1) m (s.str m)


set_option maxHeartbeats 8000000 in
set_option maxRecDepth 100000 in
theorem txt_un {N : Nat} (IH0 : TIH pe pb pw A c e N) (a : Tr) (ha0 : a.size < N) (hg0 : a.good) {Ka : Nat} (hat0 : AtL e Ka (a.flat Ka)) {v0 : Int} (hv0 : v0 = ((Ka + a.size - 1 : Nat) : Int)) (hke0 : Ka + a.size ≤ e.length) {idx m : Nat} (hx : nodAt e idx = ⟨12, 0, ByteArray.empty, [v0]⟩) (hidx : idx < e.length) (hm1 : 1 ≤ m) (hm5 : m ≤ 5) (hen : ∀ x ∈ e, x.name.size ≤ maxLen) (he3 : e.length ≤ 300) :
    TGo pe pb pw A c e (a.size + 1) idx m (parenS 4 m (45 :: a.str 4)) := by
  intro bs w hlen hT hB
  have IH := hide IH0
  have hpos := hT.pos
  have hone := hT.one
  have htwo := hT.two
  have hselfl := hT.self.lt
  have HT := hide hT
  have HB := hide hB
  obtain ⟨be, offe, K', kc, rfl, hbe, x0, x1, x2, x3, hKd⟩ := hT.ex.at_ hidx
  rw [hx] at x0 x1 x2 x3 hKd
  have hname : ByteArray.empty.size ≤ maxLen := by
    have := hen _ (List.mem_of_getElem? (nodAt_get hidx))
    rw [hx] at this
    exact this
  have hnmlen : ByteArray.empty.size ≤ 24 := Nat.zero_le _
  have x0 : w.cell? ⟨be, offe + idx * 4, none⟩ = some (.int .i64 12) := x0
  have x1 : w.cell? ⟨be, offe + idx * 4 + 1, none⟩ = some (.int .i64 0) := x1
  have x2 : w.cell? ⟨be, offe + idx * 4 + 2, none⟩ = some (.string ByteArray.empty) := x2
  have x3 : w.cell? ⟨be, offe + idx * 4 + 3, none⟩ = some (.slice K' 1 kc) := x3
  have hKd : RI w pb K' 1 [v0] := hKd
  have p0 : w.cell? ⟨pe, 0, none⟩ = some (.slice (some ⟨be, offe, none⟩) e.length c) := hT.box.cell 0
  obtain ⟨bk, offk, rfl, hbk, gk0⟩ := hKd.at_ (k := 0) (by decide)
  have GK0 : Hid (w.cell? ⟨bk, offk, none⟩ = some (.int .i64 (v0))) := gk0
  clear gk0
  have hB5 : Blk (w.alloc (Obj.cells #[.int .i64 12, .int .i64 0, .string ByteArray.empty, .slice (some ⟨bk, offk, none⟩) 1 kc] 56)) w.heap.size 56 #[.int .i64 12, .int .i64 0, .string ByteArray.empty, .slice (some ⟨bk, offk, none⟩) 1 kc] := Blk.new _ _ _
  have hb5 : Below w.heap.size w (w.alloc (Obj.cells #[.int .i64 12, .int .i64 0, .string ByteArray.empty, .slice (some ⟨bk, offk, none⟩) 1 kc] 56)) := (Below.refl _ _).alloc (Nat.le_refl _) _
  have HV0 := hide hv0
  clear hT hB hKd IH0 hx hv0
  go_enter_defers Tryz.func71, Tryz.ntmps71
  go_upto_region 1 with (fail)
  generalize w.alloc (Obj.cells #[.int .i64 12, .int .i64 0, .string ByteArray.empty, .slice (some ⟨bk, offk, none⟩) 1 kc] 56) = w5 at hB5 hb5 ⊢
  have HK5 := hide (KeptB.of_below (pb := pb) hb5 (Nat.le_of_lt hpos))
  have HT5 := hide (HT.out.kept HK5.out)
  have HB5 := hide (HB.out.below hb5)
  have HN5 := hide hB5
  have hql := hB5.lt
  have hqp : w.heap.size ≠ pb := by omega
  have y0 : w5.cell? ⟨w.heap.size, 0, none⟩ = some (.int .i64 12) := hB5.cell 0
  clear x0 x1 x2 x3 p0 hB5 hb5
  generalize w.heap.size = q at HN5 hql hqp y0 hpos hselfl ⊢
  go_wp2_with fail
  refine (strength_any _ w5).mono ?_
  rintro en w' ⟨rfl, rfl⟩
  rw [show strength 12 = ((4 : Nat) : Int) from by decide]
  have hlp := HT5.out.pos
  clear y0
  by_cases hlt : 4 < m
  · have d1 : decide (((4 : Nat) : Int) < (m : Int)) = true := decide_eq_true (by omega)
    go_wp2_with fail
    refine (txt_write pb bs ⟨#[40]⟩ w5 HB5.out (by show bs.length + 1 ≤ 1000000; omega) (Nat.le_of_lt hlp)).mono ?_
    rintro en w6 ⟨rfl, hb6, hk6⟩
    have HT6 := hide (HT5.out.kept hk6)
    have HB6 : Hid (BuiF pb pb (Lib.byteCells (bs ++ [40])) w6) := hide hb6
    have HK6 := hide (HK5.out.trans hk6)
    have HN6 := hide (hk6.blk HN5.out hqp (by decide))
    obtain ⟨bs0, hbs0⟩ : ∃ bs0, bs0 = bs ++ [40] := ⟨_, rfl⟩
    rw [← hbs0] at HB6
    have hl0 : bs0.length ≤ bs.length + 1 := by rw [hbs0]; simp
    have FIN : Hid (∀ (l : List UInt8) (tm : Array Value) (w' : World), l = 45 :: a.str 4 → BuiF pb pb (Lib.byteCells (bs0 ++ l)) w' → KeptB pb w w' → bs0.length + l.length ≤ 200000 →
        Leaves Tryz.prog Tryz.f71 tm (TPost pb bs (parenS 4 m (45 :: a.str 4)) w) [{ target := .fn (.func 73) #[], args := #[.pointer (some ⟨pb, 0, none⟩), .string ⟨#[41]⟩] }] .returning w') := hide (fun l tm w' hl h1 h2 h3 => by
      subst hl
      refine leaves_cons (f := 73) (args := #[.pointer (some ⟨pb, 0, none⟩), .string ⟨#[41]⟩]) (by simp) (by simp [go_sem]) ?_
      refine (txt_writeD .returning pb _ ⟨#[41]⟩ w' h1 (by rw [List.length_append]; show _ + 1 ≤ 1000000; omega) (by have := h2.bel.size; have := HT.out.pos; omega)).mono ?_
      rintro en u' w'' ⟨rfl, rfl, h4, h5⟩
      refine ⟨.tuple #[], by simp [results, Tryz.results71, go_sem], rfl, ?_, h2.trans h5⟩
      have h4 : BuiF pb pb (Lib.byteCells (bs0 ++ (45 :: a.str 4) ++ [41])) w'' := h4
      rw [hbs0] at h4
      unfold parenS
      rw [if_pos hlt]
      simpa using h4)
    clear hb6 hk6 HB5 HN5 HT5 HK5 hbs0
    go_upto_region 5 with (fail)
    go_wp2_with fail
    refine (txt_write pb (bs0) ⟨#[45]⟩ w6 HB6.out (by  show _ + 1 ≤ 1000000; (try simp only [List.length_append, List.length_cons, List.length_nil]); omega) (Nat.le_of_lt HT6.out.pos)).mono ?_
    rintro en w7 ⟨rfl, hb, hk⟩
    have HT7 := hide (HT6.out.kept hk)
    have HB7 : Hid (BuiF pb pb (Lib.byteCells (bs0 ++ [45])) w7) := hide hb
    have HK7 := hide (HK6.out.trans hk)
    have HN7 := hide (hk.blk HN6.out hqp (by decide))
    clear hb hk HB6 HT6 HK6 HN6
    have SD : Hid (w7.drew.cell? ⟨pw, 0, none⟩ = some (.func (.func 71) #[] #[.pointer (some ⟨pe, 0, none⟩), .pointer (some ⟨pb, 0, none⟩), .pointer (some ⟨pw, 0, none⟩)]) ∧ w7.drew.cell? ⟨q, 3, none⟩ = some (.slice (some ⟨bk, offk, none⟩) 1 kc) ∧ w7.drew.cell? ⟨bk, offk, none⟩ = some (.int .i64 (v0))) := ⟨HT7.out.self.cell 0, HN7.out.cell 3, (HK7.out.bel.cell (p := ⟨bk, offk, none⟩) hbk).trans GK0.out⟩
    go_upto_region 30 with (fail)
    go_region_held3 (fun w' => w'.cell? ⟨pw, 0, none⟩ = some (.func (.func 71) #[] #[.pointer (some ⟨pe, 0, none⟩), .pointer (some ⟨pb, 0, none⟩), .pointer (some ⟨pw, 0, none⟩)]) ∧ w'.cell? ⟨q, 3, none⟩ = some (.slice (some ⟨bk, offk, none⟩) 1 kc) ∧ w'.cell? ⟨bk, offk, none⟩ = some (.int .i64 (v0)))
      (first | exact SD.out | exact SK.out)
      (first | (go_at_call 71; rw [HV0.out]; refine (IH.out a ha0 hg0 (Ka) 4 hat0 hke0 (by omega) (by omega) (bs0 ++ [45]) w7.drew (by  (try simp only [List.length_append, List.length_cons, List.length_nil]); omega) (HT7.out.kept (KeptB.draw pb w7)) HB7.out.draw).mono ?_; rintro en w8 ⟨rfl, hb, hk⟩; have hk := (KeptB.draw pb w7).trans hk; have HT8 := hide (HT7.out.kept hk); have HB8 := hide hb; have HK8 := hide (HK7.out.trans hk); have HN8 := hide (hk.blk HN7.out hqp (by decide)); have SK : Hid (w8.cell? ⟨pw, 0, none⟩ = some (.func (.func 71) #[] #[.pointer (some ⟨pe, 0, none⟩), .pointer (some ⟨pb, 0, none⟩), .pointer (some ⟨pw, 0, none⟩)]) ∧ w8.cell? ⟨q, 3, none⟩ = some (.slice (some ⟨bk, offk, none⟩) 1 kc) ∧ w8.cell? ⟨bk, offk, none⟩ = some (.int .i64 (v0))) := ⟨HT8.out.self.cell 0, HN8.out.cell 3, (HK8.out.bel.cell (p := ⟨bk, offk, none⟩) hbk).trans GK0.out⟩; clear hb hk))
    clear SD HB7 HT7 HK7 HN7
    have hls0 := str_len a hg0 4
    go_wp2
    exact FIN.out _ _ _ rfl (by simpa only [List.append_assoc, List.cons_append, List.nil_append] using HB8.out) HK8.out (by  (try simp only [List.length_append, List.length_cons, List.length_nil]); omega)
  · have d1 : decide (((4 : Nat) : Int) < (m : Int)) = false := decide_eq_false (by omega)
    obtain ⟨w6, hw6⟩ : ∃ w6, w6 = w5 := ⟨_, rfl⟩
    subst hw6
    have HT6 := HT5
    have HB6 := HB5
    have HK6 := HK5
    have HN6 := HN5
    obtain ⟨bs0, hbs0⟩ : ∃ bs0, bs0 = bs := ⟨_, rfl⟩
    rw [← hbs0] at HB6
    have hl0 : bs0.length ≤ bs.length + 1 := by rw [hbs0]; omega
    have FIN : Hid (∀ (l : List UInt8) (tm : Array Value) (w' : World), l = 45 :: a.str 4 → BuiF pb pb (Lib.byteCells (bs0 ++ l)) w' → KeptB pb w w' → bs0.length + l.length ≤ 200000 →
        Leaves Tryz.prog Tryz.f71 tm (TPost pb bs (parenS 4 m (45 :: a.str 4)) w) [] .returning w') := hide (fun l tm w' hl h1 h2 h3 => by
      subst hl
      refine ⟨.tuple #[], by simp [results, Tryz.results71, go_sem], rfl, ?_, h2⟩
      rw [hbs0] at h1
      unfold parenS
      rw [if_neg hlt]
      exact h1)
    clear HB5 HN5 HT5 HK5 hbs0
    go_upto_region 5 with (fail)
    go_wp2_with fail
    refine (txt_write pb (bs0) ⟨#[45]⟩ w6 HB6.out (by  show _ + 1 ≤ 1000000; (try simp only [List.length_append, List.length_cons, List.length_nil]); omega) (Nat.le_of_lt HT6.out.pos)).mono ?_
    rintro en w7 ⟨rfl, hb, hk⟩
    have HT7 := hide (HT6.out.kept hk)
    have HB7 : Hid (BuiF pb pb (Lib.byteCells (bs0 ++ [45])) w7) := hide hb
    have HK7 := hide (HK6.out.trans hk)
    have HN7 := hide (hk.blk HN6.out hqp (by decide))
    clear hb hk HB6 HT6 HK6 HN6
    have SD : Hid (w7.drew.cell? ⟨pw, 0, none⟩ = some (.func (.func 71) #[] #[.pointer (some ⟨pe, 0, none⟩), .pointer (some ⟨pb, 0, none⟩), .pointer (some ⟨pw, 0, none⟩)]) ∧ w7.drew.cell? ⟨q, 3, none⟩ = some (.slice (some ⟨bk, offk, none⟩) 1 kc) ∧ w7.drew.cell? ⟨bk, offk, none⟩ = some (.int .i64 (v0))) := ⟨HT7.out.self.cell 0, HN7.out.cell 3, (HK7.out.bel.cell (p := ⟨bk, offk, none⟩) hbk).trans GK0.out⟩
    go_upto_region 30 with (fail)
    go_region_held3 (fun w' => w'.cell? ⟨pw, 0, none⟩ = some (.func (.func 71) #[] #[.pointer (some ⟨pe, 0, none⟩), .pointer (some ⟨pb, 0, none⟩), .pointer (some ⟨pw, 0, none⟩)]) ∧ w'.cell? ⟨q, 3, none⟩ = some (.slice (some ⟨bk, offk, none⟩) 1 kc) ∧ w'.cell? ⟨bk, offk, none⟩ = some (.int .i64 (v0)))
      (first | exact SD.out | exact SK.out)
      (first | (go_at_call 71; rw [HV0.out]; refine (IH.out a ha0 hg0 (Ka) 4 hat0 hke0 (by omega) (by omega) (bs0 ++ [45]) w7.drew (by  (try simp only [List.length_append, List.length_cons, List.length_nil]); omega) (HT7.out.kept (KeptB.draw pb w7)) HB7.out.draw).mono ?_; rintro en w8 ⟨rfl, hb, hk⟩; have hk := (KeptB.draw pb w7).trans hk; have HT8 := hide (HT7.out.kept hk); have HB8 := hide hb; have HK8 := hide (HK7.out.trans hk); have HN8 := hide (hk.blk HN7.out hqp (by decide)); have SK : Hid (w8.cell? ⟨pw, 0, none⟩ = some (.func (.func 71) #[] #[.pointer (some ⟨pe, 0, none⟩), .pointer (some ⟨pb, 0, none⟩), .pointer (some ⟨pw, 0, none⟩)]) ∧ w8.cell? ⟨q, 3, none⟩ = some (.slice (some ⟨bk, offk, none⟩) 1 kc) ∧ w8.cell? ⟨bk, offk, none⟩ = some (.int .i64 (v0))) := ⟨HT8.out.self.cell 0, HN8.out.cell 3, (HK8.out.bel.cell (p := ⟨bk, offk, none⟩) hbk).trans GK0.out⟩; clear hb hk))
    clear SD HB7 HT7 HK7 HN7
    have hls0 := str_len a hg0 4
    go_wp2
    exact FIN.out _ _ _ rfl (by simpa only [List.append_assoc, List.cons_append, List.nil_append] using HB8.out) HK8.out (by  (try simp only [List.length_append, List.length_cons, List.length_nil]); omega)

set_option maxHeartbeats 8000000 in
set_option maxRecDepth 100000 in
theorem txt_weak {N : Nat} (IH0 : TIH pe pb pw A c e N) {op : Int} (hop1 : op = 10 ∨ op = 11) (a : Tr) (ha0 : a.size < N) (hg0 : a.good) {Ka : Nat} (hat0 : AtL e Ka (a.flat Ka)) {v0 : Int} (hv0 : v0 = ((Ka + a.size - 1 : Nat) : Int)) (hke0 : Ka + a.size ≤ e.length) (b : Tr) (ha1 : b.size < N) (hg1 : b.good) {Kb : Nat} (hat1 : AtL e Kb (b.flat Kb)) {v1 : Int} (hv1 : v1 = ((Kb + b.size - 1 : Nat) : Int)) (hke1 : Kb + b.size ≤ e.length) {idx m : Nat} (hx : nodAt e idx = ⟨op, 0, ByteArray.empty, [v0, v1]⟩) (hidx : idx < e.length) (hm1 : 1 ≤ m) (hm5 : m ≤ 5) (hen : ∀ x ∈ e, x.name.size ≤ maxLen) (he3 : e.length ≤ 300) :
    TGo pe pb pw A c e (a.size + b.size + 1) idx m (parenS 1 m (a.str 2 ++ (32 :: ((infixT op).data.toList ++ (32 :: b.str 2))))) := by
  intro bs w hlen hT hB
  have IH := hide IH0
  have hpos := hT.pos
  have hone := hT.one
  have htwo := hT.two
  have hselfl := hT.self.lt
  have HT := hide hT
  have HB := hide hB
  obtain ⟨be, offe, K', kc, rfl, hbe, x0, x1, x2, x3, hKd⟩ := hT.ex.at_ hidx
  rw [hx] at x0 x1 x2 x3 hKd
  have hname : ByteArray.empty.size ≤ maxLen := by
    have := hen _ (List.mem_of_getElem? (nodAt_get hidx))
    rw [hx] at this
    exact this
  have hnmlen : ByteArray.empty.size ≤ 24 := Nat.zero_le _
  have x0 : w.cell? ⟨be, offe + idx * 4, none⟩ = some (.int .i64 op) := x0
  have x1 : w.cell? ⟨be, offe + idx * 4 + 1, none⟩ = some (.int .i64 0) := x1
  have x2 : w.cell? ⟨be, offe + idx * 4 + 2, none⟩ = some (.string ByteArray.empty) := x2
  have x3 : w.cell? ⟨be, offe + idx * 4 + 3, none⟩ = some (.slice K' 2 kc) := x3
  have hKd : RI w pb K' 2 [v0, v1] := hKd
  have p0 : w.cell? ⟨pe, 0, none⟩ = some (.slice (some ⟨be, offe, none⟩) e.length c) := hT.box.cell 0
  obtain ⟨bk, offk, rfl, hbk, gk0⟩ := hKd.at_ (k := 0) (by decide)
  have GK0 : Hid (w.cell? ⟨bk, offk, none⟩ = some (.int .i64 (v0))) := gk0
  have GK1 : Hid (w.cell? ⟨bk, offk + 1, none⟩ = some (.int .i64 (v1))) := hide (by
    obtain ⟨b2, o2, hA2, _, g2⟩ := hKd.at_ (k := 1) (by decide)
    injection hA2 with hA2
    injection hA2 with h1 h2
    rw [h1, h2]
    exact g2)
  clear gk0
  have hB5 : Blk (w.alloc (Obj.cells #[.int .i64 op, .int .i64 0, .string ByteArray.empty, .slice (some ⟨bk, offk, none⟩) 2 kc] 56)) w.heap.size 56 #[.int .i64 op, .int .i64 0, .string ByteArray.empty, .slice (some ⟨bk, offk, none⟩) 2 kc] := Blk.new _ _ _
  have hb5 : Below w.heap.size w (w.alloc (Obj.cells #[.int .i64 op, .int .i64 0, .string ByteArray.empty, .slice (some ⟨bk, offk, none⟩) 2 kc] 56)) := (Below.refl _ _).alloc (Nat.le_refl _) _
  have HV0 := hide hv0
  have HV1 := hide hv1
  clear hT hB hKd IH0 hx hv0 hv1
  have hop : op = 10 ∨ op = 11 ∨ op = 3 ∨ op = 4 ∨ op = 5 ∨ op = 6 := by omega
  go_enter_defers Tryz.func71, Tryz.ntmps71
  go_upto_region 1 with (fail)
  generalize w.alloc (Obj.cells #[.int .i64 op, .int .i64 0, .string ByteArray.empty, .slice (some ⟨bk, offk, none⟩) 2 kc] 56) = w5 at hB5 hb5 ⊢
  have HK5 := hide (KeptB.of_below (pb := pb) hb5 (Nat.le_of_lt hpos))
  have HT5 := hide (HT.out.kept HK5.out)
  have HB5 := hide (HB.out.below hb5)
  have HN5 := hide hB5
  have hql := hB5.lt
  have hqp : w.heap.size ≠ pb := by omega
  have y0 : w5.cell? ⟨w.heap.size, 0, none⟩ = some (.int .i64 op) := hB5.cell 0
  clear x0 x1 x2 x3 p0 hB5 hb5
  generalize w.heap.size = q at HN5 hql hqp y0 hpos hselfl ⊢
  go_wp2_with fail
  refine (strength_any _ w5).mono ?_
  rintro en w' ⟨rfl, rfl⟩
  rw [show strength op = ((1 : Nat) : Int) from by rcases hop1 with rfl | rfl <;> decide]
  have hlp := HT5.out.pos
  clear y0
  by_cases hlt : 1 < m
  · have d1 : decide (((1 : Nat) : Int) < (m : Int)) = true := decide_eq_true (by omega)
    go_wp2_with fail
    refine (txt_write pb bs ⟨#[40]⟩ w5 HB5.out (by show bs.length + 1 ≤ 1000000; omega) (Nat.le_of_lt hlp)).mono ?_
    rintro en w6 ⟨rfl, hb6, hk6⟩
    have HT6 := hide (HT5.out.kept hk6)
    have HB6 : Hid (BuiF pb pb (Lib.byteCells (bs ++ [40])) w6) := hide hb6
    have HK6 := hide (HK5.out.trans hk6)
    have HN6 := hide (hk6.blk HN5.out hqp (by decide))
    obtain ⟨bs0, hbs0⟩ : ∃ bs0, bs0 = bs ++ [40] := ⟨_, rfl⟩
    rw [← hbs0] at HB6
    have hl0 : bs0.length ≤ bs.length + 1 := by rw [hbs0]; simp
    have FIN : Hid (∀ (l : List UInt8) (tm : Array Value) (w' : World), l = a.str 2 ++ (32 :: ((infixT op).data.toList ++ (32 :: b.str 2))) → BuiF pb pb (Lib.byteCells (bs0 ++ l)) w' → KeptB pb w w' → bs0.length + l.length ≤ 200000 →
        Leaves Tryz.prog Tryz.f71 tm (TPost pb bs (parenS 1 m (a.str 2 ++ (32 :: ((infixT op).data.toList ++ (32 :: b.str 2))))) w) [{ target := .fn (.func 73) #[], args := #[.pointer (some ⟨pb, 0, none⟩), .string ⟨#[41]⟩] }] .returning w') := hide (fun l tm w' hl h1 h2 h3 => by
      subst hl
      refine leaves_cons (f := 73) (args := #[.pointer (some ⟨pb, 0, none⟩), .string ⟨#[41]⟩]) (by simp) (by simp [go_sem]) ?_
      refine (txt_writeD .returning pb _ ⟨#[41]⟩ w' h1 (by rw [List.length_append]; show _ + 1 ≤ 1000000; omega) (by have := h2.bel.size; have := HT.out.pos; omega)).mono ?_
      rintro en u' w'' ⟨rfl, rfl, h4, h5⟩
      refine ⟨.tuple #[], by simp [results, Tryz.results71, go_sem], rfl, ?_, h2.trans h5⟩
      have h4 : BuiF pb pb (Lib.byteCells (bs0 ++ (a.str 2 ++ (32 :: ((infixT op).data.toList ++ (32 :: b.str 2)))) ++ [41])) w'' := h4
      rw [hbs0] at h4
      unfold parenS
      rw [if_pos hlt]
      simpa using h4)
    clear hb6 hk6 HB5 HN5 HT5 HK5 hbs0
    go_upto_region 5 with (fail)
    have SD : Hid (w6.drew.cell? ⟨pw, 0, none⟩ = some (.func (.func 71) #[] #[.pointer (some ⟨pe, 0, none⟩), .pointer (some ⟨pb, 0, none⟩), .pointer (some ⟨pw, 0, none⟩)]) ∧ w6.drew.cell? ⟨q, 3, none⟩ = some (.slice (some ⟨bk, offk, none⟩) 2 kc) ∧ w6.drew.cell? ⟨bk, offk, none⟩ = some (.int .i64 (v0))) := ⟨HT6.out.self.cell 0, HN6.out.cell 3, (HK6.out.bel.cell (p := ⟨bk, offk, none⟩) hbk).trans GK0.out⟩
    go_upto_region 20 with (fail)
    go_region_held3 (fun w' => w'.cell? ⟨pw, 0, none⟩ = some (.func (.func 71) #[] #[.pointer (some ⟨pe, 0, none⟩), .pointer (some ⟨pb, 0, none⟩), .pointer (some ⟨pw, 0, none⟩)]) ∧ w'.cell? ⟨q, 3, none⟩ = some (.slice (some ⟨bk, offk, none⟩) 2 kc) ∧ w'.cell? ⟨bk, offk, none⟩ = some (.int .i64 (v0)))
      (first | exact SD.out | exact SK.out)
      (first | (go_at_call 71; rw [HV0.out]; refine (IH.out a ha0 hg0 (Ka) 2 hat0 hke0 (by omega) (by omega) (bs0) w6.drew (by  (try simp only [List.length_append, List.length_cons, List.length_nil]); omega) (HT6.out.kept (KeptB.draw pb w6)) HB6.out.draw).mono ?_; rintro en w7 ⟨rfl, hb, hk⟩; have hk := (KeptB.draw pb w6).trans hk; have HT7 := hide (HT6.out.kept hk); have HB7 := hide hb; have HK7 := hide (HK6.out.trans hk); have HN7 := hide (hk.blk HN6.out hqp (by decide)); have SK : Hid (w7.cell? ⟨pw, 0, none⟩ = some (.func (.func 71) #[] #[.pointer (some ⟨pe, 0, none⟩), .pointer (some ⟨pb, 0, none⟩), .pointer (some ⟨pw, 0, none⟩)]) ∧ w7.cell? ⟨q, 3, none⟩ = some (.slice (some ⟨bk, offk, none⟩) 2 kc) ∧ w7.cell? ⟨bk, offk, none⟩ = some (.int .i64 (v0))) := ⟨HT7.out.self.cell 0, HN7.out.cell 3, (HK7.out.bel.cell (p := ⟨bk, offk, none⟩) hbk).trans GK0.out⟩; clear hb hk))
    clear SD HB6 HT6 HK6 HN6
    have hls0 := str_len a hg0 2
    have SD : Hid (w7.drew.cell? ⟨q, 0, none⟩ = some (.int .i64 op)) := HN7.out.cell 0
    have hpz := HT7.out.pos
    have hql2 := HN7.out.lt
    have hsl := infix_len op
    have hsz : (infixT op).size ≤ 2 := by have := hsl; rw [Array.length_toList] at this; exact this
    have ha1 : ∀ w : World, (Op.stringOp .add ⟨#[32]⟩ (infixT op)).run Tryz.prog w = .ok (.string (⟨#[32]⟩ ++ infixT op)) w := fun w => sp1_run hsz w
    have ha2 : ∀ w : World, (Op.stringOp .add (⟨#[32]⟩ ++ infixT op) ⟨#[32]⟩).run Tryz.prog w = .ok (.string (⟨#[32]⟩ ++ infixT op ++ ⟨#[32]⟩)) w := fun w => sp2_run hsz w
    go_upto_region 21 with (fail)
    go_region_held3 (fun w' => w'.cell? ⟨q, 0, none⟩ = some (.int .i64 op)) (first | exact SD.out | exact SK1.out | exact SK2.out | exact SK3.out)
      (first
        | (go_at_call 75; refine (infix_map w7.drew).mono ?_; rintro en u1 ⟨rfl, p2, b2⟩; have P2 := hide p2; have B2 := hide b2; have SK1 : Hid (u1.cell? ⟨q, 0, none⟩ = some (.int .i64 op)) := (b2.cell (p := ⟨q, 0, none⟩) hql2).trans SD.out; clear p2 b2)
        | (go_at_call 74; refine (infixSym_any _ 6 op u1 P2.out hop).mono ?_; rintro en u2 ⟨rfl, b3⟩; have B3 := hide (B2.out.trans (b3.mono B2.out.size)); have SK2 : Hid (u2.cell? ⟨q, 0, none⟩ = some (.int .i64 op)) := (b3.cell (p := ⟨q, 0, none⟩) (Nat.lt_of_lt_of_le hql2 B2.out.size)).trans SK1.out; clear b3)
        | (go_at_call 73; refine (txt_write pb (bs0 ++ a.str 2) _ u2 (HB7.out.draw.below B3.out) (by rw [sp_size]; (try simp only [List.length_append, List.length_cons, List.length_nil]); omega) (Nat.le_trans (Nat.le_of_lt hpz) B3.out.size)).mono ?_; rintro en w8 ⟨rfl, hb, hk⟩; rw [sp_data] at hb; have hk := ((KeptB.draw pb w7).trans (KeptB.of_below B3.out (Nat.le_of_lt hpz))).trans hk; have HT8 := hide (HT7.out.kept hk); have HB8 := hide hb; have HK8 := hide (HK7.out.trans hk); have HN8 := hide (hk.blk HN7.out hqp (by decide)); have SK3 : Hid (w8.cell? ⟨q, 0, none⟩ = some (.int .i64 op)) := HN8.out.cell 0; clear hb hk))
    clear SD HB7 HT7 HK7 HN7 hpz hql2 ha1 ha2
    have SD : Hid (w8.drew.cell? ⟨pw, 0, none⟩ = some (.func (.func 71) #[] #[.pointer (some ⟨pe, 0, none⟩), .pointer (some ⟨pb, 0, none⟩), .pointer (some ⟨pw, 0, none⟩)]) ∧ w8.drew.cell? ⟨q, 3, none⟩ = some (.slice (some ⟨bk, offk, none⟩) 2 kc) ∧ w8.drew.cell? ⟨bk, offk + 1, none⟩ = some (.int .i64 (v1))) := ⟨HT8.out.self.cell 0, HN8.out.cell 3, (HK8.out.bel.cell (p := ⟨bk, offk + 1, none⟩) hbk).trans GK1.out⟩
    go_upto_region 22 with (fail)
    go_region_held3 (fun w' => w'.cell? ⟨pw, 0, none⟩ = some (.func (.func 71) #[] #[.pointer (some ⟨pe, 0, none⟩), .pointer (some ⟨pb, 0, none⟩), .pointer (some ⟨pw, 0, none⟩)]) ∧ w'.cell? ⟨q, 3, none⟩ = some (.slice (some ⟨bk, offk, none⟩) 2 kc) ∧ w'.cell? ⟨bk, offk + 1, none⟩ = some (.int .i64 (v1)))
      (first | exact SD.out | exact SK.out)
      (first | (go_at_call 71; rw [HV1.out]; refine (IH.out b ha1 hg1 (Kb) 2 hat1 hke1 (by omega) (by omega) (bs0 ++ a.str 2 ++ (32 :: ((infixT op).data.toList ++ [32]))) w8.drew (by  (try simp only [List.length_append, List.length_cons, List.length_nil]); omega) (HT8.out.kept (KeptB.draw pb w8)) HB8.out.draw).mono ?_; rintro en w9 ⟨rfl, hb, hk⟩; have hk := (KeptB.draw pb w8).trans hk; have HT9 := hide (HT8.out.kept hk); have HB9 := hide hb; have HK9 := hide (HK8.out.trans hk); have HN9 := hide (hk.blk HN8.out hqp (by decide)); have SK : Hid (w9.cell? ⟨pw, 0, none⟩ = some (.func (.func 71) #[] #[.pointer (some ⟨pe, 0, none⟩), .pointer (some ⟨pb, 0, none⟩), .pointer (some ⟨pw, 0, none⟩)]) ∧ w9.cell? ⟨q, 3, none⟩ = some (.slice (some ⟨bk, offk, none⟩) 2 kc) ∧ w9.cell? ⟨bk, offk + 1, none⟩ = some (.int .i64 (v1))) := ⟨HT9.out.self.cell 0, HN9.out.cell 3, (HK9.out.bel.cell (p := ⟨bk, offk + 1, none⟩) hbk).trans GK1.out⟩; clear hb hk))
    clear SD HB8 HT8 HK8 HN8
    have hls1 := str_len b hg1 2
    go_wp2
    exact FIN.out _ _ _ rfl (by simpa only [List.append_assoc, List.cons_append, List.nil_append] using HB9.out) HK9.out (by  (try simp only [List.length_append, List.length_cons, List.length_nil]); omega)
  · have d1 : decide (((1 : Nat) : Int) < (m : Int)) = false := decide_eq_false (by omega)
    obtain ⟨w6, hw6⟩ : ∃ w6, w6 = w5 := ⟨_, rfl⟩
    subst hw6
    have HT6 := HT5
    have HB6 := HB5
    have HK6 := HK5
    have HN6 := HN5
    obtain ⟨bs0, hbs0⟩ : ∃ bs0, bs0 = bs := ⟨_, rfl⟩
    rw [← hbs0] at HB6
    have hl0 : bs0.length ≤ bs.length + 1 := by rw [hbs0]; omega
    have FIN : Hid (∀ (l : List UInt8) (tm : Array Value) (w' : World), l = a.str 2 ++ (32 :: ((infixT op).data.toList ++ (32 :: b.str 2))) → BuiF pb pb (Lib.byteCells (bs0 ++ l)) w' → KeptB pb w w' → bs0.length + l.length ≤ 200000 →
        Leaves Tryz.prog Tryz.f71 tm (TPost pb bs (parenS 1 m (a.str 2 ++ (32 :: ((infixT op).data.toList ++ (32 :: b.str 2))))) w) [] .returning w') := hide (fun l tm w' hl h1 h2 h3 => by
      subst hl
      refine ⟨.tuple #[], by simp [results, Tryz.results71, go_sem], rfl, ?_, h2⟩
      rw [hbs0] at h1
      unfold parenS
      rw [if_neg hlt]
      exact h1)
    clear HB5 HN5 HT5 HK5 hbs0
    go_upto_region 5 with (fail)
    have SD : Hid (w6.drew.cell? ⟨pw, 0, none⟩ = some (.func (.func 71) #[] #[.pointer (some ⟨pe, 0, none⟩), .pointer (some ⟨pb, 0, none⟩), .pointer (some ⟨pw, 0, none⟩)]) ∧ w6.drew.cell? ⟨q, 3, none⟩ = some (.slice (some ⟨bk, offk, none⟩) 2 kc) ∧ w6.drew.cell? ⟨bk, offk, none⟩ = some (.int .i64 (v0))) := ⟨HT6.out.self.cell 0, HN6.out.cell 3, (HK6.out.bel.cell (p := ⟨bk, offk, none⟩) hbk).trans GK0.out⟩
    go_upto_region 20 with (fail)
    go_region_held3 (fun w' => w'.cell? ⟨pw, 0, none⟩ = some (.func (.func 71) #[] #[.pointer (some ⟨pe, 0, none⟩), .pointer (some ⟨pb, 0, none⟩), .pointer (some ⟨pw, 0, none⟩)]) ∧ w'.cell? ⟨q, 3, none⟩ = some (.slice (some ⟨bk, offk, none⟩) 2 kc) ∧ w'.cell? ⟨bk, offk, none⟩ = some (.int .i64 (v0)))
      (first | exact SD.out | exact SK.out)
      (first | (go_at_call 71; rw [HV0.out]; refine (IH.out a ha0 hg0 (Ka) 2 hat0 hke0 (by omega) (by omega) (bs0) w6.drew (by  (try simp only [List.length_append, List.length_cons, List.length_nil]); omega) (HT6.out.kept (KeptB.draw pb w6)) HB6.out.draw).mono ?_; rintro en w7 ⟨rfl, hb, hk⟩; have hk := (KeptB.draw pb w6).trans hk; have HT7 := hide (HT6.out.kept hk); have HB7 := hide hb; have HK7 := hide (HK6.out.trans hk); have HN7 := hide (hk.blk HN6.out hqp (by decide)); have SK : Hid (w7.cell? ⟨pw, 0, none⟩ = some (.func (.func 71) #[] #[.pointer (some ⟨pe, 0, none⟩), .pointer (some ⟨pb, 0, none⟩), .pointer (some ⟨pw, 0, none⟩)]) ∧ w7.cell? ⟨q, 3, none⟩ = some (.slice (some ⟨bk, offk, none⟩) 2 kc) ∧ w7.cell? ⟨bk, offk, none⟩ = some (.int .i64 (v0))) := ⟨HT7.out.self.cell 0, HN7.out.cell 3, (HK7.out.bel.cell (p := ⟨bk, offk, none⟩) hbk).trans GK0.out⟩; clear hb hk))
    clear SD HB6 HT6 HK6 HN6
    have hls0 := str_len a hg0 2
    have SD : Hid (w7.drew.cell? ⟨q, 0, none⟩ = some (.int .i64 op)) := HN7.out.cell 0
    have hpz := HT7.out.pos
    have hql2 := HN7.out.lt
    have hsl := infix_len op
    have hsz : (infixT op).size ≤ 2 := by have := hsl; rw [Array.length_toList] at this; exact this
    have ha1 : ∀ w : World, (Op.stringOp .add ⟨#[32]⟩ (infixT op)).run Tryz.prog w = .ok (.string (⟨#[32]⟩ ++ infixT op)) w := fun w => sp1_run hsz w
    have ha2 : ∀ w : World, (Op.stringOp .add (⟨#[32]⟩ ++ infixT op) ⟨#[32]⟩).run Tryz.prog w = .ok (.string (⟨#[32]⟩ ++ infixT op ++ ⟨#[32]⟩)) w := fun w => sp2_run hsz w
    go_upto_region 21 with (fail)
    go_region_held3 (fun w' => w'.cell? ⟨q, 0, none⟩ = some (.int .i64 op)) (first | exact SD.out | exact SK1.out | exact SK2.out | exact SK3.out)
      (first
        | (go_at_call 75; refine (infix_map w7.drew).mono ?_; rintro en u1 ⟨rfl, p2, b2⟩; have P2 := hide p2; have B2 := hide b2; have SK1 : Hid (u1.cell? ⟨q, 0, none⟩ = some (.int .i64 op)) := (b2.cell (p := ⟨q, 0, none⟩) hql2).trans SD.out; clear p2 b2)
        | (go_at_call 74; refine (infixSym_any _ 6 op u1 P2.out hop).mono ?_; rintro en u2 ⟨rfl, b3⟩; have B3 := hide (B2.out.trans (b3.mono B2.out.size)); have SK2 : Hid (u2.cell? ⟨q, 0, none⟩ = some (.int .i64 op)) := (b3.cell (p := ⟨q, 0, none⟩) (Nat.lt_of_lt_of_le hql2 B2.out.size)).trans SK1.out; clear b3)
        | (go_at_call 73; refine (txt_write pb (bs0 ++ a.str 2) _ u2 (HB7.out.draw.below B3.out) (by rw [sp_size]; (try simp only [List.length_append, List.length_cons, List.length_nil]); omega) (Nat.le_trans (Nat.le_of_lt hpz) B3.out.size)).mono ?_; rintro en w8 ⟨rfl, hb, hk⟩; rw [sp_data] at hb; have hk := ((KeptB.draw pb w7).trans (KeptB.of_below B3.out (Nat.le_of_lt hpz))).trans hk; have HT8 := hide (HT7.out.kept hk); have HB8 := hide hb; have HK8 := hide (HK7.out.trans hk); have HN8 := hide (hk.blk HN7.out hqp (by decide)); have SK3 : Hid (w8.cell? ⟨q, 0, none⟩ = some (.int .i64 op)) := HN8.out.cell 0; clear hb hk))
    clear SD HB7 HT7 HK7 HN7 hpz hql2 ha1 ha2
    have SD : Hid (w8.drew.cell? ⟨pw, 0, none⟩ = some (.func (.func 71) #[] #[.pointer (some ⟨pe, 0, none⟩), .pointer (some ⟨pb, 0, none⟩), .pointer (some ⟨pw, 0, none⟩)]) ∧ w8.drew.cell? ⟨q, 3, none⟩ = some (.slice (some ⟨bk, offk, none⟩) 2 kc) ∧ w8.drew.cell? ⟨bk, offk + 1, none⟩ = some (.int .i64 (v1))) := ⟨HT8.out.self.cell 0, HN8.out.cell 3, (HK8.out.bel.cell (p := ⟨bk, offk + 1, none⟩) hbk).trans GK1.out⟩
    go_upto_region 22 with (fail)
    go_region_held3 (fun w' => w'.cell? ⟨pw, 0, none⟩ = some (.func (.func 71) #[] #[.pointer (some ⟨pe, 0, none⟩), .pointer (some ⟨pb, 0, none⟩), .pointer (some ⟨pw, 0, none⟩)]) ∧ w'.cell? ⟨q, 3, none⟩ = some (.slice (some ⟨bk, offk, none⟩) 2 kc) ∧ w'.cell? ⟨bk, offk + 1, none⟩ = some (.int .i64 (v1)))
      (first | exact SD.out | exact SK.out)
      (first | (go_at_call 71; rw [HV1.out]; refine (IH.out b ha1 hg1 (Kb) 2 hat1 hke1 (by omega) (by omega) (bs0 ++ a.str 2 ++ (32 :: ((infixT op).data.toList ++ [32]))) w8.drew (by  (try simp only [List.length_append, List.length_cons, List.length_nil]); omega) (HT8.out.kept (KeptB.draw pb w8)) HB8.out.draw).mono ?_; rintro en w9 ⟨rfl, hb, hk⟩; have hk := (KeptB.draw pb w8).trans hk; have HT9 := hide (HT8.out.kept hk); have HB9 := hide hb; have HK9 := hide (HK8.out.trans hk); have HN9 := hide (hk.blk HN8.out hqp (by decide)); have SK : Hid (w9.cell? ⟨pw, 0, none⟩ = some (.func (.func 71) #[] #[.pointer (some ⟨pe, 0, none⟩), .pointer (some ⟨pb, 0, none⟩), .pointer (some ⟨pw, 0, none⟩)]) ∧ w9.cell? ⟨q, 3, none⟩ = some (.slice (some ⟨bk, offk, none⟩) 2 kc) ∧ w9.cell? ⟨bk, offk + 1, none⟩ = some (.int .i64 (v1))) := ⟨HT9.out.self.cell 0, HN9.out.cell 3, (HK9.out.bel.cell (p := ⟨bk, offk + 1, none⟩) hbk).trans GK1.out⟩; clear hb hk))
    clear SD HB8 HT8 HK8 HN8
    have hls1 := str_len b hg1 2
    go_wp2
    exact FIN.out _ _ _ rfl (by simpa only [List.append_assoc, List.cons_append, List.nil_append] using HB9.out) HK9.out (by  (try simp only [List.length_append, List.length_cons, List.length_nil]); omega)

set_option maxHeartbeats 8000000 in
set_option maxRecDepth 100000 in
theorem txt_sum {N : Nat} (IH0 : TIH pe pb pw A c e N) {op : Int} (hop1 : op = 3 ∨ op = 4) (a : Tr) (ha0 : a.size < N) (hg0 : a.good) {Ka : Nat} (hat0 : AtL e Ka (a.flat Ka)) {v0 : Int} (hv0 : v0 = ((Ka + a.size - 1 : Nat) : Int)) (hke0 : Ka + a.size ≤ e.length) (b : Tr) (ha1 : b.size < N) (hg1 : b.good) {Kb : Nat} (hat1 : AtL e Kb (b.flat Kb)) {v1 : Int} (hv1 : v1 = ((Kb + b.size - 1 : Nat) : Int)) (hke1 : Kb + b.size ≤ e.length) {idx m : Nat} (hx : nodAt e idx = ⟨op, 0, ByteArray.empty, [v0, v1]⟩) (hidx : idx < e.length) (hm1 : 1 ≤ m) (hm5 : m ≤ 5) (hen : ∀ x ∈ e, x.name.size ≤ maxLen) (he3 : e.length ≤ 300) :
    TGo pe pb pw A c e (a.size + b.size + 1) idx m (parenS 2 m (a.str 2 ++ (32 :: ((infixT op).data.toList ++ (32 :: b.str 3))))) := by
  intro bs w hlen hT hB
  have IH := hide IH0
  have hpos := hT.pos
  have hone := hT.one
  have htwo := hT.two
  have hselfl := hT.self.lt
  have HT := hide hT
  have HB := hide hB
  obtain ⟨be, offe, K', kc, rfl, hbe, x0, x1, x2, x3, hKd⟩ := hT.ex.at_ hidx
  rw [hx] at x0 x1 x2 x3 hKd
  have hname : ByteArray.empty.size ≤ maxLen := by
    have := hen _ (List.mem_of_getElem? (nodAt_get hidx))
    rw [hx] at this
    exact this
  have hnmlen : ByteArray.empty.size ≤ 24 := Nat.zero_le _
  have x0 : w.cell? ⟨be, offe + idx * 4, none⟩ = some (.int .i64 op) := x0
  have x1 : w.cell? ⟨be, offe + idx * 4 + 1, none⟩ = some (.int .i64 0) := x1
  have x2 : w.cell? ⟨be, offe + idx * 4 + 2, none⟩ = some (.string ByteArray.empty) := x2
  have x3 : w.cell? ⟨be, offe + idx * 4 + 3, none⟩ = some (.slice K' 2 kc) := x3
  have hKd : RI w pb K' 2 [v0, v1] := hKd
  have p0 : w.cell? ⟨pe, 0, none⟩ = some (.slice (some ⟨be, offe, none⟩) e.length c) := hT.box.cell 0
  obtain ⟨bk, offk, rfl, hbk, gk0⟩ := hKd.at_ (k := 0) (by decide)
  have GK0 : Hid (w.cell? ⟨bk, offk, none⟩ = some (.int .i64 (v0))) := gk0
  have GK1 : Hid (w.cell? ⟨bk, offk + 1, none⟩ = some (.int .i64 (v1))) := hide (by
    obtain ⟨b2, o2, hA2, _, g2⟩ := hKd.at_ (k := 1) (by decide)
    injection hA2 with hA2
    injection hA2 with h1 h2
    rw [h1, h2]
    exact g2)
  clear gk0
  have hB5 : Blk (w.alloc (Obj.cells #[.int .i64 op, .int .i64 0, .string ByteArray.empty, .slice (some ⟨bk, offk, none⟩) 2 kc] 56)) w.heap.size 56 #[.int .i64 op, .int .i64 0, .string ByteArray.empty, .slice (some ⟨bk, offk, none⟩) 2 kc] := Blk.new _ _ _
  have hb5 : Below w.heap.size w (w.alloc (Obj.cells #[.int .i64 op, .int .i64 0, .string ByteArray.empty, .slice (some ⟨bk, offk, none⟩) 2 kc] 56)) := (Below.refl _ _).alloc (Nat.le_refl _) _
  have HV0 := hide hv0
  have HV1 := hide hv1
  clear hT hB hKd IH0 hx hv0 hv1
  have hop : op = 10 ∨ op = 11 ∨ op = 3 ∨ op = 4 ∨ op = 5 ∨ op = 6 := by omega
  go_enter_defers Tryz.func71, Tryz.ntmps71
  go_upto_region 1 with (fail)
  generalize w.alloc (Obj.cells #[.int .i64 op, .int .i64 0, .string ByteArray.empty, .slice (some ⟨bk, offk, none⟩) 2 kc] 56) = w5 at hB5 hb5 ⊢
  have HK5 := hide (KeptB.of_below (pb := pb) hb5 (Nat.le_of_lt hpos))
  have HT5 := hide (HT.out.kept HK5.out)
  have HB5 := hide (HB.out.below hb5)
  have HN5 := hide hB5
  have hql := hB5.lt
  have hqp : w.heap.size ≠ pb := by omega
  have y0 : w5.cell? ⟨w.heap.size, 0, none⟩ = some (.int .i64 op) := hB5.cell 0
  clear x0 x1 x2 x3 p0 hB5 hb5
  generalize w.heap.size = q at HN5 hql hqp y0 hpos hselfl ⊢
  go_wp2_with fail
  refine (strength_any _ w5).mono ?_
  rintro en w' ⟨rfl, rfl⟩
  rw [show strength op = ((2 : Nat) : Int) from by rcases hop1 with rfl | rfl <;> decide]
  have hlp := HT5.out.pos
  clear y0
  by_cases hlt : 2 < m
  · have d1 : decide (((2 : Nat) : Int) < (m : Int)) = true := decide_eq_true (by omega)
    go_wp2_with fail
    refine (txt_write pb bs ⟨#[40]⟩ w5 HB5.out (by show bs.length + 1 ≤ 1000000; omega) (Nat.le_of_lt hlp)).mono ?_
    rintro en w6 ⟨rfl, hb6, hk6⟩
    have HT6 := hide (HT5.out.kept hk6)
    have HB6 : Hid (BuiF pb pb (Lib.byteCells (bs ++ [40])) w6) := hide hb6
    have HK6 := hide (HK5.out.trans hk6)
    have HN6 := hide (hk6.blk HN5.out hqp (by decide))
    obtain ⟨bs0, hbs0⟩ : ∃ bs0, bs0 = bs ++ [40] := ⟨_, rfl⟩
    rw [← hbs0] at HB6
    have hl0 : bs0.length ≤ bs.length + 1 := by rw [hbs0]; simp
    have FIN : Hid (∀ (l : List UInt8) (tm : Array Value) (w' : World), l = a.str 2 ++ (32 :: ((infixT op).data.toList ++ (32 :: b.str 3))) → BuiF pb pb (Lib.byteCells (bs0 ++ l)) w' → KeptB pb w w' → bs0.length + l.length ≤ 200000 →
        Leaves Tryz.prog Tryz.f71 tm (TPost pb bs (parenS 2 m (a.str 2 ++ (32 :: ((infixT op).data.toList ++ (32 :: b.str 3))))) w) [{ target := .fn (.func 73) #[], args := #[.pointer (some ⟨pb, 0, none⟩), .string ⟨#[41]⟩] }] .returning w') := hide (fun l tm w' hl h1 h2 h3 => by
      subst hl
      refine leaves_cons (f := 73) (args := #[.pointer (some ⟨pb, 0, none⟩), .string ⟨#[41]⟩]) (by simp) (by simp [go_sem]) ?_
      refine (txt_writeD .returning pb _ ⟨#[41]⟩ w' h1 (by rw [List.length_append]; show _ + 1 ≤ 1000000; omega) (by have := h2.bel.size; have := HT.out.pos; omega)).mono ?_
      rintro en u' w'' ⟨rfl, rfl, h4, h5⟩
      refine ⟨.tuple #[], by simp [results, Tryz.results71, go_sem], rfl, ?_, h2.trans h5⟩
      have h4 : BuiF pb pb (Lib.byteCells (bs0 ++ (a.str 2 ++ (32 :: ((infixT op).data.toList ++ (32 :: b.str 3)))) ++ [41])) w'' := h4
      rw [hbs0] at h4
      unfold parenS
      rw [if_pos hlt]
      simpa using h4)
    clear hb6 hk6 HB5 HN5 HT5 HK5 hbs0
    go_upto_region 5 with (fail)
    have SD : Hid (w6.drew.cell? ⟨pw, 0, none⟩ = some (.func (.func 71) #[] #[.pointer (some ⟨pe, 0, none⟩), .pointer (some ⟨pb, 0, none⟩), .pointer (some ⟨pw, 0, none⟩)]) ∧ w6.drew.cell? ⟨q, 3, none⟩ = some (.slice (some ⟨bk, offk, none⟩) 2 kc) ∧ w6.drew.cell? ⟨bk, offk, none⟩ = some (.int .i64 (v0))) := ⟨HT6.out.self.cell 0, HN6.out.cell 3, (HK6.out.bel.cell (p := ⟨bk, offk, none⟩) hbk).trans GK0.out⟩
    go_upto_region 25 with (fail)
    go_region_held3 (fun w' => w'.cell? ⟨pw, 0, none⟩ = some (.func (.func 71) #[] #[.pointer (some ⟨pe, 0, none⟩), .pointer (some ⟨pb, 0, none⟩), .pointer (some ⟨pw, 0, none⟩)]) ∧ w'.cell? ⟨q, 3, none⟩ = some (.slice (some ⟨bk, offk, none⟩) 2 kc) ∧ w'.cell? ⟨bk, offk, none⟩ = some (.int .i64 (v0)))
      (first | exact SD.out | exact SK.out)
      (first | (go_at_call 71; rw [HV0.out]; refine (IH.out a ha0 hg0 (Ka) 2 hat0 hke0 (by omega) (by omega) (bs0) w6.drew (by  (try simp only [List.length_append, List.length_cons, List.length_nil]); omega) (HT6.out.kept (KeptB.draw pb w6)) HB6.out.draw).mono ?_; rintro en w7 ⟨rfl, hb, hk⟩; have hk := (KeptB.draw pb w6).trans hk; have HT7 := hide (HT6.out.kept hk); have HB7 := hide hb; have HK7 := hide (HK6.out.trans hk); have HN7 := hide (hk.blk HN6.out hqp (by decide)); have SK : Hid (w7.cell? ⟨pw, 0, none⟩ = some (.func (.func 71) #[] #[.pointer (some ⟨pe, 0, none⟩), .pointer (some ⟨pb, 0, none⟩), .pointer (some ⟨pw, 0, none⟩)]) ∧ w7.cell? ⟨q, 3, none⟩ = some (.slice (some ⟨bk, offk, none⟩) 2 kc) ∧ w7.cell? ⟨bk, offk, none⟩ = some (.int .i64 (v0))) := ⟨HT7.out.self.cell 0, HN7.out.cell 3, (HK7.out.bel.cell (p := ⟨bk, offk, none⟩) hbk).trans GK0.out⟩; clear hb hk))
    clear SD HB6 HT6 HK6 HN6
    have hls0 := str_len a hg0 2
    have SD : Hid (w7.drew.cell? ⟨q, 0, none⟩ = some (.int .i64 op)) := HN7.out.cell 0
    have hpz := HT7.out.pos
    have hql2 := HN7.out.lt
    have hsl := infix_len op
    have hsz : (infixT op).size ≤ 2 := by have := hsl; rw [Array.length_toList] at this; exact this
    have ha1 : ∀ w : World, (Op.stringOp .add ⟨#[32]⟩ (infixT op)).run Tryz.prog w = .ok (.string (⟨#[32]⟩ ++ infixT op)) w := fun w => sp1_run hsz w
    have ha2 : ∀ w : World, (Op.stringOp .add (⟨#[32]⟩ ++ infixT op) ⟨#[32]⟩).run Tryz.prog w = .ok (.string (⟨#[32]⟩ ++ infixT op ++ ⟨#[32]⟩)) w := fun w => sp2_run hsz w
    go_upto_region 26 with (fail)
    go_region_held3 (fun w' => w'.cell? ⟨q, 0, none⟩ = some (.int .i64 op)) (first | exact SD.out | exact SK1.out | exact SK2.out | exact SK3.out)
      (first
        | (go_at_call 75; refine (infix_map w7.drew).mono ?_; rintro en u1 ⟨rfl, p2, b2⟩; have P2 := hide p2; have B2 := hide b2; have SK1 : Hid (u1.cell? ⟨q, 0, none⟩ = some (.int .i64 op)) := (b2.cell (p := ⟨q, 0, none⟩) hql2).trans SD.out; clear p2 b2)
        | (go_at_call 74; refine (infixSym_any _ 6 op u1 P2.out hop).mono ?_; rintro en u2 ⟨rfl, b3⟩; have B3 := hide (B2.out.trans (b3.mono B2.out.size)); have SK2 : Hid (u2.cell? ⟨q, 0, none⟩ = some (.int .i64 op)) := (b3.cell (p := ⟨q, 0, none⟩) (Nat.lt_of_lt_of_le hql2 B2.out.size)).trans SK1.out; clear b3)
        | (go_at_call 73; refine (txt_write pb (bs0 ++ a.str 2) _ u2 (HB7.out.draw.below B3.out) (by rw [sp_size]; (try simp only [List.length_append, List.length_cons, List.length_nil]); omega) (Nat.le_trans (Nat.le_of_lt hpz) B3.out.size)).mono ?_; rintro en w8 ⟨rfl, hb, hk⟩; rw [sp_data] at hb; have hk := ((KeptB.draw pb w7).trans (KeptB.of_below B3.out (Nat.le_of_lt hpz))).trans hk; have HT8 := hide (HT7.out.kept hk); have HB8 := hide hb; have HK8 := hide (HK7.out.trans hk); have HN8 := hide (hk.blk HN7.out hqp (by decide)); have SK3 : Hid (w8.cell? ⟨q, 0, none⟩ = some (.int .i64 op)) := HN8.out.cell 0; clear hb hk))
    clear SD HB7 HT7 HK7 HN7 hpz hql2 ha1 ha2
    have SD : Hid (w8.drew.cell? ⟨pw, 0, none⟩ = some (.func (.func 71) #[] #[.pointer (some ⟨pe, 0, none⟩), .pointer (some ⟨pb, 0, none⟩), .pointer (some ⟨pw, 0, none⟩)]) ∧ w8.drew.cell? ⟨q, 3, none⟩ = some (.slice (some ⟨bk, offk, none⟩) 2 kc) ∧ w8.drew.cell? ⟨bk, offk + 1, none⟩ = some (.int .i64 (v1))) := ⟨HT8.out.self.cell 0, HN8.out.cell 3, (HK8.out.bel.cell (p := ⟨bk, offk + 1, none⟩) hbk).trans GK1.out⟩
    go_upto_region 27 with (fail)
    go_region_held3 (fun w' => w'.cell? ⟨pw, 0, none⟩ = some (.func (.func 71) #[] #[.pointer (some ⟨pe, 0, none⟩), .pointer (some ⟨pb, 0, none⟩), .pointer (some ⟨pw, 0, none⟩)]) ∧ w'.cell? ⟨q, 3, none⟩ = some (.slice (some ⟨bk, offk, none⟩) 2 kc) ∧ w'.cell? ⟨bk, offk + 1, none⟩ = some (.int .i64 (v1)))
      (first | exact SD.out | exact SK.out)
      (first | (go_at_call 71; rw [HV1.out]; refine (IH.out b ha1 hg1 (Kb) 3 hat1 hke1 (by omega) (by omega) (bs0 ++ a.str 2 ++ (32 :: ((infixT op).data.toList ++ [32]))) w8.drew (by  (try simp only [List.length_append, List.length_cons, List.length_nil]); omega) (HT8.out.kept (KeptB.draw pb w8)) HB8.out.draw).mono ?_; rintro en w9 ⟨rfl, hb, hk⟩; have hk := (KeptB.draw pb w8).trans hk; have HT9 := hide (HT8.out.kept hk); have HB9 := hide hb; have HK9 := hide (HK8.out.trans hk); have HN9 := hide (hk.blk HN8.out hqp (by decide)); have SK : Hid (w9.cell? ⟨pw, 0, none⟩ = some (.func (.func 71) #[] #[.pointer (some ⟨pe, 0, none⟩), .pointer (some ⟨pb, 0, none⟩), .pointer (some ⟨pw, 0, none⟩)]) ∧ w9.cell? ⟨q, 3, none⟩ = some (.slice (some ⟨bk, offk, none⟩) 2 kc) ∧ w9.cell? ⟨bk, offk + 1, none⟩ = some (.int .i64 (v1))) := ⟨HT9.out.self.cell 0, HN9.out.cell 3, (HK9.out.bel.cell (p := ⟨bk, offk + 1, none⟩) hbk).trans GK1.out⟩; clear hb hk))
    clear SD HB8 HT8 HK8 HN8
    have hls1 := str_len b hg1 3
    go_wp2
    exact FIN.out _ _ _ rfl (by simpa only [List.append_assoc, List.cons_append, List.nil_append] using HB9.out) HK9.out (by  (try simp only [List.length_append, List.length_cons, List.length_nil]); omega)
  · have d1 : decide (((2 : Nat) : Int) < (m : Int)) = false := decide_eq_false (by omega)
    obtain ⟨w6, hw6⟩ : ∃ w6, w6 = w5 := ⟨_, rfl⟩
    subst hw6
    have HT6 := HT5
    have HB6 := HB5
    have HK6 := HK5
    have HN6 := HN5
    obtain ⟨bs0, hbs0⟩ : ∃ bs0, bs0 = bs := ⟨_, rfl⟩
    rw [← hbs0] at HB6
    have hl0 : bs0.length ≤ bs.length + 1 := by rw [hbs0]; omega
    have FIN : Hid (∀ (l : List UInt8) (tm : Array Value) (w' : World), l = a.str 2 ++ (32 :: ((infixT op).data.toList ++ (32 :: b.str 3))) → BuiF pb pb (Lib.byteCells (bs0 ++ l)) w' → KeptB pb w w' → bs0.length + l.length ≤ 200000 →
        Leaves Tryz.prog Tryz.f71 tm (TPost pb bs (parenS 2 m (a.str 2 ++ (32 :: ((infixT op).data.toList ++ (32 :: b.str 3))))) w) [] .returning w') := hide (fun l tm w' hl h1 h2 h3 => by
      subst hl
      refine ⟨.tuple #[], by simp [results, Tryz.results71, go_sem], rfl, ?_, h2⟩
      rw [hbs0] at h1
      unfold parenS
      rw [if_neg hlt]
      exact h1)
    clear HB5 HN5 HT5 HK5 hbs0
    go_upto_region 5 with (fail)
    have SD : Hid (w6.drew.cell? ⟨pw, 0, none⟩ = some (.func (.func 71) #[] #[.pointer (some ⟨pe, 0, none⟩), .pointer (some ⟨pb, 0, none⟩), .pointer (some ⟨pw, 0, none⟩)]) ∧ w6.drew.cell? ⟨q, 3, none⟩ = some (.slice (some ⟨bk, offk, none⟩) 2 kc) ∧ w6.drew.cell? ⟨bk, offk, none⟩ = some (.int .i64 (v0))) := ⟨HT6.out.self.cell 0, HN6.out.cell 3, (HK6.out.bel.cell (p := ⟨bk, offk, none⟩) hbk).trans GK0.out⟩
    go_upto_region 25 with (fail)
    go_region_held3 (fun w' => w'.cell? ⟨pw, 0, none⟩ = some (.func (.func 71) #[] #[.pointer (some ⟨pe, 0, none⟩), .pointer (some ⟨pb, 0, none⟩), .pointer (some ⟨pw, 0, none⟩)]) ∧ w'.cell? ⟨q, 3, none⟩ = some (.slice (some ⟨bk, offk, none⟩) 2 kc) ∧ w'.cell? ⟨bk, offk, none⟩ = some (.int .i64 (v0)))
      (first | exact SD.out | exact SK.out)
      (first | (go_at_call 71; rw [HV0.out]; refine (IH.out a ha0 hg0 (Ka) 2 hat0 hke0 (by omega) (by omega) (bs0) w6.drew (by  (try simp only [List.length_append, List.length_cons, List.length_nil]); omega) (HT6.out.kept (KeptB.draw pb w6)) HB6.out.draw).mono ?_; rintro en w7 ⟨rfl, hb, hk⟩; have hk := (KeptB.draw pb w6).trans hk; have HT7 := hide (HT6.out.kept hk); have HB7 := hide hb; have HK7 := hide (HK6.out.trans hk); have HN7 := hide (hk.blk HN6.out hqp (by decide)); have SK : Hid (w7.cell? ⟨pw, 0, none⟩ = some (.func (.func 71) #[] #[.pointer (some ⟨pe, 0, none⟩), .pointer (some ⟨pb, 0, none⟩), .pointer (some ⟨pw, 0, none⟩)]) ∧ w7.cell? ⟨q, 3, none⟩ = some (.slice (some ⟨bk, offk, none⟩) 2 kc) ∧ w7.cell? ⟨bk, offk, none⟩ = some (.int .i64 (v0))) := ⟨HT7.out.self.cell 0, HN7.out.cell 3, (HK7.out.bel.cell (p := ⟨bk, offk, none⟩) hbk).trans GK0.out⟩; clear hb hk))
    clear SD HB6 HT6 HK6 HN6
    have hls0 := str_len a hg0 2
    have SD : Hid (w7.drew.cell? ⟨q, 0, none⟩ = some (.int .i64 op)) := HN7.out.cell 0
    have hpz := HT7.out.pos
    have hql2 := HN7.out.lt
    have hsl := infix_len op
    have hsz : (infixT op).size ≤ 2 := by have := hsl; rw [Array.length_toList] at this; exact this
    have ha1 : ∀ w : World, (Op.stringOp .add ⟨#[32]⟩ (infixT op)).run Tryz.prog w = .ok (.string (⟨#[32]⟩ ++ infixT op)) w := fun w => sp1_run hsz w
    have ha2 : ∀ w : World, (Op.stringOp .add (⟨#[32]⟩ ++ infixT op) ⟨#[32]⟩).run Tryz.prog w = .ok (.string (⟨#[32]⟩ ++ infixT op ++ ⟨#[32]⟩)) w := fun w => sp2_run hsz w
    go_upto_region 26 with (fail)
    go_region_held3 (fun w' => w'.cell? ⟨q, 0, none⟩ = some (.int .i64 op)) (first | exact SD.out | exact SK1.out | exact SK2.out | exact SK3.out)
      (first
        | (go_at_call 75; refine (infix_map w7.drew).mono ?_; rintro en u1 ⟨rfl, p2, b2⟩; have P2 := hide p2; have B2 := hide b2; have SK1 : Hid (u1.cell? ⟨q, 0, none⟩ = some (.int .i64 op)) := (b2.cell (p := ⟨q, 0, none⟩) hql2).trans SD.out; clear p2 b2)
        | (go_at_call 74; refine (infixSym_any _ 6 op u1 P2.out hop).mono ?_; rintro en u2 ⟨rfl, b3⟩; have B3 := hide (B2.out.trans (b3.mono B2.out.size)); have SK2 : Hid (u2.cell? ⟨q, 0, none⟩ = some (.int .i64 op)) := (b3.cell (p := ⟨q, 0, none⟩) (Nat.lt_of_lt_of_le hql2 B2.out.size)).trans SK1.out; clear b3)
        | (go_at_call 73; refine (txt_write pb (bs0 ++ a.str 2) _ u2 (HB7.out.draw.below B3.out) (by rw [sp_size]; (try simp only [List.length_append, List.length_cons, List.length_nil]); omega) (Nat.le_trans (Nat.le_of_lt hpz) B3.out.size)).mono ?_; rintro en w8 ⟨rfl, hb, hk⟩; rw [sp_data] at hb; have hk := ((KeptB.draw pb w7).trans (KeptB.of_below B3.out (Nat.le_of_lt hpz))).trans hk; have HT8 := hide (HT7.out.kept hk); have HB8 := hide hb; have HK8 := hide (HK7.out.trans hk); have HN8 := hide (hk.blk HN7.out hqp (by decide)); have SK3 : Hid (w8.cell? ⟨q, 0, none⟩ = some (.int .i64 op)) := HN8.out.cell 0; clear hb hk))
    clear SD HB7 HT7 HK7 HN7 hpz hql2 ha1 ha2
    have SD : Hid (w8.drew.cell? ⟨pw, 0, none⟩ = some (.func (.func 71) #[] #[.pointer (some ⟨pe, 0, none⟩), .pointer (some ⟨pb, 0, none⟩), .pointer (some ⟨pw, 0, none⟩)]) ∧ w8.drew.cell? ⟨q, 3, none⟩ = some (.slice (some ⟨bk, offk, none⟩) 2 kc) ∧ w8.drew.cell? ⟨bk, offk + 1, none⟩ = some (.int .i64 (v1))) := ⟨HT8.out.self.cell 0, HN8.out.cell 3, (HK8.out.bel.cell (p := ⟨bk, offk + 1, none⟩) hbk).trans GK1.out⟩
    go_upto_region 27 with (fail)
    go_region_held3 (fun w' => w'.cell? ⟨pw, 0, none⟩ = some (.func (.func 71) #[] #[.pointer (some ⟨pe, 0, none⟩), .pointer (some ⟨pb, 0, none⟩), .pointer (some ⟨pw, 0, none⟩)]) ∧ w'.cell? ⟨q, 3, none⟩ = some (.slice (some ⟨bk, offk, none⟩) 2 kc) ∧ w'.cell? ⟨bk, offk + 1, none⟩ = some (.int .i64 (v1)))
      (first | exact SD.out | exact SK.out)
      (first | (go_at_call 71; rw [HV1.out]; refine (IH.out b ha1 hg1 (Kb) 3 hat1 hke1 (by omega) (by omega) (bs0 ++ a.str 2 ++ (32 :: ((infixT op).data.toList ++ [32]))) w8.drew (by  (try simp only [List.length_append, List.length_cons, List.length_nil]); omega) (HT8.out.kept (KeptB.draw pb w8)) HB8.out.draw).mono ?_; rintro en w9 ⟨rfl, hb, hk⟩; have hk := (KeptB.draw pb w8).trans hk; have HT9 := hide (HT8.out.kept hk); have HB9 := hide hb; have HK9 := hide (HK8.out.trans hk); have HN9 := hide (hk.blk HN8.out hqp (by decide)); have SK : Hid (w9.cell? ⟨pw, 0, none⟩ = some (.func (.func 71) #[] #[.pointer (some ⟨pe, 0, none⟩), .pointer (some ⟨pb, 0, none⟩), .pointer (some ⟨pw, 0, none⟩)]) ∧ w9.cell? ⟨q, 3, none⟩ = some (.slice (some ⟨bk, offk, none⟩) 2 kc) ∧ w9.cell? ⟨bk, offk + 1, none⟩ = some (.int .i64 (v1))) := ⟨HT9.out.self.cell 0, HN9.out.cell 3, (HK9.out.bel.cell (p := ⟨bk, offk + 1, none⟩) hbk).trans GK1.out⟩; clear hb hk))
    clear SD HB8 HT8 HK8 HN8
    have hls1 := str_len b hg1 3
    go_wp2
    exact FIN.out _ _ _ rfl (by simpa only [List.append_assoc, List.cons_append, List.nil_append] using HB9.out) HK9.out (by  (try simp only [List.length_append, List.length_cons, List.length_nil]); omega)

set_option maxHeartbeats 8000000 in
set_option maxRecDepth 100000 in
theorem txt_prod {N : Nat} (IH0 : TIH pe pb pw A c e N) {op : Int} (hop1 : op = 5 ∨ op = 6) (a : Tr) (ha0 : a.size < N) (hg0 : a.good) {Ka : Nat} (hat0 : AtL e Ka (a.flat Ka)) {v0 : Int} (hv0 : v0 = ((Ka + a.size - 1 : Nat) : Int)) (hke0 : Ka + a.size ≤ e.length) (b : Tr) (ha1 : b.size < N) (hg1 : b.good) {Kb : Nat} (hat1 : AtL e Kb (b.flat Kb)) {v1 : Int} (hv1 : v1 = ((Kb + b.size - 1 : Nat) : Int)) (hke1 : Kb + b.size ≤ e.length) {idx m : Nat} (hx : nodAt e idx = ⟨op, 0, ByteArray.empty, [v0, v1]⟩) (hidx : idx < e.length) (hm1 : 1 ≤ m) (hm5 : m ≤ 5) (hen : ∀ x ∈ e, x.name.size ≤ maxLen) (he3 : e.length ≤ 300) :
    TGo pe pb pw A c e (a.size + b.size + 1) idx m (parenS 3 m (a.str 3 ++ (32 :: ((infixT op).data.toList ++ (32 :: b.str 4))))) := by
  intro bs w hlen hT hB
  have IH := hide IH0
  have hpos := hT.pos
  have hone := hT.one
  have htwo := hT.two
  have hselfl := hT.self.lt
  have HT := hide hT
  have HB := hide hB
  obtain ⟨be, offe, K', kc, rfl, hbe, x0, x1, x2, x3, hKd⟩ := hT.ex.at_ hidx
  rw [hx] at x0 x1 x2 x3 hKd
  have hname : ByteArray.empty.size ≤ maxLen := by
    have := hen _ (List.mem_of_getElem? (nodAt_get hidx))
    rw [hx] at this
    exact this
  have hnmlen : ByteArray.empty.size ≤ 24 := Nat.zero_le _
  have x0 : w.cell? ⟨be, offe + idx * 4, none⟩ = some (.int .i64 op) := x0
  have x1 : w.cell? ⟨be, offe + idx * 4 + 1, none⟩ = some (.int .i64 0) := x1
  have x2 : w.cell? ⟨be, offe + idx * 4 + 2, none⟩ = some (.string ByteArray.empty) := x2
  have x3 : w.cell? ⟨be, offe + idx * 4 + 3, none⟩ = some (.slice K' 2 kc) := x3
  have hKd : RI w pb K' 2 [v0, v1] := hKd
  have p0 : w.cell? ⟨pe, 0, none⟩ = some (.slice (some ⟨be, offe, none⟩) e.length c) := hT.box.cell 0
  obtain ⟨bk, offk, rfl, hbk, gk0⟩ := hKd.at_ (k := 0) (by decide)
  have GK0 : Hid (w.cell? ⟨bk, offk, none⟩ = some (.int .i64 (v0))) := gk0
  have GK1 : Hid (w.cell? ⟨bk, offk + 1, none⟩ = some (.int .i64 (v1))) := hide (by
    obtain ⟨b2, o2, hA2, _, g2⟩ := hKd.at_ (k := 1) (by decide)
    injection hA2 with hA2
    injection hA2 with h1 h2
    rw [h1, h2]
    exact g2)
  clear gk0
  have hB5 : Blk (w.alloc (Obj.cells #[.int .i64 op, .int .i64 0, .string ByteArray.empty, .slice (some ⟨bk, offk, none⟩) 2 kc] 56)) w.heap.size 56 #[.int .i64 op, .int .i64 0, .string ByteArray.empty, .slice (some ⟨bk, offk, none⟩) 2 kc] := Blk.new _ _ _
  have hb5 : Below w.heap.size w (w.alloc (Obj.cells #[.int .i64 op, .int .i64 0, .string ByteArray.empty, .slice (some ⟨bk, offk, none⟩) 2 kc] 56)) := (Below.refl _ _).alloc (Nat.le_refl _) _
  have HV0 := hide hv0
  have HV1 := hide hv1
  clear hT hB hKd IH0 hx hv0 hv1
  have hop : op = 10 ∨ op = 11 ∨ op = 3 ∨ op = 4 ∨ op = 5 ∨ op = 6 := by omega
  go_enter_defers Tryz.func71, Tryz.ntmps71
  go_upto_region 1 with (fail)
  generalize w.alloc (Obj.cells #[.int .i64 op, .int .i64 0, .string ByteArray.empty, .slice (some ⟨bk, offk, none⟩) 2 kc] 56) = w5 at hB5 hb5 ⊢
  have HK5 := hide (KeptB.of_below (pb := pb) hb5 (Nat.le_of_lt hpos))
  have HT5 := hide (HT.out.kept HK5.out)
  have HB5 := hide (HB.out.below hb5)
  have HN5 := hide hB5
  have hql := hB5.lt
  have hqp : w.heap.size ≠ pb := by omega
  have y0 : w5.cell? ⟨w.heap.size, 0, none⟩ = some (.int .i64 op) := hB5.cell 0
  clear x0 x1 x2 x3 p0 hB5 hb5
  generalize w.heap.size = q at HN5 hql hqp y0 hpos hselfl ⊢
  go_wp2_with fail
  refine (strength_any _ w5).mono ?_
  rintro en w' ⟨rfl, rfl⟩
  rw [show strength op = ((3 : Nat) : Int) from by rcases hop1 with rfl | rfl <;> decide]
  have hlp := HT5.out.pos
  clear y0
  by_cases hlt : 3 < m
  · have d1 : decide (((3 : Nat) : Int) < (m : Int)) = true := decide_eq_true (by omega)
    go_wp2_with fail
    refine (txt_write pb bs ⟨#[40]⟩ w5 HB5.out (by show bs.length + 1 ≤ 1000000; omega) (Nat.le_of_lt hlp)).mono ?_
    rintro en w6 ⟨rfl, hb6, hk6⟩
    have HT6 := hide (HT5.out.kept hk6)
    have HB6 : Hid (BuiF pb pb (Lib.byteCells (bs ++ [40])) w6) := hide hb6
    have HK6 := hide (HK5.out.trans hk6)
    have HN6 := hide (hk6.blk HN5.out hqp (by decide))
    obtain ⟨bs0, hbs0⟩ : ∃ bs0, bs0 = bs ++ [40] := ⟨_, rfl⟩
    rw [← hbs0] at HB6
    have hl0 : bs0.length ≤ bs.length + 1 := by rw [hbs0]; simp
    have FIN : Hid (∀ (l : List UInt8) (tm : Array Value) (w' : World), l = a.str 3 ++ (32 :: ((infixT op).data.toList ++ (32 :: b.str 4))) → BuiF pb pb (Lib.byteCells (bs0 ++ l)) w' → KeptB pb w w' → bs0.length + l.length ≤ 200000 →
        Leaves Tryz.prog Tryz.f71 tm (TPost pb bs (parenS 3 m (a.str 3 ++ (32 :: ((infixT op).data.toList ++ (32 :: b.str 4))))) w) [{ target := .fn (.func 73) #[], args := #[.pointer (some ⟨pb, 0, none⟩), .string ⟨#[41]⟩] }] .returning w') := hide (fun l tm w' hl h1 h2 h3 => by
      subst hl
      refine leaves_cons (f := 73) (args := #[.pointer (some ⟨pb, 0, none⟩), .string ⟨#[41]⟩]) (by simp) (by simp [go_sem]) ?_
      refine (txt_writeD .returning pb _ ⟨#[41]⟩ w' h1 (by rw [List.length_append]; show _ + 1 ≤ 1000000; omega) (by have := h2.bel.size; have := HT.out.pos; omega)).mono ?_
      rintro en u' w'' ⟨rfl, rfl, h4, h5⟩
      refine ⟨.tuple #[], by simp [results, Tryz.results71, go_sem], rfl, ?_, h2.trans h5⟩
      have h4 : BuiF pb pb (Lib.byteCells (bs0 ++ (a.str 3 ++ (32 :: ((infixT op).data.toList ++ (32 :: b.str 4)))) ++ [41])) w'' := h4
      rw [hbs0] at h4
      unfold parenS
      rw [if_pos hlt]
      simpa using h4)
    clear hb6 hk6 HB5 HN5 HT5 HK5 hbs0
    go_upto_region 5 with (fail)
    have SD : Hid (w6.drew.cell? ⟨pw, 0, none⟩ = some (.func (.func 71) #[] #[.pointer (some ⟨pe, 0, none⟩), .pointer (some ⟨pb, 0, none⟩), .pointer (some ⟨pw, 0, none⟩)]) ∧ w6.drew.cell? ⟨q, 3, none⟩ = some (.slice (some ⟨bk, offk, none⟩) 2 kc) ∧ w6.drew.cell? ⟨bk, offk, none⟩ = some (.int .i64 (v0))) := ⟨HT6.out.self.cell 0, HN6.out.cell 3, (HK6.out.bel.cell (p := ⟨bk, offk, none⟩) hbk).trans GK0.out⟩
    go_upto_region 25 with (fail)
    go_region_held3 (fun w' => w'.cell? ⟨pw, 0, none⟩ = some (.func (.func 71) #[] #[.pointer (some ⟨pe, 0, none⟩), .pointer (some ⟨pb, 0, none⟩), .pointer (some ⟨pw, 0, none⟩)]) ∧ w'.cell? ⟨q, 3, none⟩ = some (.slice (some ⟨bk, offk, none⟩) 2 kc) ∧ w'.cell? ⟨bk, offk, none⟩ = some (.int .i64 (v0)))
      (first | exact SD.out | exact SK.out)
      (first | (go_at_call 71; rw [HV0.out]; refine (IH.out a ha0 hg0 (Ka) 3 hat0 hke0 (by omega) (by omega) (bs0) w6.drew (by  (try simp only [List.length_append, List.length_cons, List.length_nil]); omega) (HT6.out.kept (KeptB.draw pb w6)) HB6.out.draw).mono ?_; rintro en w7 ⟨rfl, hb, hk⟩; have hk := (KeptB.draw pb w6).trans hk; have HT7 := hide (HT6.out.kept hk); have HB7 := hide hb; have HK7 := hide (HK6.out.trans hk); have HN7 := hide (hk.blk HN6.out hqp (by decide)); have SK : Hid (w7.cell? ⟨pw, 0, none⟩ = some (.func (.func 71) #[] #[.pointer (some ⟨pe, 0, none⟩), .pointer (some ⟨pb, 0, none⟩), .pointer (some ⟨pw, 0, none⟩)]) ∧ w7.cell? ⟨q, 3, none⟩ = some (.slice (some ⟨bk, offk, none⟩) 2 kc) ∧ w7.cell? ⟨bk, offk, none⟩ = some (.int .i64 (v0))) := ⟨HT7.out.self.cell 0, HN7.out.cell 3, (HK7.out.bel.cell (p := ⟨bk, offk, none⟩) hbk).trans GK0.out⟩; clear hb hk))
    clear SD HB6 HT6 HK6 HN6
    have hls0 := str_len a hg0 3
    have SD : Hid (w7.drew.cell? ⟨q, 0, none⟩ = some (.int .i64 op)) := HN7.out.cell 0
    have hpz := HT7.out.pos
    have hql2 := HN7.out.lt
    have hsl := infix_len op
    have hsz : (infixT op).size ≤ 2 := by have := hsl; rw [Array.length_toList] at this; exact this
    have ha1 : ∀ w : World, (Op.stringOp .add ⟨#[32]⟩ (infixT op)).run Tryz.prog w = .ok (.string (⟨#[32]⟩ ++ infixT op)) w := fun w => sp1_run hsz w
    have ha2 : ∀ w : World, (Op.stringOp .add (⟨#[32]⟩ ++ infixT op) ⟨#[32]⟩).run Tryz.prog w = .ok (.string (⟨#[32]⟩ ++ infixT op ++ ⟨#[32]⟩)) w := fun w => sp2_run hsz w
    go_upto_region 26 with (fail)
    go_region_held3 (fun w' => w'.cell? ⟨q, 0, none⟩ = some (.int .i64 op)) (first | exact SD.out | exact SK1.out | exact SK2.out | exact SK3.out)
      (first
        | (go_at_call 75; refine (infix_map w7.drew).mono ?_; rintro en u1 ⟨rfl, p2, b2⟩; have P2 := hide p2; have B2 := hide b2; have SK1 : Hid (u1.cell? ⟨q, 0, none⟩ = some (.int .i64 op)) := (b2.cell (p := ⟨q, 0, none⟩) hql2).trans SD.out; clear p2 b2)
        | (go_at_call 74; refine (infixSym_any _ 6 op u1 P2.out hop).mono ?_; rintro en u2 ⟨rfl, b3⟩; have B3 := hide (B2.out.trans (b3.mono B2.out.size)); have SK2 : Hid (u2.cell? ⟨q, 0, none⟩ = some (.int .i64 op)) := (b3.cell (p := ⟨q, 0, none⟩) (Nat.lt_of_lt_of_le hql2 B2.out.size)).trans SK1.out; clear b3)
        | (go_at_call 73; refine (txt_write pb (bs0 ++ a.str 3) _ u2 (HB7.out.draw.below B3.out) (by rw [sp_size]; (try simp only [List.length_append, List.length_cons, List.length_nil]); omega) (Nat.le_trans (Nat.le_of_lt hpz) B3.out.size)).mono ?_; rintro en w8 ⟨rfl, hb, hk⟩; rw [sp_data] at hb; have hk := ((KeptB.draw pb w7).trans (KeptB.of_below B3.out (Nat.le_of_lt hpz))).trans hk; have HT8 := hide (HT7.out.kept hk); have HB8 := hide hb; have HK8 := hide (HK7.out.trans hk); have HN8 := hide (hk.blk HN7.out hqp (by decide)); have SK3 : Hid (w8.cell? ⟨q, 0, none⟩ = some (.int .i64 op)) := HN8.out.cell 0; clear hb hk))
    clear SD HB7 HT7 HK7 HN7 hpz hql2 ha1 ha2
    have SD : Hid (w8.drew.cell? ⟨pw, 0, none⟩ = some (.func (.func 71) #[] #[.pointer (some ⟨pe, 0, none⟩), .pointer (some ⟨pb, 0, none⟩), .pointer (some ⟨pw, 0, none⟩)]) ∧ w8.drew.cell? ⟨q, 3, none⟩ = some (.slice (some ⟨bk, offk, none⟩) 2 kc) ∧ w8.drew.cell? ⟨bk, offk + 1, none⟩ = some (.int .i64 (v1))) := ⟨HT8.out.self.cell 0, HN8.out.cell 3, (HK8.out.bel.cell (p := ⟨bk, offk + 1, none⟩) hbk).trans GK1.out⟩
    go_upto_region 27 with (fail)
    go_region_held3 (fun w' => w'.cell? ⟨pw, 0, none⟩ = some (.func (.func 71) #[] #[.pointer (some ⟨pe, 0, none⟩), .pointer (some ⟨pb, 0, none⟩), .pointer (some ⟨pw, 0, none⟩)]) ∧ w'.cell? ⟨q, 3, none⟩ = some (.slice (some ⟨bk, offk, none⟩) 2 kc) ∧ w'.cell? ⟨bk, offk + 1, none⟩ = some (.int .i64 (v1)))
      (first | exact SD.out | exact SK.out)
      (first | (go_at_call 71; rw [HV1.out]; refine (IH.out b ha1 hg1 (Kb) 4 hat1 hke1 (by omega) (by omega) (bs0 ++ a.str 3 ++ (32 :: ((infixT op).data.toList ++ [32]))) w8.drew (by  (try simp only [List.length_append, List.length_cons, List.length_nil]); omega) (HT8.out.kept (KeptB.draw pb w8)) HB8.out.draw).mono ?_; rintro en w9 ⟨rfl, hb, hk⟩; have hk := (KeptB.draw pb w8).trans hk; have HT9 := hide (HT8.out.kept hk); have HB9 := hide hb; have HK9 := hide (HK8.out.trans hk); have HN9 := hide (hk.blk HN8.out hqp (by decide)); have SK : Hid (w9.cell? ⟨pw, 0, none⟩ = some (.func (.func 71) #[] #[.pointer (some ⟨pe, 0, none⟩), .pointer (some ⟨pb, 0, none⟩), .pointer (some ⟨pw, 0, none⟩)]) ∧ w9.cell? ⟨q, 3, none⟩ = some (.slice (some ⟨bk, offk, none⟩) 2 kc) ∧ w9.cell? ⟨bk, offk + 1, none⟩ = some (.int .i64 (v1))) := ⟨HT9.out.self.cell 0, HN9.out.cell 3, (HK9.out.bel.cell (p := ⟨bk, offk + 1, none⟩) hbk).trans GK1.out⟩; clear hb hk))
    clear SD HB8 HT8 HK8 HN8
    have hls1 := str_len b hg1 4
    go_wp2
    exact FIN.out _ _ _ rfl (by simpa only [List.append_assoc, List.cons_append, List.nil_append] using HB9.out) HK9.out (by  (try simp only [List.length_append, List.length_cons, List.length_nil]); omega)
  · have d1 : decide (((3 : Nat) : Int) < (m : Int)) = false := decide_eq_false (by omega)
    obtain ⟨w6, hw6⟩ : ∃ w6, w6 = w5 := ⟨_, rfl⟩
    subst hw6
    have HT6 := HT5
    have HB6 := HB5
    have HK6 := HK5
    have HN6 := HN5
    obtain ⟨bs0, hbs0⟩ : ∃ bs0, bs0 = bs := ⟨_, rfl⟩
    rw [← hbs0] at HB6
    have hl0 : bs0.length ≤ bs.length + 1 := by rw [hbs0]; omega
    have FIN : Hid (∀ (l : List UInt8) (tm : Array Value) (w' : World), l = a.str 3 ++ (32 :: ((infixT op).data.toList ++ (32 :: b.str 4))) → BuiF pb pb (Lib.byteCells (bs0 ++ l)) w' → KeptB pb w w' → bs0.length + l.length ≤ 200000 →
        Leaves Tryz.prog Tryz.f71 tm (TPost pb bs (parenS 3 m (a.str 3 ++ (32 :: ((infixT op).data.toList ++ (32 :: b.str 4))))) w) [] .returning w') := hide (fun l tm w' hl h1 h2 h3 => by
      subst hl
      refine ⟨.tuple #[], by simp [results, Tryz.results71, go_sem], rfl, ?_, h2⟩
      rw [hbs0] at h1
      unfold parenS
      rw [if_neg hlt]
      exact h1)
    clear HB5 HN5 HT5 HK5 hbs0
    go_upto_region 5 with (fail)
    have SD : Hid (w6.drew.cell? ⟨pw, 0, none⟩ = some (.func (.func 71) #[] #[.pointer (some ⟨pe, 0, none⟩), .pointer (some ⟨pb, 0, none⟩), .pointer (some ⟨pw, 0, none⟩)]) ∧ w6.drew.cell? ⟨q, 3, none⟩ = some (.slice (some ⟨bk, offk, none⟩) 2 kc) ∧ w6.drew.cell? ⟨bk, offk, none⟩ = some (.int .i64 (v0))) := ⟨HT6.out.self.cell 0, HN6.out.cell 3, (HK6.out.bel.cell (p := ⟨bk, offk, none⟩) hbk).trans GK0.out⟩
    go_upto_region 25 with (fail)
    go_region_held3 (fun w' => w'.cell? ⟨pw, 0, none⟩ = some (.func (.func 71) #[] #[.pointer (some ⟨pe, 0, none⟩), .pointer (some ⟨pb, 0, none⟩), .pointer (some ⟨pw, 0, none⟩)]) ∧ w'.cell? ⟨q, 3, none⟩ = some (.slice (some ⟨bk, offk, none⟩) 2 kc) ∧ w'.cell? ⟨bk, offk, none⟩ = some (.int .i64 (v0)))
      (first | exact SD.out | exact SK.out)
      (first | (go_at_call 71; rw [HV0.out]; refine (IH.out a ha0 hg0 (Ka) 3 hat0 hke0 (by omega) (by omega) (bs0) w6.drew (by  (try simp only [List.length_append, List.length_cons, List.length_nil]); omega) (HT6.out.kept (KeptB.draw pb w6)) HB6.out.draw).mono ?_; rintro en w7 ⟨rfl, hb, hk⟩; have hk := (KeptB.draw pb w6).trans hk; have HT7 := hide (HT6.out.kept hk); have HB7 := hide hb; have HK7 := hide (HK6.out.trans hk); have HN7 := hide (hk.blk HN6.out hqp (by decide)); have SK : Hid (w7.cell? ⟨pw, 0, none⟩ = some (.func (.func 71) #[] #[.pointer (some ⟨pe, 0, none⟩), .pointer (some ⟨pb, 0, none⟩), .pointer (some ⟨pw, 0, none⟩)]) ∧ w7.cell? ⟨q, 3, none⟩ = some (.slice (some ⟨bk, offk, none⟩) 2 kc) ∧ w7.cell? ⟨bk, offk, none⟩ = some (.int .i64 (v0))) := ⟨HT7.out.self.cell 0, HN7.out.cell 3, (HK7.out.bel.cell (p := ⟨bk, offk, none⟩) hbk).trans GK0.out⟩; clear hb hk))
    clear SD HB6 HT6 HK6 HN6
    have hls0 := str_len a hg0 3
    have SD : Hid (w7.drew.cell? ⟨q, 0, none⟩ = some (.int .i64 op)) := HN7.out.cell 0
    have hpz := HT7.out.pos
    have hql2 := HN7.out.lt
    have hsl := infix_len op
    have hsz : (infixT op).size ≤ 2 := by have := hsl; rw [Array.length_toList] at this; exact this
    have ha1 : ∀ w : World, (Op.stringOp .add ⟨#[32]⟩ (infixT op)).run Tryz.prog w = .ok (.string (⟨#[32]⟩ ++ infixT op)) w := fun w => sp1_run hsz w
    have ha2 : ∀ w : World, (Op.stringOp .add (⟨#[32]⟩ ++ infixT op) ⟨#[32]⟩).run Tryz.prog w = .ok (.string (⟨#[32]⟩ ++ infixT op ++ ⟨#[32]⟩)) w := fun w => sp2_run hsz w
    go_upto_region 26 with (fail)
    go_region_held3 (fun w' => w'.cell? ⟨q, 0, none⟩ = some (.int .i64 op)) (first | exact SD.out | exact SK1.out | exact SK2.out | exact SK3.out)
      (first
        | (go_at_call 75; refine (infix_map w7.drew).mono ?_; rintro en u1 ⟨rfl, p2, b2⟩; have P2 := hide p2; have B2 := hide b2; have SK1 : Hid (u1.cell? ⟨q, 0, none⟩ = some (.int .i64 op)) := (b2.cell (p := ⟨q, 0, none⟩) hql2).trans SD.out; clear p2 b2)
        | (go_at_call 74; refine (infixSym_any _ 6 op u1 P2.out hop).mono ?_; rintro en u2 ⟨rfl, b3⟩; have B3 := hide (B2.out.trans (b3.mono B2.out.size)); have SK2 : Hid (u2.cell? ⟨q, 0, none⟩ = some (.int .i64 op)) := (b3.cell (p := ⟨q, 0, none⟩) (Nat.lt_of_lt_of_le hql2 B2.out.size)).trans SK1.out; clear b3)
        | (go_at_call 73; refine (txt_write pb (bs0 ++ a.str 3) _ u2 (HB7.out.draw.below B3.out) (by rw [sp_size]; (try simp only [List.length_append, List.length_cons, List.length_nil]); omega) (Nat.le_trans (Nat.le_of_lt hpz) B3.out.size)).mono ?_; rintro en w8 ⟨rfl, hb, hk⟩; rw [sp_data] at hb; have hk := ((KeptB.draw pb w7).trans (KeptB.of_below B3.out (Nat.le_of_lt hpz))).trans hk; have HT8 := hide (HT7.out.kept hk); have HB8 := hide hb; have HK8 := hide (HK7.out.trans hk); have HN8 := hide (hk.blk HN7.out hqp (by decide)); have SK3 : Hid (w8.cell? ⟨q, 0, none⟩ = some (.int .i64 op)) := HN8.out.cell 0; clear hb hk))
    clear SD HB7 HT7 HK7 HN7 hpz hql2 ha1 ha2
    have SD : Hid (w8.drew.cell? ⟨pw, 0, none⟩ = some (.func (.func 71) #[] #[.pointer (some ⟨pe, 0, none⟩), .pointer (some ⟨pb, 0, none⟩), .pointer (some ⟨pw, 0, none⟩)]) ∧ w8.drew.cell? ⟨q, 3, none⟩ = some (.slice (some ⟨bk, offk, none⟩) 2 kc) ∧ w8.drew.cell? ⟨bk, offk + 1, none⟩ = some (.int .i64 (v1))) := ⟨HT8.out.self.cell 0, HN8.out.cell 3, (HK8.out.bel.cell (p := ⟨bk, offk + 1, none⟩) hbk).trans GK1.out⟩
    go_upto_region 27 with (fail)
    go_region_held3 (fun w' => w'.cell? ⟨pw, 0, none⟩ = some (.func (.func 71) #[] #[.pointer (some ⟨pe, 0, none⟩), .pointer (some ⟨pb, 0, none⟩), .pointer (some ⟨pw, 0, none⟩)]) ∧ w'.cell? ⟨q, 3, none⟩ = some (.slice (some ⟨bk, offk, none⟩) 2 kc) ∧ w'.cell? ⟨bk, offk + 1, none⟩ = some (.int .i64 (v1)))
      (first | exact SD.out | exact SK.out)
      (first | (go_at_call 71; rw [HV1.out]; refine (IH.out b ha1 hg1 (Kb) 4 hat1 hke1 (by omega) (by omega) (bs0 ++ a.str 3 ++ (32 :: ((infixT op).data.toList ++ [32]))) w8.drew (by  (try simp only [List.length_append, List.length_cons, List.length_nil]); omega) (HT8.out.kept (KeptB.draw pb w8)) HB8.out.draw).mono ?_; rintro en w9 ⟨rfl, hb, hk⟩; have hk := (KeptB.draw pb w8).trans hk; have HT9 := hide (HT8.out.kept hk); have HB9 := hide hb; have HK9 := hide (HK8.out.trans hk); have HN9 := hide (hk.blk HN8.out hqp (by decide)); have SK : Hid (w9.cell? ⟨pw, 0, none⟩ = some (.func (.func 71) #[] #[.pointer (some ⟨pe, 0, none⟩), .pointer (some ⟨pb, 0, none⟩), .pointer (some ⟨pw, 0, none⟩)]) ∧ w9.cell? ⟨q, 3, none⟩ = some (.slice (some ⟨bk, offk, none⟩) 2 kc) ∧ w9.cell? ⟨bk, offk + 1, none⟩ = some (.int .i64 (v1))) := ⟨HT9.out.self.cell 0, HN9.out.cell 3, (HK9.out.bel.cell (p := ⟨bk, offk + 1, none⟩) hbk).trans GK1.out⟩; clear hb hk))
    clear SD HB8 HT8 HK8 HN8
    have hls1 := str_len b hg1 4
    go_wp2
    exact FIN.out _ _ _ rfl (by simpa only [List.append_assoc, List.cons_append, List.nil_append] using HB9.out) HK9.out (by  (try simp only [List.length_append, List.length_cons, List.length_nil]); omega)
end
end Go.Proofs.YtkomgidcgepknaaGreatDoor

set_option linter.unusedVariables false
set_option linter.unusedSimpArgs false
namespace Go.Proofs.YtkomgidcgepknaaGreatDoor
open Go.RowKit Go.Deep Go.Maps
open Go.Lib (itoa decDigits)

section
variable {pe pb pw : Nat} {A : Option Addr} {c : Nat} {e : List Nod}
theorem below_grow (w : World) (k : Nat) (os : Array Obj) : Below w.heap.size w (Sort.grow (w.drewN k) os) := (drewN_below _ _ _).trans ⟨rfl, rfl, rfl, by simp [Sort.grow], fun g hg => by
  have hg : g < w.heap.size := hg
  simp only [Sort.grow]
  exact Array.getElem?_append_left hg⟩
theorem itoa_len {v : Int} (h0 : 0 ≤ v) (h1 : v ≤ 1000000) : (itoa v).length ≤ 8 := by
  rw [itoa_nn h0]
  exact (dec_len v.toNat).2 7 (by omega)


set_option maxHeartbeats 8000000 in
set_option maxRecDepth 100000 in
theorem txt_name {N : Nat} (IH0 : TIH pe pb pw A c e N) {nm : ByteArray} (hnm24 : nm.size ≤ 24) {idx m : Nat} (hx : nodAt e idx = ⟨2, 0, nm, []⟩) (hidx : idx < e.length) (hm1 : 1 ≤ m) (hm5 : m ≤ 5) (hen : ∀ x ∈ e, x.name.size ≤ maxLen) (he3 : e.length ≤ 300) :
    TGo pe pb pw A c e (1) idx m (parenS 5 m (nm.data.toList)) := by
  intro bs w hlen hT hB
  have IH := hide IH0
  have hpos := hT.pos
  have hone := hT.one
  have htwo := hT.two
  have hselfl := hT.self.lt
  have HT := hide hT
  have HB := hide hB
  obtain ⟨be, offe, K', kc, rfl, hbe, x0, x1, x2, x3, hKd⟩ := hT.ex.at_ hidx
  rw [hx] at x0 x1 x2 x3 hKd
  have hname : nm.size ≤ maxLen := by
    have := hen _ (List.mem_of_getElem? (nodAt_get hidx))
    rw [hx] at this
    exact this
  have hnmlen : nm.size ≤ 24 := hnm24
  have x0 : w.cell? ⟨be, offe + idx * 4, none⟩ = some (.int .i64 2) := x0
  have x1 : w.cell? ⟨be, offe + idx * 4 + 1, none⟩ = some (.int .i64 0) := x1
  have x2 : w.cell? ⟨be, offe + idx * 4 + 2, none⟩ = some (.string nm) := x2
  have x3 : w.cell? ⟨be, offe + idx * 4 + 3, none⟩ = some (.slice K' 0 kc) := x3
  have hKd : RI w pb K' 0 [] := hKd
  have p0 : w.cell? ⟨pe, 0, none⟩ = some (.slice (some ⟨be, offe, none⟩) e.length c) := hT.box.cell 0
  have hB5 : Blk (w.alloc (Obj.cells #[.int .i64 2, .int .i64 0, .string nm, .slice K' 0 kc] 56)) w.heap.size 56 #[.int .i64 2, .int .i64 0, .string nm, .slice K' 0 kc] := Blk.new _ _ _
  have hb5 : Below w.heap.size w (w.alloc (Obj.cells #[.int .i64 2, .int .i64 0, .string nm, .slice K' 0 kc] 56)) := (Below.refl _ _).alloc (Nat.le_refl _) _
  clear hT hB hKd IH0 hx 
  go_enter_defers Tryz.func71, Tryz.ntmps71
  go_upto_region 1 with (fail)
  generalize w.alloc (Obj.cells #[.int .i64 2, .int .i64 0, .string nm, .slice K' 0 kc] 56) = w5 at hB5 hb5 ⊢
  have HK5 := hide (KeptB.of_below (pb := pb) hb5 (Nat.le_of_lt hpos))
  have HT5 := hide (HT.out.kept HK5.out)
  have HB5 := hide (HB.out.below hb5)
  have HN5 := hide hB5
  have hql := hB5.lt
  have hqp : w.heap.size ≠ pb := by omega
  have y0 : w5.cell? ⟨w.heap.size, 0, none⟩ = some (.int .i64 2) := hB5.cell 0
  clear x0 x1 x2 x3 p0 hB5 hb5
  generalize w.heap.size = q at HN5 hql hqp y0 hpos hselfl ⊢
  go_wp2_with fail
  refine (strength_any _ w5).mono ?_
  rintro en w' ⟨rfl, rfl⟩
  rw [show strength 2 = ((5 : Nat) : Int) from by decide]
  have hlp := HT5.out.pos
  clear y0
  by_cases hlt : 5 < m
  · exact absurd hlt (by omega)
  · have d1 : decide (((5 : Nat) : Int) < (m : Int)) = false := decide_eq_false (by omega)
    obtain ⟨w6, hw6⟩ : ∃ w6, w6 = w5 := ⟨_, rfl⟩
    subst hw6
    have HT6 := HT5
    have HB6 := HB5
    have HK6 := HK5
    have HN6 := HN5
    obtain ⟨bs0, hbs0⟩ : ∃ bs0, bs0 = bs := ⟨_, rfl⟩
    rw [← hbs0] at HB6
    have hl0 : bs0.length ≤ bs.length + 1 := by rw [hbs0]; omega
    have FIN : Hid (∀ (l : List UInt8) (tm : Array Value) (w' : World), l = nm.data.toList → BuiF pb pb (Lib.byteCells (bs0 ++ l)) w' → KeptB pb w w' → bs0.length + l.length ≤ 200000 →
        Leaves Tryz.prog Tryz.f71 tm (TPost pb bs (parenS 5 m (nm.data.toList)) w) [] .returning w') := hide (fun l tm w' hl h1 h2 h3 => by
      subst hl
      refine ⟨.tuple #[], by simp [results, Tryz.results71, go_sem], rfl, ?_, h2⟩
      rw [hbs0] at h1
      unfold parenS
      rw [if_neg hlt]
      exact h1)
    clear HB5 HN5 HT5 HK5 hbs0
    go_upto_region 5 with (fail)
    have n2 : w6.cell? ⟨q, 2, none⟩ = some (.string nm) := HN6.out.cell 2
    go_wp2_with fail
    refine (txt_write pb (bs0) nm w6 HB6.out (by have := hnmlen; omega) (Nat.le_of_lt HT6.out.pos)).mono ?_
    rintro en w7 ⟨rfl, hb, hk⟩
    have HT7 := hide (HT6.out.kept hk)
    have HB7 : Hid (BuiF pb pb (Lib.byteCells (bs0 ++ nm.data.toList)) w7) := hide hb
    have HK7 := hide (HK6.out.trans hk)
    have HN7 := hide (hk.blk HN6.out hqp (by decide))
    have hnl : nm.data.toList.length = nm.size := Array.length_toList
    have n0 : w7.cell? ⟨q, 0, none⟩ = some (.int .i64 2) := HN7.out.cell 0
    have n1 : w7.cell? ⟨q, 1, none⟩ = some (.int .i64 0) := HN7.out.cell 1
    have n3 := HN7.out.cell 3
    clear hb hk HB6 HT6 HK6 HN6 n2
    go_wp2
    refine wp_loop_rounds 1 ?_
    rw [rounds_succ]
    go_wp2
    exact FIN.out _ _ _ rfl (by simpa only [List.append_assoc, List.cons_append, List.nil_append] using HB7.out) HK7.out (by  (try simp only [List.length_append, List.length_cons, List.length_nil]); omega)

set_option maxHeartbeats 8000000 in
set_option maxRecDepth 100000 in
theorem txt_num {N : Nat} (IH0 : TIH pe pb pw A c e N) {v : Int} (hv0 : 0 ≤ v) (hv1 : v ≤ 1000000) {idx m : Nat} (hx : nodAt e idx = ⟨1, v, ByteArray.empty, []⟩) (hidx : idx < e.length) (hm1 : 1 ≤ m) (hm5 : m ≤ 5) (hen : ∀ x ∈ e, x.name.size ≤ maxLen) (he3 : e.length ≤ 300) :
    TGo pe pb pw A c e (1) idx m (parenS 5 m (itoa v)) := by
  intro bs w hlen hT hB
  have IH := hide IH0
  have hpos := hT.pos
  have hone := hT.one
  have htwo := hT.two
  have hselfl := hT.self.lt
  have HT := hide hT
  have HB := hide hB
  obtain ⟨be, offe, K', kc, rfl, hbe, x0, x1, x2, x3, hKd⟩ := hT.ex.at_ hidx
  rw [hx] at x0 x1 x2 x3 hKd
  have hname : ByteArray.empty.size ≤ maxLen := by
    have := hen _ (List.mem_of_getElem? (nodAt_get hidx))
    rw [hx] at this
    exact this
  have hnmlen : ByteArray.empty.size ≤ 24 := Nat.zero_le _
  have x0 : w.cell? ⟨be, offe + idx * 4, none⟩ = some (.int .i64 1) := x0
  have x1 : w.cell? ⟨be, offe + idx * 4 + 1, none⟩ = some (.int .i64 v) := x1
  have x2 : w.cell? ⟨be, offe + idx * 4 + 2, none⟩ = some (.string ByteArray.empty) := x2
  have x3 : w.cell? ⟨be, offe + idx * 4 + 3, none⟩ = some (.slice K' 0 kc) := x3
  have hKd : RI w pb K' 0 [] := hKd
  have p0 : w.cell? ⟨pe, 0, none⟩ = some (.slice (some ⟨be, offe, none⟩) e.length c) := hT.box.cell 0
  have hB5 : Blk (w.alloc (Obj.cells #[.int .i64 1, .int .i64 v, .string ByteArray.empty, .slice K' 0 kc] 56)) w.heap.size 56 #[.int .i64 1, .int .i64 v, .string ByteArray.empty, .slice K' 0 kc] := Blk.new _ _ _
  have hb5 : Below w.heap.size w (w.alloc (Obj.cells #[.int .i64 1, .int .i64 v, .string ByteArray.empty, .slice K' 0 kc] 56)) := (Below.refl _ _).alloc (Nat.le_refl _) _
  clear hT hB hKd IH0 hx 
  go_enter_defers Tryz.func71, Tryz.ntmps71
  go_upto_region 1 with (fail)
  generalize w.alloc (Obj.cells #[.int .i64 1, .int .i64 v, .string ByteArray.empty, .slice K' 0 kc] 56) = w5 at hB5 hb5 ⊢
  have HK5 := hide (KeptB.of_below (pb := pb) hb5 (Nat.le_of_lt hpos))
  have HT5 := hide (HT.out.kept HK5.out)
  have HB5 := hide (HB.out.below hb5)
  have HN5 := hide hB5
  have hql := hB5.lt
  have hqp : w.heap.size ≠ pb := by omega
  have y0 : w5.cell? ⟨w.heap.size, 0, none⟩ = some (.int .i64 1) := hB5.cell 0
  clear x0 x1 x2 x3 p0 hB5 hb5
  generalize w.heap.size = q at HN5 hql hqp y0 hpos hselfl ⊢
  go_wp2_with fail
  refine (strength_any _ w5).mono ?_
  rintro en w' ⟨rfl, rfl⟩
  rw [show strength 1 = ((5 : Nat) : Int) from by decide]
  have hlp := HT5.out.pos
  clear y0
  by_cases hlt : 5 < m
  · exact absurd hlt (by omega)
  · have d1 : decide (((5 : Nat) : Int) < (m : Int)) = false := decide_eq_false (by omega)
    obtain ⟨w6, hw6⟩ : ∃ w6, w6 = w5 := ⟨_, rfl⟩
    subst hw6
    have HT6 := HT5
    have HB6 := HB5
    have HK6 := HK5
    have HN6 := HN5
    obtain ⟨bs0, hbs0⟩ : ∃ bs0, bs0 = bs := ⟨_, rfl⟩
    rw [← hbs0] at HB6
    have hl0 : bs0.length ≤ bs.length + 1 := by rw [hbs0]; omega
    have FIN : Hid (∀ (l : List UInt8) (tm : Array Value) (w' : World), l = itoa v → BuiF pb pb (Lib.byteCells (bs0 ++ l)) w' → KeptB pb w w' → bs0.length + l.length ≤ 200000 →
        Leaves Tryz.prog Tryz.f71 tm (TPost pb bs (parenS 5 m (itoa v)) w) [] .returning w') := hide (fun l tm w' hl h1 h2 h3 => by
      subst hl
      refine ⟨.tuple #[], by simp [results, Tryz.results71, go_sem], rfl, ?_, h2⟩
      rw [hbs0] at h1
      unfold parenS
      rw [if_neg hlt]
      exact h1)
    clear HB5 HN5 HT5 HK5 hbs0
    go_upto_region 5 with (fail)
    have n2 : w6.cell? ⟨q, 2, none⟩ = some (.string ByteArray.empty) := HN6.out.cell 2
    go_wp2_with fail
    refine (txt_write pb (bs0) ByteArray.empty w6 HB6.out (by have := hnmlen; omega) (Nat.le_of_lt HT6.out.pos)).mono ?_
    rintro en w7 ⟨rfl, hb, hk⟩
    have HT7 := hide (HT6.out.kept hk)
    have HB7 : Hid (BuiF pb pb (Lib.byteCells (bs0)) w7) := hide (by rw [show ByteArray.empty.data.toList = [] from rfl, List.append_nil] at hb; exact hb)
    have HK7 := hide (HK6.out.trans hk)
    have HN7 := hide (hk.blk HN6.out hqp (by decide))
    skip
    have n0 : w7.cell? ⟨q, 0, none⟩ = some (.int .i64 1) := HN7.out.cell 0
    have n1 : w7.cell? ⟨q, 1, none⟩ = some (.int .i64 v) := HN7.out.cell 1
    have n3 := HN7.out.cell 3
    clear hb hk HB6 HT6 HK6 HN6 n2
    go_wp2_with fail
    refine (Tryz.strconv_Itoa v (by omega) (by omega) w7 HT7.out.tab).mono ?_
    rintro en w8 ⟨rfl, k, os, hw⟩
    have hb' : Below w7.heap.size w7 w8 := by rw [hw]; exact below_grow _ _ _
    have hk := KeptB.of_below (pb := pb) hb' (Nat.le_of_lt HT7.out.pos)
    have HT8 := hide (HT7.out.kept hk)
    have HB8 := hide (HB7.out.below hb')
    have HK8 := hide (HK7.out.trans hk)
    have HN8 := hide (hk.blk HN7.out hqp (by decide))
    have hil : (itoa v).length ≤ 8 := itoa_len hv0 hv1
    clear hw hb' hk HB7 HT7 HK7 HN7 n0 n1 n3
    go_wp2_with fail
    refine (txt_write pb (bs0) ⟨(itoa v).toArray⟩ w8 HB8.out (by (try simp only [List.length_append, List.length_cons, List.length_nil]); show _ + (itoa v).toArray.size ≤ _; rw [List.size_toArray]; omega) (Nat.le_of_lt HT8.out.pos)).mono ?_
    rintro en w9 ⟨rfl, hb, hk⟩
    have HT9 := hide (HT8.out.kept hk)
    have HB9 : Hid (BuiF pb pb (Lib.byteCells (bs0 ++ itoa v)) w9) := hide (by simpa using hb)
    have HK9 := hide (HK8.out.trans hk)
    have HN9 := hide (hk.blk HN8.out hqp (by decide))
    have n3 := HN9.out.cell 3
    clear hb hk HB8 HT8 HK8 HN8
    go_wp2
    refine wp_loop_rounds 1 ?_
    rw [rounds_succ]
    go_wp2
    exact FIN.out _ _ _ rfl (by simpa only [List.append_assoc, List.cons_append, List.nil_append] using HB9.out) HK9.out (by  (try simp only [List.length_append, List.length_cons, List.length_nil]); omega)

set_option maxHeartbeats 8000000 in
set_option maxRecDepth 100000 in
theorem txt_fun2 {N : Nat} (IH0 : TIH pe pb pw A c e N) {op : Int} (hop1 : op = 7 ∨ op = 8) (a : Tr) (ha0 : a.size < N) (hg0 : a.good) {Ka : Nat} (hat0 : AtL e Ka (a.flat Ka)) {v0 : Int} (hv0 : v0 = ((Ka + a.size - 1 : Nat) : Int)) (hke0 : Ka + a.size ≤ e.length) (b : Tr) (ha1 : b.size < N) (hg1 : b.good) {Kb : Nat} (hat1 : AtL e Kb (b.flat Kb)) {v1 : Int} (hv1 : v1 = ((Kb + b.size - 1 : Nat) : Int)) (hke1 : Kb + b.size ≤ e.length) {idx m : Nat} (hx : nodAt e idx = ⟨op, 0, ByteArray.empty, [v0, v1]⟩) (hidx : idx < e.length) (hm1 : 1 ≤ m) (hm5 : m ≤ 5) (hen : ∀ x ∈ e, x.name.size ≤ maxLen) (he3 : e.length ≤ 300) :
    TGo pe pb pw A c e (a.size + b.size + 1) idx m (parenS 5 m ((funcT op).data.toList ++ (40 :: (a.str 1 ++ (44 :: 32 :: (b.str 1 ++ [41])))))) := by
  intro bs w hlen hT hB
  have IH := hide IH0
  have hpos := hT.pos
  have hone := hT.one
  have htwo := hT.two
  have hselfl := hT.self.lt
  have HT := hide hT
  have HB := hide hB
  obtain ⟨be, offe, K', kc, rfl, hbe, x0, x1, x2, x3, hKd⟩ := hT.ex.at_ hidx
  rw [hx] at x0 x1 x2 x3 hKd
  have hname : ByteArray.empty.size ≤ maxLen := by
    have := hen _ (List.mem_of_getElem? (nodAt_get hidx))
    rw [hx] at this
    exact this
  have hnmlen : ByteArray.empty.size ≤ 24 := Nat.zero_le _
  have x0 : w.cell? ⟨be, offe + idx * 4, none⟩ = some (.int .i64 op) := x0
  have x1 : w.cell? ⟨be, offe + idx * 4 + 1, none⟩ = some (.int .i64 0) := x1
  have x2 : w.cell? ⟨be, offe + idx * 4 + 2, none⟩ = some (.string ByteArray.empty) := x2
  have x3 : w.cell? ⟨be, offe + idx * 4 + 3, none⟩ = some (.slice K' 2 kc) := x3
  have hKd : RI w pb K' 2 [v0, v1] := hKd
  have p0 : w.cell? ⟨pe, 0, none⟩ = some (.slice (some ⟨be, offe, none⟩) e.length c) := hT.box.cell 0
  obtain ⟨bk, offk, rfl, hbk, gk0⟩ := hKd.at_ (k := 0) (by decide)
  have GK0 : Hid (w.cell? ⟨bk, offk, none⟩ = some (.int .i64 (v0))) := gk0
  have GK1 : Hid (w.cell? ⟨bk, offk + 1, none⟩ = some (.int .i64 (v1))) := hide (by
    obtain ⟨b2, o2, hA2, _, g2⟩ := hKd.at_ (k := 1) (by decide)
    injection hA2 with hA2
    injection hA2 with h1 h2
    rw [h1, h2]
    exact g2)
  clear gk0
  have hB5 : Blk (w.alloc (Obj.cells #[.int .i64 op, .int .i64 0, .string ByteArray.empty, .slice (some ⟨bk, offk, none⟩) 2 kc] 56)) w.heap.size 56 #[.int .i64 op, .int .i64 0, .string ByteArray.empty, .slice (some ⟨bk, offk, none⟩) 2 kc] := Blk.new _ _ _
  have hb5 : Below w.heap.size w (w.alloc (Obj.cells #[.int .i64 op, .int .i64 0, .string ByteArray.empty, .slice (some ⟨bk, offk, none⟩) 2 kc] 56)) := (Below.refl _ _).alloc (Nat.le_refl _) _
  have HV0 := hide hv0
  have HV1 := hide hv1
  clear hT hB hKd IH0 hx hv0 hv1
  have hop : op = 7 ∨ op = 8 ∨ op = 9 := by omega
  go_enter_defers Tryz.func71, Tryz.ntmps71
  go_upto_region 1 with (fail)
  generalize w.alloc (Obj.cells #[.int .i64 op, .int .i64 0, .string ByteArray.empty, .slice (some ⟨bk, offk, none⟩) 2 kc] 56) = w5 at hB5 hb5 ⊢
  have HK5 := hide (KeptB.of_below (pb := pb) hb5 (Nat.le_of_lt hpos))
  have HT5 := hide (HT.out.kept HK5.out)
  have HB5 := hide (HB.out.below hb5)
  have HN5 := hide hB5
  have hql := hB5.lt
  have hqp : w.heap.size ≠ pb := by omega
  have y0 : w5.cell? ⟨w.heap.size, 0, none⟩ = some (.int .i64 op) := hB5.cell 0
  clear x0 x1 x2 x3 p0 hB5 hb5
  generalize w.heap.size = q at HN5 hql hqp y0 hpos hselfl ⊢
  go_wp2_with fail
  refine (strength_any _ w5).mono ?_
  rintro en w' ⟨rfl, rfl⟩
  rw [show strength op = ((5 : Nat) : Int) from by rcases hop1 with rfl | rfl <;> decide]
  have hlp := HT5.out.pos
  clear y0
  by_cases hlt : 5 < m
  · exact absurd hlt (by omega)
  · have d1 : decide (((5 : Nat) : Int) < (m : Int)) = false := decide_eq_false (by omega)
    obtain ⟨w6, hw6⟩ : ∃ w6, w6 = w5 := ⟨_, rfl⟩
    subst hw6
    have HT6 := HT5
    have HB6 := HB5
    have HK6 := HK5
    have HN6 := HN5
    obtain ⟨bs0, hbs0⟩ : ∃ bs0, bs0 = bs := ⟨_, rfl⟩
    rw [← hbs0] at HB6
    have hl0 : bs0.length ≤ bs.length + 1 := by rw [hbs0]; omega
    have FIN : Hid (∀ (l : List UInt8) (tm : Array Value) (w' : World), l = (funcT op).data.toList ++ (40 :: (a.str 1 ++ (44 :: 32 :: (b.str 1 ++ [41])))) → BuiF pb pb (Lib.byteCells (bs0 ++ l)) w' → KeptB pb w w' → bs0.length + l.length ≤ 200000 →
        Leaves Tryz.prog Tryz.f71 tm (TPost pb bs (parenS 5 m ((funcT op).data.toList ++ (40 :: (a.str 1 ++ (44 :: 32 :: (b.str 1 ++ [41])))))) w) [] .returning w') := hide (fun l tm w' hl h1 h2 h3 => by
      subst hl
      refine ⟨.tuple #[], by simp [results, Tryz.results71, go_sem], rfl, ?_, h2⟩
      rw [hbs0] at h1
      unfold parenS
      rw [if_neg hlt]
      exact h1)
    clear HB5 HN5 HT5 HK5 hbs0
    go_upto_region 5 with (fail)
    have n2 : w6.cell? ⟨q, 2, none⟩ = some (.string ByteArray.empty) := HN6.out.cell 2
    go_wp2_with fail
    refine (txt_write pb (bs0) ByteArray.empty w6 HB6.out (by have := hnmlen; omega) (Nat.le_of_lt HT6.out.pos)).mono ?_
    rintro en w7 ⟨rfl, hb, hk⟩
    have HT7 := hide (HT6.out.kept hk)
    have HB7 : Hid (BuiF pb pb (Lib.byteCells (bs0)) w7) := hide (by rw [show ByteArray.empty.data.toList = [] from rfl, List.append_nil] at hb; exact hb)
    have HK7 := hide (HK6.out.trans hk)
    have HN7 := hide (hk.blk HN6.out hqp (by decide))
    skip
    have n0 : w7.cell? ⟨q, 0, none⟩ = some (.int .i64 op) := HN7.out.cell 0
    have n1 : w7.cell? ⟨q, 1, none⟩ = some (.int .i64 0) := HN7.out.cell 1
    have n3 := HN7.out.cell 3
    clear hb hk HB6 HT6 HK6 HN6 n2
    go_wp2
    clear n0 n1
    refine wp_loop_rounds 3 ?_
    rw [rounds_succ]
    have gk : w7.cell? ⟨bk, offk, none⟩ = some (.int .i64 (v0)) := (HK7.out.bel.cell (p := ⟨bk, offk, none⟩) hbk).trans GK0.out
    have SD : Hid (w7.drew.cell? ⟨q, 0, none⟩ = some (.int .i64 op)) := HN7.out.cell 0
    have hpz := HT7.out.pos
    have hql2 := HN7.out.lt
    have hsl := func_len op
    have hsz : (funcT op).size ≤ 3 := by have := hsl; rw [Array.length_toList] at this; exact this
    have ha1 : ∀ w : World, (Op.stringOp .add (funcT op) ⟨#[40]⟩).run Tryz.prog w = .ok (.string (funcT op ++ ⟨#[40]⟩)) w := fun w => par_run hsz w
    clear n3
    go_upto_region 13 with (fail)
    clear gk
    go_region_held3 (fun w' => w'.cell? ⟨q, 0, none⟩ = some (.int .i64 op)) (first | exact SD.out | exact SK1.out | exact SK2.out | exact SK3.out)
      (first
        | (go_at_call 77; refine (functions_map w7.drew).mono ?_; rintro en u1 ⟨rfl, p2, b2⟩; have P2 := hide p2; have B2 := hide b2; have SK1 : Hid (u1.cell? ⟨q, 0, none⟩ = some (.int .i64 op)) := (b2.cell (p := ⟨q, 0, none⟩) hql2).trans SD.out; clear p2 b2)
        | (go_at_call 74; refine (funcSym_any _ 3 op u1 P2.out hop).mono ?_; rintro en u2 ⟨rfl, b3⟩; have B3 := hide (B2.out.trans (b3.mono B2.out.size)); have SK2 : Hid (u2.cell? ⟨q, 0, none⟩ = some (.int .i64 op)) := (b3.cell (p := ⟨q, 0, none⟩) (Nat.lt_of_lt_of_le hql2 B2.out.size)).trans SK1.out; clear b3)
        | (go_at_call 73; refine (txt_write pb (bs0) _ u2 (HB7.out.draw.below B3.out) (by rw [par_size]; (try simp only [List.length_append, List.length_cons, List.length_nil]); omega) (Nat.le_trans (Nat.le_of_lt hpz) B3.out.size)).mono ?_; rintro en w8 ⟨rfl, hb, hk⟩; rw [par_data] at hb; have hk := ((KeptB.draw pb w7).trans (KeptB.of_below B3.out (Nat.le_of_lt hpz))).trans hk; have HT8 := hide (HT7.out.kept hk); have HB8 := hide hb; have HK8 := hide (HK7.out.trans hk); have HN8 := hide (hk.blk HN7.out hqp (by decide)); have SK3 : Hid (w8.cell? ⟨q, 0, none⟩ = some (.int .i64 op)) := HN8.out.cell 0; clear hb hk))
    clear SD HB7 HT7 HK7 HN7 hpz hql2 ha1
    have self := HT8.out.self.cell 0
    go_wp2_with fail
    rw [HV0.out]
    refine (IH.out a ha0 hg0 (Ka) 1 hat0 hke0 (by omega) (by omega) (bs0 ++ ((funcT op).data.toList ++ [40])) w8 (by (try simp only [List.length_append, List.length_cons, List.length_nil]); omega) HT8.out HB8.out).mono ?_
    rintro en w9 ⟨rfl, hb, hk⟩
    have HT9 := hide (HT8.out.kept hk)
    have HB9 := hide hb
    have HK9 := hide (HK8.out.trans hk)
    have HN9 := hide (hk.blk HN8.out hqp (by decide))
    clear hb hk self HB8 HT8 HK8 HN8
    have hls0 := str_len a hg0 1
    go_wp2
    rw [rounds_succ]
    have gk : w9.cell? ⟨bk, offk + 1, none⟩ = some (.int .i64 (v1)) := (HK9.out.bel.cell (p := ⟨bk, offk + 1, none⟩) hbk).trans GK1.out
    go_wp2_with fail
    refine (txt_write pb (bs0 ++ ((funcT op).data.toList ++ [40]) ++ a.str 1) ⟨#[44, 32]⟩ w9 HB9.out (by show _ + 2 ≤ 1000000; (try simp only [List.length_append, List.length_cons, List.length_nil]); omega) (Nat.le_of_lt HT9.out.pos)).mono ?_
    rintro en w10 ⟨rfl, hb, hk⟩
    have HT10 := hide (HT9.out.kept hk)
    have HB10 : Hid (BuiF pb pb (Lib.byteCells (bs0 ++ ((funcT op).data.toList ++ [40]) ++ a.str 1 ++ [44, 32])) w10) := hide hb
    have HK10 := hide (HK9.out.trans hk)
    have HN10 := hide (hk.blk HN9.out hqp (by decide))
    clear hb hk gk HB9 HT9 HK9 HN9
    have self := HT10.out.self.cell 0
    go_wp2_with fail
    rw [HV1.out]
    refine (IH.out b ha1 hg1 (Kb) 1 hat1 hke1 (by omega) (by omega) (bs0 ++ ((funcT op).data.toList ++ [40]) ++ a.str 1 ++ [44, 32]) w10 (by (try simp only [List.length_append, List.length_cons, List.length_nil]); omega) HT10.out HB10.out).mono ?_
    rintro en w11 ⟨rfl, hb, hk⟩
    have HT11 := hide (HT10.out.kept hk)
    have HB11 := hide hb
    have HK11 := hide (HK10.out.trans hk)
    have HN11 := hide (hk.blk HN10.out hqp (by decide))
    clear hb hk self HB10 HT10 HK10 HN10
    have hls1 := str_len b hg1 1
    go_wp2
    rw [rounds_succ]
    have n3 := HN11.out.cell 3
    go_wp2_with fail
    refine (txt_write pb (bs0 ++ ((funcT op).data.toList ++ [40]) ++ a.str 1 ++ [44, 32] ++ b.str 1) ⟨#[41]⟩ w11 HB11.out (by show _ + 1 ≤ 1000000; (try simp only [List.length_append, List.length_cons, List.length_nil]); omega) (Nat.le_of_lt HT11.out.pos)).mono ?_
    rintro en w12 ⟨rfl, hb, hk⟩
    have HT12 := hide (HT11.out.kept hk)
    have HB12 : Hid (BuiF pb pb (Lib.byteCells (bs0 ++ ((funcT op).data.toList ++ [40]) ++ a.str 1 ++ [44, 32] ++ b.str 1 ++ [41])) w12) := hide hb
    have HK12 := hide (HK11.out.trans hk)
    clear hb hk n3 HB11 HT11 HK11 HN11
    go_wp2
    exact FIN.out _ _ _ rfl (by simpa only [List.append_assoc, List.cons_append, List.nil_append] using HB12.out) HK12.out (by  (try simp only [List.length_append, List.length_cons, List.length_nil]); omega)

set_option maxHeartbeats 8000000 in
set_option maxRecDepth 100000 in
theorem txt_fun3 {N : Nat} (IH0 : TIH pe pb pw A c e N) (a : Tr) (ha0 : a.size < N) (hg0 : a.good) {Ka : Nat} (hat0 : AtL e Ka (a.flat Ka)) {v0 : Int} (hv0 : v0 = ((Ka + a.size - 1 : Nat) : Int)) (hke0 : Ka + a.size ≤ e.length) (b : Tr) (ha1 : b.size < N) (hg1 : b.good) {Kb : Nat} (hat1 : AtL e Kb (b.flat Kb)) {v1 : Int} (hv1 : v1 = ((Kb + b.size - 1 : Nat) : Int)) (hke1 : Kb + b.size ≤ e.length) (d : Tr) (ha2 : d.size < N) (hg2 : d.good) {Kd : Nat} (hat2 : AtL e Kd (d.flat Kd)) {v2 : Int} (hv2 : v2 = ((Kd + d.size - 1 : Nat) : Int)) (hke2 : Kd + d.size ≤ e.length) {idx m : Nat} (hx : nodAt e idx = ⟨9, 0, ByteArray.empty, [v0, v1, v2]⟩) (hidx : idx < e.length) (hm1 : 1 ≤ m) (hm5 : m ≤ 5) (hen : ∀ x ∈ e, x.name.size ≤ maxLen) (he3 : e.length ≤ 300) :
    TGo pe pb pw A c e (a.size + b.size + d.size + 1) idx m (parenS 5 m ((funcT 9).data.toList ++ (40 :: (a.str 1 ++ (44 :: 32 :: (b.str 1 ++ (44 :: 32 :: (d.str 1 ++ [41])))))))) := by
  intro bs w hlen hT hB
  have IH := hide IH0
  have hpos := hT.pos
  have hone := hT.one
  have htwo := hT.two
  have hselfl := hT.self.lt
  have HT := hide hT
  have HB := hide hB
  obtain ⟨be, offe, K', kc, rfl, hbe, x0, x1, x2, x3, hKd⟩ := hT.ex.at_ hidx
  rw [hx] at x0 x1 x2 x3 hKd
  have hname : ByteArray.empty.size ≤ maxLen := by
    have := hen _ (List.mem_of_getElem? (nodAt_get hidx))
    rw [hx] at this
    exact this
  have hnmlen : ByteArray.empty.size ≤ 24 := Nat.zero_le _
  have x0 : w.cell? ⟨be, offe + idx * 4, none⟩ = some (.int .i64 9) := x0
  have x1 : w.cell? ⟨be, offe + idx * 4 + 1, none⟩ = some (.int .i64 0) := x1
  have x2 : w.cell? ⟨be, offe + idx * 4 + 2, none⟩ = some (.string ByteArray.empty) := x2
  have x3 : w.cell? ⟨be, offe + idx * 4 + 3, none⟩ = some (.slice K' 3 kc) := x3
  have hKd : RI w pb K' 3 [v0, v1, v2] := hKd
  have p0 : w.cell? ⟨pe, 0, none⟩ = some (.slice (some ⟨be, offe, none⟩) e.length c) := hT.box.cell 0
  obtain ⟨bk, offk, rfl, hbk, gk0⟩ := hKd.at_ (k := 0) (by decide)
  have GK0 : Hid (w.cell? ⟨bk, offk, none⟩ = some (.int .i64 (v0))) := gk0
  have GK1 : Hid (w.cell? ⟨bk, offk + 1, none⟩ = some (.int .i64 (v1))) := hide (by
    obtain ⟨b2, o2, hA2, _, g2⟩ := hKd.at_ (k := 1) (by decide)
    injection hA2 with hA2
    injection hA2 with h1 h2
    rw [h1, h2]
    exact g2)
  have GK2 : Hid (w.cell? ⟨bk, offk + 2, none⟩ = some (.int .i64 (v2))) := hide (by
    obtain ⟨b2, o2, hA2, _, g2⟩ := hKd.at_ (k := 2) (by decide)
    injection hA2 with hA2
    injection hA2 with h1 h2
    rw [h1, h2]
    exact g2)
  clear gk0
  have hB5 : Blk (w.alloc (Obj.cells #[.int .i64 9, .int .i64 0, .string ByteArray.empty, .slice (some ⟨bk, offk, none⟩) 3 kc] 56)) w.heap.size 56 #[.int .i64 9, .int .i64 0, .string ByteArray.empty, .slice (some ⟨bk, offk, none⟩) 3 kc] := Blk.new _ _ _
  have hb5 : Below w.heap.size w (w.alloc (Obj.cells #[.int .i64 9, .int .i64 0, .string ByteArray.empty, .slice (some ⟨bk, offk, none⟩) 3 kc] 56)) := (Below.refl _ _).alloc (Nat.le_refl _) _
  have HV0 := hide hv0
  have HV1 := hide hv1
  have HV2 := hide hv2
  clear hT hB hKd IH0 hx hv0 hv1 hv2
  have hop : (9 : Int) = 7 ∨ (9 : Int) = 8 ∨ (9 : Int) = 9 := by decide
  go_enter_defers Tryz.func71, Tryz.ntmps71
  go_upto_region 1 with (fail)
  generalize w.alloc (Obj.cells #[.int .i64 9, .int .i64 0, .string ByteArray.empty, .slice (some ⟨bk, offk, none⟩) 3 kc] 56) = w5 at hB5 hb5 ⊢
  have HK5 := hide (KeptB.of_below (pb := pb) hb5 (Nat.le_of_lt hpos))
  have HT5 := hide (HT.out.kept HK5.out)
  have HB5 := hide (HB.out.below hb5)
  have HN5 := hide hB5
  have hql := hB5.lt
  have hqp : w.heap.size ≠ pb := by omega
  have y0 : w5.cell? ⟨w.heap.size, 0, none⟩ = some (.int .i64 9) := hB5.cell 0
  clear x0 x1 x2 x3 p0 hB5 hb5
  generalize w.heap.size = q at HN5 hql hqp y0 hpos hselfl ⊢
  go_wp2_with fail
  refine (strength_any _ w5).mono ?_
  rintro en w' ⟨rfl, rfl⟩
  rw [show strength 9 = ((5 : Nat) : Int) from by decide]
  have hlp := HT5.out.pos
  clear y0
  by_cases hlt : 5 < m
  · exact absurd hlt (by omega)
  · have d1 : decide (((5 : Nat) : Int) < (m : Int)) = false := decide_eq_false (by omega)
    obtain ⟨w6, hw6⟩ : ∃ w6, w6 = w5 := ⟨_, rfl⟩
    subst hw6
    have HT6 := HT5
    have HB6 := HB5
    have HK6 := HK5
    have HN6 := HN5
    obtain ⟨bs0, hbs0⟩ : ∃ bs0, bs0 = bs := ⟨_, rfl⟩
    rw [← hbs0] at HB6
    have hl0 : bs0.length ≤ bs.length + 1 := by rw [hbs0]; omega
    have FIN : Hid (∀ (l : List UInt8) (tm : Array Value) (w' : World), l = (funcT 9).data.toList ++ (40 :: (a.str 1 ++ (44 :: 32 :: (b.str 1 ++ (44 :: 32 :: (d.str 1 ++ [41])))))) → BuiF pb pb (Lib.byteCells (bs0 ++ l)) w' → KeptB pb w w' → bs0.length + l.length ≤ 200000 →
        Leaves Tryz.prog Tryz.f71 tm (TPost pb bs (parenS 5 m ((funcT 9).data.toList ++ (40 :: (a.str 1 ++ (44 :: 32 :: (b.str 1 ++ (44 :: 32 :: (d.str 1 ++ [41])))))))) w) [] .returning w') := hide (fun l tm w' hl h1 h2 h3 => by
      subst hl
      refine ⟨.tuple #[], by simp [results, Tryz.results71, go_sem], rfl, ?_, h2⟩
      rw [hbs0] at h1
      unfold parenS
      rw [if_neg hlt]
      exact h1)
    clear HB5 HN5 HT5 HK5 hbs0
    go_upto_region 5 with (fail)
    have n2 : w6.cell? ⟨q, 2, none⟩ = some (.string ByteArray.empty) := HN6.out.cell 2
    go_wp2_with fail
    refine (txt_write pb (bs0) ByteArray.empty w6 HB6.out (by have := hnmlen; omega) (Nat.le_of_lt HT6.out.pos)).mono ?_
    rintro en w7 ⟨rfl, hb, hk⟩
    have HT7 := hide (HT6.out.kept hk)
    have HB7 : Hid (BuiF pb pb (Lib.byteCells (bs0)) w7) := hide (by rw [show ByteArray.empty.data.toList = [] from rfl, List.append_nil] at hb; exact hb)
    have HK7 := hide (HK6.out.trans hk)
    have HN7 := hide (hk.blk HN6.out hqp (by decide))
    skip
    have n0 : w7.cell? ⟨q, 0, none⟩ = some (.int .i64 9) := HN7.out.cell 0
    have n1 : w7.cell? ⟨q, 1, none⟩ = some (.int .i64 0) := HN7.out.cell 1
    have n3 := HN7.out.cell 3
    clear hb hk HB6 HT6 HK6 HN6 n2
    go_wp2
    clear n0 n1
    refine wp_loop_rounds 4 ?_
    rw [rounds_succ]
    have gk : w7.cell? ⟨bk, offk, none⟩ = some (.int .i64 (v0)) := (HK7.out.bel.cell (p := ⟨bk, offk, none⟩) hbk).trans GK0.out
    have SD : Hid (w7.drew.cell? ⟨q, 0, none⟩ = some (.int .i64 9)) := HN7.out.cell 0
    have hpz := HT7.out.pos
    have hql2 := HN7.out.lt
    have hsl := func_len 9
    have hsz : (funcT 9).size ≤ 3 := by have := hsl; rw [Array.length_toList] at this; exact this
    have ha1 : ∀ w : World, (Op.stringOp .add (funcT 9) ⟨#[40]⟩).run Tryz.prog w = .ok (.string (funcT 9 ++ ⟨#[40]⟩)) w := fun w => par_run hsz w
    clear n3
    go_upto_region 13 with (fail)
    clear gk
    go_region_held3 (fun w' => w'.cell? ⟨q, 0, none⟩ = some (.int .i64 9)) (first | exact SD.out | exact SK1.out | exact SK2.out | exact SK3.out)
      (first
        | (go_at_call 77; refine (functions_map w7.drew).mono ?_; rintro en u1 ⟨rfl, p2, b2⟩; have P2 := hide p2; have B2 := hide b2; have SK1 : Hid (u1.cell? ⟨q, 0, none⟩ = some (.int .i64 9)) := (b2.cell (p := ⟨q, 0, none⟩) hql2).trans SD.out; clear p2 b2)
        | (go_at_call 74; refine (funcSym_any _ 3 9 u1 P2.out (by decide)).mono ?_; rintro en u2 ⟨rfl, b3⟩; have B3 := hide (B2.out.trans (b3.mono B2.out.size)); have SK2 : Hid (u2.cell? ⟨q, 0, none⟩ = some (.int .i64 9)) := (b3.cell (p := ⟨q, 0, none⟩) (Nat.lt_of_lt_of_le hql2 B2.out.size)).trans SK1.out; clear b3)
        | (go_at_call 73; refine (txt_write pb (bs0) _ u2 (HB7.out.draw.below B3.out) (by rw [par_size]; (try simp only [List.length_append, List.length_cons, List.length_nil]); omega) (Nat.le_trans (Nat.le_of_lt hpz) B3.out.size)).mono ?_; rintro en w8 ⟨rfl, hb, hk⟩; rw [par_data] at hb; have hk := ((KeptB.draw pb w7).trans (KeptB.of_below B3.out (Nat.le_of_lt hpz))).trans hk; have HT8 := hide (HT7.out.kept hk); have HB8 := hide hb; have HK8 := hide (HK7.out.trans hk); have HN8 := hide (hk.blk HN7.out hqp (by decide)); have SK3 : Hid (w8.cell? ⟨q, 0, none⟩ = some (.int .i64 9)) := HN8.out.cell 0; clear hb hk))
    clear SD HB7 HT7 HK7 HN7 hpz hql2 ha1
    have self := HT8.out.self.cell 0
    go_wp2_with fail
    rw [HV0.out]
    refine (IH.out a ha0 hg0 (Ka) 1 hat0 hke0 (by omega) (by omega) (bs0 ++ ((funcT 9).data.toList ++ [40])) w8 (by (try simp only [List.length_append, List.length_cons, List.length_nil]); omega) HT8.out HB8.out).mono ?_
    rintro en w9 ⟨rfl, hb, hk⟩
    have HT9 := hide (HT8.out.kept hk)
    have HB9 := hide hb
    have HK9 := hide (HK8.out.trans hk)
    have HN9 := hide (hk.blk HN8.out hqp (by decide))
    clear hb hk self HB8 HT8 HK8 HN8
    have hls0 := str_len a hg0 1
    go_wp2
    rw [rounds_succ]
    have gk : w9.cell? ⟨bk, offk + 1, none⟩ = some (.int .i64 (v1)) := (HK9.out.bel.cell (p := ⟨bk, offk + 1, none⟩) hbk).trans GK1.out
    go_wp2_with fail
    refine (txt_write pb (bs0 ++ ((funcT 9).data.toList ++ [40]) ++ a.str 1) ⟨#[44, 32]⟩ w9 HB9.out (by show _ + 2 ≤ 1000000; (try simp only [List.length_append, List.length_cons, List.length_nil]); omega) (Nat.le_of_lt HT9.out.pos)).mono ?_
    rintro en w10 ⟨rfl, hb, hk⟩
    have HT10 := hide (HT9.out.kept hk)
    have HB10 : Hid (BuiF pb pb (Lib.byteCells (bs0 ++ ((funcT 9).data.toList ++ [40]) ++ a.str 1 ++ [44, 32])) w10) := hide hb
    have HK10 := hide (HK9.out.trans hk)
    have HN10 := hide (hk.blk HN9.out hqp (by decide))
    clear hb hk gk HB9 HT9 HK9 HN9
    have self := HT10.out.self.cell 0
    go_wp2_with fail
    rw [HV1.out]
    refine (IH.out b ha1 hg1 (Kb) 1 hat1 hke1 (by omega) (by omega) (bs0 ++ ((funcT 9).data.toList ++ [40]) ++ a.str 1 ++ [44, 32]) w10 (by (try simp only [List.length_append, List.length_cons, List.length_nil]); omega) HT10.out HB10.out).mono ?_
    rintro en w11 ⟨rfl, hb, hk⟩
    have HT11 := hide (HT10.out.kept hk)
    have HB11 := hide hb
    have HK11 := hide (HK10.out.trans hk)
    have HN11 := hide (hk.blk HN10.out hqp (by decide))
    clear hb hk self HB10 HT10 HK10 HN10
    have hls1 := str_len b hg1 1
    go_wp2
    rw [rounds_succ]
    have gk : w11.cell? ⟨bk, offk + 2, none⟩ = some (.int .i64 (v2)) := (HK11.out.bel.cell (p := ⟨bk, offk + 2, none⟩) hbk).trans GK2.out
    go_wp2_with fail
    refine (txt_write pb (bs0 ++ ((funcT 9).data.toList ++ [40]) ++ a.str 1 ++ [44, 32] ++ b.str 1) ⟨#[44, 32]⟩ w11 HB11.out (by show _ + 2 ≤ 1000000; (try simp only [List.length_append, List.length_cons, List.length_nil]); omega) (Nat.le_of_lt HT11.out.pos)).mono ?_
    rintro en w12 ⟨rfl, hb, hk⟩
    have HT12 := hide (HT11.out.kept hk)
    have HB12 : Hid (BuiF pb pb (Lib.byteCells (bs0 ++ ((funcT 9).data.toList ++ [40]) ++ a.str 1 ++ [44, 32] ++ b.str 1 ++ [44, 32])) w12) := hide hb
    have HK12 := hide (HK11.out.trans hk)
    have HN12 := hide (hk.blk HN11.out hqp (by decide))
    clear hb hk gk HB11 HT11 HK11 HN11
    have self := HT12.out.self.cell 0
    go_wp2_with fail
    rw [HV2.out]
    refine (IH.out d ha2 hg2 (Kd) 1 hat2 hke2 (by omega) (by omega) (bs0 ++ ((funcT 9).data.toList ++ [40]) ++ a.str 1 ++ [44, 32] ++ b.str 1 ++ [44, 32]) w12 (by (try simp only [List.length_append, List.length_cons, List.length_nil]); omega) HT12.out HB12.out).mono ?_
    rintro en w13 ⟨rfl, hb, hk⟩
    have HT13 := hide (HT12.out.kept hk)
    have HB13 := hide hb
    have HK13 := hide (HK12.out.trans hk)
    have HN13 := hide (hk.blk HN12.out hqp (by decide))
    clear hb hk self HB12 HT12 HK12 HN12
    have hls2 := str_len d hg2 1
    go_wp2
    rw [rounds_succ]
    have n3 := HN13.out.cell 3
    go_wp2_with fail
    refine (txt_write pb (bs0 ++ ((funcT 9).data.toList ++ [40]) ++ a.str 1 ++ [44, 32] ++ b.str 1 ++ [44, 32] ++ d.str 1) ⟨#[41]⟩ w13 HB13.out (by show _ + 1 ≤ 1000000; (try simp only [List.length_append, List.length_cons, List.length_nil]); omega) (Nat.le_of_lt HT13.out.pos)).mono ?_
    rintro en w14 ⟨rfl, hb, hk⟩
    have HT14 := hide (HT13.out.kept hk)
    have HB14 : Hid (BuiF pb pb (Lib.byteCells (bs0 ++ ((funcT 9).data.toList ++ [40]) ++ a.str 1 ++ [44, 32] ++ b.str 1 ++ [44, 32] ++ d.str 1 ++ [41])) w14) := hide hb
    have HK14 := hide (HK13.out.trans hk)
    clear hb hk n3 HB13 HT13 HK13 HN13
    go_wp2
    exact FIN.out _ _ _ rfl (by simpa only [List.append_assoc, List.cons_append, List.nil_append] using HB14.out) HK14.out (by  (try simp only [List.length_append, List.length_cons, List.length_nil]); omega)
end
theorem bin_own {op : Int} (h : binOp op) : op = 10 ∨ op = 11 ∨ (op = 3 ∨ op = 4) ∨ (op = 5 ∨ op = 6) ∨ op = 7 ∨ op = 8 := by
  unfold binOp at h
  omega
section
variable {pe pb pw : Nat} {A : Option Addr} {c : Nat} {e : List Nod}
theorem txt_all (hen : ∀ x ∈ e, x.name.size ≤ maxLen) (he3 : e.length ≤ 300) : ∀ N, TIH pe pb pw A c e N
  | 0 => fun s hs => absurd hs (Nat.not_lt_zero _)
  | N + 1 => fun s hs hg K m hat hke hm1 hm5 => by
    have IH := txt_all hen he3 N
    cases s with
    | leaf x =>
      have hx : nodAt e K = x := hat.one
      have hk := leaf_kids hg
      have hidx : K < e.length := by simp only [Tr.size] at hke; omega
      show TGo pe pb pw A c e 1 (K + 1 - 1) m (parenS 5 m (if x.op = 1 then itoa x.n else x.name.data.toList))
      rw [Nat.add_sub_cancel]
      have hf := hg.1
      rcases leaf_good hg with ⟨ho, h0, h1⟩ | ⟨ho, hn⟩
      · have hne : x.name = ByteArray.empty := by
          unfold formedL at hf
          rw [if_pos ho] at hf
          simp only [Bool.and_eq_true, decide_eq_true_eq] at hf
          exact hf.2.1.1
        rw [if_pos ho]
        obtain ⟨op, n, nm, ks⟩ := x
        simp only at ho hk hne h0 h1
        subst ho hk hne
        exact txt_num IH h0 h1 hx hidx hm1 hm5 hen he3
      · have hn0 : x.n = 0 := by
          unfold formedL at hf
          rw [if_neg (by omega), if_pos ho] at hf
          simp only [Bool.and_eq_true, decide_eq_true_eq] at hf
          exact hf.2.1.1
        have h24 : x.name.size ≤ 24 := by
          unfold nameB at hn
          simp only [Bool.and_eq_true, decide_eq_true_eq] at hn
          have := hn.1.1.2
          omega
        rw [if_neg (by omega)]
        obtain ⟨op, n, nm, ks⟩ := x
        simp only at ho hk hn0 h24
        subst ho hk hn0
        exact txt_name IH h24 hx hidx hm1 hm5 hen he3
    | un a =>
      have hn := AtL.right hat
      rw [Tr.flat_len] at hn
      have hn := hn.one
      simp only [Tr.size] at hs hke
      have hp := a.size_pos
      show TGo pe pb pw A c e (a.size + 1) (K + (a.size + 1) - 1) m (parenS 4 m (45 :: a.str 4))
      rw [show K + (a.size + 1) - 1 = K + a.size from by omega]
      exact txt_un IH a (by omega) hg hat.left (by omega) (by omega) hn (by omega) hm1 hm5 hen he3
    | bin op a b =>
      have hn := AtL.right hat
      rw [List.length_append, Tr.flat_len, Tr.flat_len, ← Nat.add_assoc] at hn
      have hn := hn.one
      have hl := hat.left.left
      have hr := hat.left.right
      rw [Tr.flat_len] at hr
      simp only [Tr.size] at hs hke
      have hp := a.size_pos
      have hp' := b.size_pos
      obtain ⟨hb, hga, hgb⟩ := hg
      show TGo pe pb pw A c e (a.size + b.size + 1) (K + (a.size + b.size + 1) - 1) m (parenS (ownB op) m (if ownB op = 5 then (funcT op).data.toList ++ (40 :: (a.str 1 ++ (44 :: 32 :: (b.str 1 ++ [41]))))
        else if ownB op = 1 then a.str 2 ++ (32 :: ((infixT op).data.toList ++ (32 :: b.str 2))) else a.str (ownB op) ++ (32 :: ((infixT op).data.toList ++ (32 :: b.str (ownB op + 1))))))
      rw [show K + (a.size + b.size + 1) - 1 = K + a.size + b.size from by omega]
      rcases bin_own hb with h | h | h | h | h
      · have ho : ownB op = 1 := by unfold ownB; rw [if_pos (Or.inl h)]
        rw [ho]
        exact txt_weak IH (Or.inl h) a (by omega) hga hl (by omega) (by omega) b (by omega) hgb hr (by omega) (by omega) hn (by omega) hm1 hm5 hen he3
      · have ho : ownB op = 1 := by unfold ownB; rw [if_pos (Or.inr h)]
        rw [ho]
        exact txt_weak IH (Or.inr h) a (by omega) hga hl (by omega) (by omega) b (by omega) hgb hr (by omega) (by omega) hn (by omega) hm1 hm5 hen he3
      · have ho : ownB op = 2 := by unfold ownB; rw [if_neg (by omega), if_pos h]
        rw [ho]
        exact txt_sum IH h a (by omega) hga hl (by omega) (by omega) b (by omega) hgb hr (by omega) (by omega) hn (by omega) hm1 hm5 hen he3
      · have ho : ownB op = 3 := by unfold ownB; rw [if_neg (by omega), if_neg (by omega), if_pos h]
        rw [ho]
        exact txt_prod IH h a (by omega) hga hl (by omega) (by omega) b (by omega) hgb hr (by omega) (by omega) hn (by omega) hm1 hm5 hen he3
      · have ho : ownB op = 5 := by unfold ownB; rw [if_neg (by omega), if_neg (by omega), if_neg (by omega)]
        rw [ho]
        exact txt_fun2 IH h a (by omega) hga hl (by omega) (by omega) b (by omega) hgb hr (by omega) (by omega) hn (by omega) hm1 hm5 hen he3
    | cond a b d =>
      have hn := AtL.right hat
      rw [List.length_append, List.length_append, Tr.flat_len, Tr.flat_len, Tr.flat_len, ← Nat.add_assoc, ← Nat.add_assoc] at hn
      have hn := hn.one
      have hl := hat.left.left.left
      have hr := hat.left.left.right
      rw [Tr.flat_len] at hr
      have hd := hat.left.right
      rw [List.length_append, Tr.flat_len, Tr.flat_len, ← Nat.add_assoc] at hd
      simp only [Tr.size] at hs hke
      have hp := a.size_pos
      have hp' := b.size_pos
      have hp'' := d.size_pos
      obtain ⟨hga, hgb, hgd⟩ := hg
      show TGo pe pb pw A c e (a.size + b.size + d.size + 1) (K + (a.size + b.size + d.size + 1) - 1) m (parenS 5 m ((funcT 9).data.toList ++ (40 :: (a.str 1 ++ (44 :: 32 :: (b.str 1 ++ (44 :: 32 :: (d.str 1 ++ [41]))))))))
      rw [show K + (a.size + b.size + d.size + 1) - 1 = K + a.size + b.size + d.size from by omega]
      exact txt_fun3 IH a (by omega) hga hl (by omega) (by omega) b (by omega) hgb hr (by omega) (by omega) d (by omega) hgd hd (by omega) (by omega) hn (by omega) hm1 hm5 hen he3
end
theorem Pow.pos {w : World} (h : Pow w) : 0 < w.heap.size := by
  have h : Lib.TabIs Tryz.prog w pow10Name .u64 Lib.pow10Tab := h
  unfold Lib.TabIs World.var? at h
  rw [pow_glob, Option.bind_some] at h
  rcases Nat.eq_zero_or_pos w.heap.size with hz | hz
  · rw [Array.getElem?_eq_none (by omega)] at h
    cases h
  · exact hz
set_option maxHeartbeats 2000000 in
set_option maxRecDepth 100000 in
/-- expr.Text of an expression that is not valid. -/
theorem text_none (A : Option Addr) (c : Nat) (e : List Nod) (w : World) (h : ExprAt w w.heap.size A e) (hn : ∀ x ∈ e, x.name.size ≤ maxLen) (hm : e.length ≤ maxLen) (hv : validL e = false) :
    Calls Tryz.prog 29 #[.slice A e.length c] w fun en w' => en = .returned (.tuple #[.string ⟨#[]⟩, .int .i64 1]) ∧ Below w.heap.size w w' := by
  have hb1 : Below w.heap.size w (w.alloc (Obj.cells #[.slice A e.length c] 24)) := (Below.refl _ _).alloc (Nat.le_refl _) _
  have h1 := h.next hb1
  have HB := hide hb1
  unfold maxLen at hm
  have HM : Hid (e.length ≤ maxLen) := hm
  have HN := hide hn
  clear hb1 hn
  go_enter Tryz.func29, Tryz.ntmps29
  go_wp2_with fail
  refine (valid_any A c e _ h1 HN.out HM.out).mono ?_
  rintro en w2 ⟨rfl, hb2⟩
  have HB2 := hide (HB.out.trans (hb2.mono HB.out.size))
  clear hb2
  rw [hv]
  go_wp2
  go_ret2
  exact ⟨rfl, HB2.out⟩
set_option maxHeartbeats 2000000 in
set_option maxRecDepth 100000 in
/-- expr.Text of a valid expression. -/
theorem text_valid (A : Option Addr) (c : Nat) (e : List Nod) (w : World) (h : ExprAt w w.heap.size A e) (hn : ∀ x ∈ e, x.name.size ≤ maxLen) (ht : Pow w) {t : Tr} (hg : t.good) (he : e = t.flat 0) (hv : validL e = true) :
    Calls Tryz.prog 29 #[.slice A e.length c] w fun en w' => en = .returned (.tuple #[.string ⟨(t.str 1).toArray⟩, .int .i64 0]) ∧ Below w.heap.size w w' := by
  have hmf : ∀ (fn : Fn) (first cap : Array Value) (w : World), (Instr.makeFunc fn first cap).run Tryz.prog w = .ok (.func fn first cap) w := fun _ _ _ _ => rfl
  have hb1 : Below w.heap.size w (w.alloc (Obj.cells #[.slice A e.length c] 24)) := (Below.refl _ _).alloc (Nat.le_refl _) _
  have hB1 : Blk (w.alloc (Obj.cells #[.slice A e.length c] 24)) w.heap.size 24 #[.slice A e.length c] := Blk.new _ _ _
  have h1 := h.next hb1
  have HB := hide hb1
  have HB1 := hide hB1
  have hlen : e.length = t.size := by rw [he, Tr.flat_len]
  have hsz : t.size ≤ 300 := by
    have := tree_valid_iff hg
    rw [← he, hv] at this
    simp only [Bool.true_eq, Bool.and_eq_true, decide_eq_true_eq] at this
    exact this.1
  have hp1 := t.size_pos
  have HM : Hid (e.length ≤ maxLen) := hide (by unfold maxLen; omega)
  have he1 : 1 ≤ (e.length : Int) := by omega
  have he2 : (e.length : Int) ≤ 300 := by omega
  have HN := hide hn
  have HE := hide he
  have HL := hide hlen
  have HT := hide ht
  have H := hide h
  clear hb1 hn he hlen ht h
  have H1 := hide h1
  clear h1 hB1
  go_enter Tryz.func29, Tryz.ntmps29
  go_wp2_with fail
  refine (valid_any A c e _ H1.out HN.out HM.out).mono ?_
  rintro en w2 ⟨rfl, hb2⟩
  have HB2 := hide (HB.out.trans (hb2.mono HB.out.size))
  have HC2 := hide (HB1.out.below hb2 HB1.out.lt)
  have hlt2 := HC2.out.lt
  have c2 := HC2.out.cell 0
  clear hb2 HB HB1 H1
  rw [hv]
  have H2 := hide ((H.out.next (HB2.out)))
  have key : ∀ F : Value, F = .func (.func 71) #[] #[.pointer (some ⟨w.heap.size, 0, none⟩), .pointer (some ⟨w2.heap.size, 0, none⟩), .pointer (some ⟨w2.heap.size + 1, 0, none⟩)] →
      TEnv ((w2.alloc (Obj.cells #[Value.pointer none, Value.slice none 0 0] 120)).alloc (Obj.cells #[F] 121)) w.heap.size w2.heap.size (w2.heap.size + 1) A c e ∧
      BuiF w2.heap.size w2.heap.size (Lib.byteCells []) ((w2.alloc (Obj.cells #[Value.pointer none, Value.slice none 0 0] 120)).alloc (Obj.cells #[F] 121)) ∧
      Below w2.heap.size w2 ((w2.alloc (Obj.cells #[Value.pointer none, Value.slice none 0 0] 120)).alloc (Obj.cells #[F] 121)) := by
    rintro F rfl
    have b34 : ∀ F : Value, Below w2.heap.size w2 ((w2.alloc (Obj.cells #[Value.pointer none, Value.slice none 0 0] 120)).alloc (Obj.cells #[F] 121)) := fun F =>
      ((Below.refl _ _).alloc (Nat.le_refl _) _).alloc (by simp) _
    have n4 := fun F => Blk.new (w2.alloc (Obj.cells #[Value.pointer none, Value.slice none 0 0] 120)) 121 #[F]
    simp only [World.size_alloc] at n4
    have b0 : BuiF w2.heap.size w2.heap.size (Lib.byteCells []) (w2.alloc (Obj.cells #[Value.pointer none, Value.slice none 0 0] 120)) := Lib.IsBuilderF.of (Lib.fresh_isBuilder 120 5 w2)
    exact ⟨⟨HC2.out.below (b34 _) hlt2, n4 _, H2.out.below (b34 _), (HT.out.below HB2.out HT.out.pos).below (b34 _) (Nat.lt_of_le_of_lt (Nat.zero_le _) hlt2), hlt2, Nat.lt_succ_self _⟩, b0.alloc _, b34 _⟩
  have KEY := hide key
  clear key H HC2
  go_wp2_with fail
  obtain ⟨k1, k2, k3⟩ := KEY.out _ rfl
  have K3 := hide (HB2.out.trans (k3.mono HB2.out.size))
  have hat : AtL e 0 (t.flat 0) := by
    have := HE.out
    subst this
    exact atL_self _
  have hq : (e.length : Int) - 1 = ((0 + t.size - 1 : Nat) : Int) := by
    have := HL.out
    omega
  rw [hq]
  have hcall := txt_all (pe := w.heap.size) (pb := w2.heap.size) (pw := w2.heap.size + 1) (A := A) (c := c) (e := e) HN.out (by omega) (t.size + 1) t (Nat.lt_succ_self _) hg 0 1 hat (by have := HL.out; omega) (Nat.le_refl _) (by omega) [] _ (by simp only [List.length_nil]; omega) k1 k2
  refine hcall.mono ?_
  rintro en w5 ⟨rfl, hb, hk⟩
  have HB5 := hide hb
  have HK5 := hide (K3.out.trans (hk.bel.mono HB2.out.size))
  have hps := hk.bel.size
  have hlt5 : w2.heap.size ≤ w5.heap.size := by simp at hps; omega
  clear hb hk k1 k2 k3 hcall KEY hps hat hq
  go_wp2_with fail
  refine (Tryz.Builder_String_any_k w2.heap.size w2.heap.size (t.str 1) w5 HB5.out hlt5).mono ?_
  rintro en w6 ⟨rfl, _, hb6, _⟩
  have HB6 := hide (HK5.out.trans (hb6.mono HB2.out.size))
  clear hb6
  go_wp2
  go_ret2
  exact ⟨rfl, HB6.out⟩
end Go.Proofs.YtkomgidcgepknaaGreatDoor

set_option linter.unusedVariables false
set_option linter.unusedSimpArgs false
namespace Go.Proofs.YtkomgidcgepknaaGreatDoor
open Go.RowKit Go.Deep Go.Maps Go.Lib

set_option maxHeartbeats 2000000 in
theorem rstrength_any (op : Int) (w : World) : Calls Tryz.prog 130 #[.int .i64 op] w fun e w' => e = .returned (.int .i64 (strength op)) ∧ w = w' := by
  have H : ∀ v, (if op = 10 ∨ op = 11 then 1 else if op = 3 ∨ op = 4 then 2 else if op = 5 ∨ op = 6 then 3 else if op = 12 then 4 else 5) = v → strength op = v := fun v h => h
  have HH := hide H
  clear H
  go_enter Tryz.func130, Tryz.ntmps130
  go_wp2
  all_goals go_ret
  all_goals refine ⟨ret_int (HH.out _ ?_).symm, rfl⟩
  all_goals first | (simp_all; done) | (repeat' split) <;> simp_all <;> omega

/-- The sign of an operator with blanks around it. -/
def signT (op : Int) : ByteArray := ⟨#[32]⟩ ++ infixT op ++ ⟨#[32]⟩
theorem sign_data (op : Int) : (signT op).data.toList = 32 :: ((infixT op).data.toList ++ [32]) := by
  unfold signT
  simp [ByteArray.data_append]
set_option maxHeartbeats 2000000 in
theorem rsign_any (op : Int) (hop : op = 10 ∨ op = 11 ∨ op = 3 ∨ op = 4 ∨ op = 5 ∨ op = 6) (w : World) : Calls Tryz.prog 132 #[.int .i64 op] w fun e w' => e = .returned (.string (signT op)) ∧ w = w' := by
  have H : (signT 10 = ⟨#[32, 60, 32]⟩ ∧ signT 11 = ⟨#[32, 61, 61, 32]⟩ ∧ signT 3 = ⟨#[32, 43, 32]⟩) ∧ (signT 4 = ⟨#[32, 45, 32]⟩ ∧ signT 5 = ⟨#[32, 42, 32]⟩ ∧ signT 6 = ⟨#[32, 47, 32]⟩) := by
    refine ⟨⟨?_, ?_, ?_⟩, ?_, ?_, ?_⟩ <;> rfl
  have HH := hide H
  clear H
  rcases hop with rfl | rfl | rfl | rfl | rfl | rfl
  all_goals
    go_enter Tryz.func132, Tryz.ntmps132
    go_wp2
    go_ret
  · exact ⟨by rw [HH.out.1.1]; rfl, rfl⟩
  · exact ⟨by rw [HH.out.1.2.1]; rfl, rfl⟩
  · exact ⟨by rw [HH.out.1.2.2]; rfl, rfl⟩
  · exact ⟨by rw [HH.out.2.1]; rfl, rfl⟩
  · exact ⟨by rw [HH.out.2.2.1]; rfl, rfl⟩
  · exact ⟨by rw [HH.out.2.2.2]; rfl, rfl⟩
end Go.Proofs.YtkomgidcgepknaaGreatDoor

set_option linter.unusedVariables false
set_option linter.unusedSimpArgs false
namespace Go.Proofs.YtkomgidcgepknaaGreatDoor
open Go.RowKit Go.Deep Go.Maps Go.Lib

/-- The digits of v, none for 0. -/
def digV (v : Nat) : List UInt8 := if v = 0 then [] else decDigits v
theorem digV_step {v : Nat} (h : 0 < v) : digV v = digV (v / 10) ++ [UInt8.ofNat (48 + v % 10)] := by
  unfold digV
  rw [if_neg (by omega)]
  by_cases h10 : v < 10
  · rw [if_pos (by omega), decDigits, dif_pos h10, show v % 10 = v by omega]
    rfl
  · rw [if_neg (by omega), decDigits, dif_neg h10]
/-- One digit. -/
def digT (d : Nat) : ByteArray := (⟨#[48, 49, 50, 51, 52, 53, 54, 55, 56, 57]⟩ : ByteArray).extract d (d + 1)
theorem digT_data {d : Nat} (h : d < 10) : (digT d).data.toList = [UInt8.ofNat (48 + d)] := by
  have : ∀ k : Fin 10, (digT k.val).data.toList = [UInt8.ofNat (48 + k.val)] := by decide
  exact this ⟨d, h⟩
theorem digT_size {d : Nat} (h : d < 10) : (digT d).size = 1 := by
  have := congrArg List.length (digT_data h)
  simpa using this

set_option maxHeartbeats 2000000 in
set_option maxRecDepth 20000 in
theorem rdigits_any (n : Nat) (hn : n ≤ 1000000) (w : World) : Calls Tryz.prog 131 #[.int .i64 n] w fun e w' => e = .returned (.string ⟨(decDigits n).toArray⟩) ∧ w = w' := by
  go_enter Tryz.func131, Tryz.ntmps131
  go_wp2
  go_loopg [0, 3, 4] (n + 1) (fun g t0 t3 t4 wr => ∃ (v i : Nat) (out : ByteArray), t0 = .int .i64 v ∧ t3 = .string out ∧ t4 = .int .i64 i ∧ i + v ≤ n + 1 ∧ out.size ≤ i ∧ g = v + (if i = 0 then 1 else 0) ∧ ((i = 0 ∧ v = n ∧ out = ByteArray.empty) ∨ (0 < i ∧ decDigits n = digV v ++ out.data.toList)) ∧ w = wr)
  case atStart => exact ⟨n, 0, ByteArray.empty, rfl, rfl, rfl, by omega, Nat.le_refl _, rfl, .inl ⟨rfl, rfl, rfl⟩, rfl⟩
  case round =>
    obtain ⟨v, i, out, rfl, rfl, rfl, hiv, hos, hg, hinv, rfl⟩ := hrel
    have HINV := hide hinv
    have HG := hide hg
    clear hinv hg
    by_cases hgo : i = 0 ∨ 0 < v
    · have hd : v % 10 < 10 := Nat.mod_lt _ (by decide)
      have hsz : ((⟨#[48, 49, 50, 51, 52, 53, 54, 55, 56, 57]⟩ : ByteArray).extract (v % 10) (v % 10 + 1) ++ out).size ≤ i + 1 := by
        have := digT_size hd
        unfold digT at this
        rw [ByteArray.size_append, this]
        omega
      have hdat : ((⟨#[48, 49, 50, 51, 52, 53, 54, 55, 56, 57]⟩ : ByteArray).extract (v % 10) (v % 10 + 1) ++ out).data.toList = UInt8.ofNat (48 + v % 10) :: out.data.toList := by
        have := digT_data hd
        unfold digT at this
        rw [ByteArray.data_append, Array.toList_append, this]
        rfl
      have HSZ := hide hsz
      have hnew : decDigits n = digV (v / 10) ++ (UInt8.ofNat (48 + v % 10) :: out.data.toList) := by
        rcases HINV.out with ⟨rfl, rfl, rfl⟩ | ⟨hi, h⟩
        · by_cases hv0 : v = 0
          · subst hv0
            unfold digV decDigits
            rfl
          · have h1 := digV_step (v := v) (by omega)
            have h2 : digV v = decDigits v := by unfold digV; rw [if_neg hv0]
            rw [← h2, h1]
            rfl
        · have hv0 : 0 < v := by omega
          rw [h, digV_step hv0, List.append_assoc]
          rfl
      have HNEW := hide hnew
      have HDAT := hide hdat
      clear hsz hdat hnew
      by_cases hi0 : i = 0
      · subst hi0
        go_wp2
        go_roundg (v / 10)
        case measure => have := HG.out; simp at this; omega
        case rel => exact ⟨v / 10, 1, _, by go_num, rfl, by go_num, by omega, HSZ.out, by rw [if_neg (by decide)]; rfl, .inr ⟨by decide, by rw [HDAT.out]; exact HNEW.out⟩, rfl⟩
      · have hi1 : ((i : Int) == 0) = false := beq_eq_false_iff_ne.2 (by omega)
        have hv0 : (0 : Int) < (v : Int) := by omega
        go_wp2
        go_roundg (v / 10)
        case measure => have := HG.out; rw [if_neg hi0] at this; omega
        case rel => exact ⟨v / 10, i + 1, _, by go_num, rfl, by go_num, by omega, HSZ.out, by rw [if_neg (by omega)]; rfl, .inr ⟨by omega, by rw [HDAT.out]; exact HNEW.out⟩, rfl⟩
    · have hv : v = 0 := by omega
      have hi0 : 0 < i := by omega
      subst hv
      have hout : decDigits n = out.data.toList := by
        rcases HINV.out with ⟨h1, h2⟩ | ⟨h1, h2⟩
        · omega
        · exact h2
      have HOUT : Hid (out = ⟨(decDigits n).toArray⟩) := hide (by rw [hout])
      have hi1 : ((i : Int) == 0) = false := beq_eq_false_iff_ne.2 (by omega)
      clear hout
      go_wp2
      go_ret
      exact ⟨by rw [← HOUT.out]; rfl, rfl⟩
end Go.Proofs.YtkomgidcgepknaaGreatDoor

set_option linter.unusedVariables false
set_option linter.unusedSimpArgs false
namespace Go.Proofs.YtkomgidcgepknaaGreatDoor
open Go.RowKit Go.Deep Go.Maps Go.Lib

theorem bs_ext {a : ByteArray} {l : List UInt8} (h : a.data.toList = l) : a = ⟨l.toArray⟩ := by
  subst h
  rfl
theorem bs_list (l : List UInt8) : (⟨l.toArray⟩ : ByteArray).data.toList = l := by simp
theorem bs_size (l : List UInt8) : (⟨l.toArray⟩ : ByteArray).size = l.length := by
  show (l.toArray).size = _
  simp
theorem bs_par (o : ByteArray) : (⟨#[40]⟩ : ByteArray) ++ o ++ ⟨#[41]⟩ = ⟨(40 :: (o.data.toList ++ [41])).toArray⟩ := bs_ext (by simp [ByteArray.data_append])
variable {A : Option Addr} {c : Nat} {e : List Nod} {B : Nat}
/-- text returns l for the node idx at the strength m. -/
def RTgo (A : Option Addr) (c : Nat) (e : List Nod) (B : Nat) (idx m : Nat) (l : List UInt8) : Prop := ∀ (w : World), ExprAt w B A e → B ≤ w.heap.size →
  Calls Tryz.prog 79 #[.slice A e.length c, .int .i64 (idx : Int), .int .i64 (m : Int)] w fun en w' => en = .returned (.string ⟨l.toArray⟩) ∧ Below w.heap.size w w'
def RTih (A : Option Addr) (c : Nat) (e : List Nod) (B : Nat) (N : Nat) : Prop := ∀ (s : Tr), s.size < N → s.good → ∀ (K m : Nat), AtL e K (s.flat K) → K + s.size ≤ e.length → 1 ≤ m → m ≤ 5 → RTgo A c e B (K + s.size - 1) m (s.str m)

set_option maxHeartbeats 4000000 in
set_option maxRecDepth 100000 in
theorem rtx_num {v : Nat} (hv1 : v ≤ 1000000) {idx m : Nat} (hx : nodAt e idx = ⟨1, v, ByteArray.empty, []⟩) (hidx : idx < e.length) (hm1 : 1 ≤ m) (hm5 : m ≤ 5) (he3 : e.length ≤ 300) :
    RTgo A c e B idx m (parenS 5 m (decDigits v)) := by
  intro w hE hBw
  obtain ⟨be, offe, K', kc, rfl, hbe, x0, x1, x2, x3, hKd⟩ := hE.at_ hidx
  rw [hx] at x0 x1 x2 x3 hKd
  have x0 : w.cell? ⟨be, offe + idx * 4, none⟩ = some (.int .i64 1) := x0
  have x1 : w.cell? ⟨be, offe + idx * 4 + 1, none⟩ = some (.int .i64 v) := x1
  have x2 : w.cell? ⟨be, offe + idx * 4 + 2, none⟩ = some (.string ByteArray.empty) := x2
  have x3 : w.cell? ⟨be, offe + idx * 4 + 3, none⟩ = some (.slice K' 0 kc) := x3
  have hB5 : Blk (w.alloc (Obj.cells #[.int .i64 1, .int .i64 v, .string ByteArray.empty, .slice K' 0 kc] 56)) w.heap.size 56 #[.int .i64 1, .int .i64 v, .string ByteArray.empty, .slice K' 0 kc] := Blk.new _ _ _
  have HB5 : Hid (Below w.heap.size w (w.alloc (Obj.cells #[.int .i64 1, .int .i64 v, .string ByteArray.empty, .slice K' 0 kc] 56))) := hide ((Below.refl _ _).alloc (Nat.le_refl _) _)
  have i0 : (0 : Int) ≤ (idx : Int) := Int.natCast_nonneg _
  have i1 : (idx : Int) < (e.length : Int) := Int.ofNat_lt.2 hidx
  have i2 : (idx : Int) + 1 ≤ (e.length : Int) := by omega
  clear hKd hx hE
  have HP : Hid (parenS 5 m (decDigits v) = decDigits v) := hide (by unfold parenS; rw [if_neg (by omega)])
  have d1 : decide ((5 : Int) < (m : Int)) = false := decide_eq_false (by omega)
  have d2 : ¬ (5 : Int) < (m : Int) := by omega
  go_enter Tryz.func79, Tryz.ntmps79
  go_upto_region 2 with (fail)
  generalize w.alloc (Obj.cells #[.int .i64 1, .int .i64 v, .string ByteArray.empty, .slice K' 0 kc] 56) = w5 at hB5 HB5 ⊢
  obtain ⟨y0, y1, y2, y3, _, _, _, _⟩ := blk4 hB5
  clear x0 x1 x2 x3 hB5
  go_wp2_with fail
  refine (rstrength_any _ w5).mono ?_
  rintro en w' ⟨rfl, rfl⟩
  rw [show strength 1 = 5 from by decide]
  go_wp2_with fail
  refine (rdigits_any v hv1 w5).mono ?_
  rintro en w' ⟨rfl, rfl⟩
  go_wp2
  go_ret
  exact ⟨by rw [HP.out]; rfl, HB5.out⟩

set_option maxHeartbeats 4000000 in
set_option maxRecDepth 100000 in
theorem rtx_name {nm : ByteArray} {idx m : Nat} (hx : nodAt e idx = ⟨2, 0, nm, []⟩) (hidx : idx < e.length) (hm1 : 1 ≤ m) (hm5 : m ≤ 5) (he3 : e.length ≤ 300) :
    RTgo A c e B idx m (parenS 5 m nm.data.toList) := by
  intro w hE hBw
  obtain ⟨be, offe, K', kc, rfl, hbe, x0, x1, x2, x3, hKd⟩ := hE.at_ hidx
  rw [hx] at x0 x1 x2 x3 hKd
  have x0 : w.cell? ⟨be, offe + idx * 4, none⟩ = some (.int .i64 2) := x0
  have x1 : w.cell? ⟨be, offe + idx * 4 + 1, none⟩ = some (.int .i64 0) := x1
  have x2 : w.cell? ⟨be, offe + idx * 4 + 2, none⟩ = some (.string nm) := x2
  have x3 : w.cell? ⟨be, offe + idx * 4 + 3, none⟩ = some (.slice K' 0 kc) := x3
  have hB5 : Blk (w.alloc (Obj.cells #[.int .i64 2, .int .i64 0, .string nm, .slice K' 0 kc] 56)) w.heap.size 56 #[.int .i64 2, .int .i64 0, .string nm, .slice K' 0 kc] := Blk.new _ _ _
  have HB5 : Hid (Below w.heap.size w (w.alloc (Obj.cells #[.int .i64 2, .int .i64 0, .string nm, .slice K' 0 kc] 56))) := hide ((Below.refl _ _).alloc (Nat.le_refl _) _)
  have i0 : (0 : Int) ≤ (idx : Int) := Int.natCast_nonneg _
  have i1 : (idx : Int) < (e.length : Int) := Int.ofNat_lt.2 hidx
  have i2 : (idx : Int) + 1 ≤ (e.length : Int) := by omega
  clear hKd hx hE
  have HP : Hid (parenS 5 m nm.data.toList = nm.data.toList) := hide (by unfold parenS; rw [if_neg (by omega)])
  have d1 : decide ((5 : Int) < (m : Int)) = false := decide_eq_false (by omega)
  have d2 : ¬ (5 : Int) < (m : Int) := by omega
  go_enter Tryz.func79, Tryz.ntmps79
  go_upto_region 2 with (fail)
  generalize w.alloc (Obj.cells #[.int .i64 2, .int .i64 0, .string nm, .slice K' 0 kc] 56) = w5 at hB5 HB5 ⊢
  obtain ⟨y0, y1, y2, y3, _, _, _, _⟩ := blk4 hB5
  clear x0 x1 x2 x3 hB5
  go_wp2_with fail
  refine (rstrength_any _ w5).mono ?_
  rintro en w' ⟨rfl, rfl⟩
  rw [show strength 2 = 5 from by decide]
  go_wp2
  go_ret
  exact ⟨by rw [HP.out]; rfl, HB5.out⟩
end Go.Proofs.YtkomgidcgepknaaGreatDoor

set_option linter.unusedVariables false
set_option linter.unusedSimpArgs false
namespace Go.Proofs.YtkomgidcgepknaaGreatDoor
open Go.RowKit Go.Deep Go.Maps Go.Lib
variable {A : Option Addr} {c : Nat} {e : List Nod} {B : Nat}

/-- An operand's call. -/
def RTkid (A : Option Addr) (c : Nat) (e : List Nod) (B : Nat) (v : Int) (m : Nat) (l : List UInt8) : Prop := l.length ≤ 7800 ∧ ∀ (w : World), ExprAt w B A e → B ≤ w.heap.size →
  Calls Tryz.prog 79 #[.slice A e.length c, .int .i64 v, .int .i64 (m : Int)] w fun en w' => en = .returned (.string ⟨l.toArray⟩) ∧ Below w.heap.size w w'
theorem rtx_kid {N : Nat} (IH : RTih A c e B N) {a : Tr} (ha : a.size < N) (hg : a.good) {Ka : Nat} (hat : AtL e Ka (a.flat Ka)) {v : Int} (hv : v = ((Ka + a.size - 1 : Nat) : Int)) (hke : Ka + a.size ≤ e.length) (he3 : e.length ≤ 300) {m : Nat} (hm1 : 1 ≤ m) (hm5 : m ≤ 5) :
    RTkid A c e B v m (a.str m) := by
  subst hv
  refine ⟨?_, IH a ha hg Ka m hat hke hm1 hm5⟩
  have := str_len a hg m
  omega

set_option maxHeartbeats 4000000 in
set_option maxRecDepth 100000 in
theorem rtx_un {v0 : Int} {l0 : List UInt8} (h0 : RTkid A c e B v0 4 l0) {idx m : Nat} (hx : nodAt e idx = ⟨12, 0, ByteArray.empty, [v0]⟩) (hidx : idx < e.length) (he3 : e.length ≤ 300) :
    RTgo A c e B idx m (parenS 4 m (45 :: l0)) := by
  obtain ⟨hl0, hc0⟩ := h0
  intro w hE hBw
  obtain ⟨be, offe, K', kc, rfl, hbe, x0, x1, x2, x3, hKd⟩ := hE.at_ hidx
  rw [hx] at x0 x1 x2 x3 hKd
  have x0 : w.cell? ⟨be, offe + idx * 4, none⟩ = some (.int .i64 12) := x0
  have x1 : w.cell? ⟨be, offe + idx * 4 + 1, none⟩ = some (.int .i64 0) := x1
  have x2 : w.cell? ⟨be, offe + idx * 4 + 2, none⟩ = some (.string ByteArray.empty) := x2
  have x3 : w.cell? ⟨be, offe + idx * 4 + 3, none⟩ = some (.slice K' 1 kc) := x3
  have hKd : RI w B K' 1 [v0] := hKd
  obtain ⟨kb, ko, rfl, hkb, z0⟩ := hKd.at_ (k := 0) (by decide)
  have z0 : w.cell? ⟨kb, ko, none⟩ = some (.int .i64 v0) := z0
  have hB5 : Blk (w.alloc (Obj.cells #[.int .i64 12, .int .i64 0, .string ByteArray.empty, .slice (some ⟨kb, ko, none⟩) 1 kc] 56)) w.heap.size 56 #[.int .i64 12, .int .i64 0, .string ByteArray.empty, .slice (some ⟨kb, ko, none⟩) 1 kc] := Blk.new _ _ _
  have hb5 : Below w.heap.size w (w.alloc (Obj.cells #[.int .i64 12, .int .i64 0, .string ByteArray.empty, .slice (some ⟨kb, ko, none⟩) 1 kc] 56)) := (Below.refl _ _).alloc (Nat.le_refl _) _
  have HE5 := hide (hE.keep (w' := (w.alloc (Obj.cells #[.int .i64 12, .int .i64 0, .string ByteArray.empty, .slice (some ⟨kb, ko, none⟩) 1 kc] 56))) (fun p hp => hb5.cell (Nat.lt_of_lt_of_le hp hBw)))
  have HB5 := hide hb5
  have z0' : (w.alloc (Obj.cells #[.int .i64 12, .int .i64 0, .string ByteArray.empty, .slice (some ⟨kb, ko, none⟩) 1 kc] 56)).cell? ⟨kb, ko, none⟩ = some (.int .i64 v0) := (hb5.cell (p := ⟨kb, ko, none⟩) (Nat.lt_of_lt_of_le hkb hBw)).trans z0
  have i0 : (0 : Int) ≤ (idx : Int) := Int.natCast_nonneg _
  have i1 : (idx : Int) < (e.length : Int) := Int.ofNat_lt.2 hidx
  have i2 : (idx : Int) + 1 ≤ (e.length : Int) := by omega
  clear hKd hx hE hb5
  go_enter Tryz.func79, Tryz.ntmps79
  go_upto_region 2 with (fail)
  generalize (w.alloc (Obj.cells #[.int .i64 12, .int .i64 0, .string ByteArray.empty, .slice (some ⟨kb, ko, none⟩) 1 kc] 56)) = w5 at hB5 HB5 HE5 z0' ⊢
  have HN5 := hide hB5
  obtain ⟨y0, y1, y2, y3, _, _, _, _⟩ := blk4 hB5
  have hlt5 := hB5.lt
  clear x0 x1 x2 x3 hB5 z0
  go_wp2_with fail
  refine (rstrength_any _ w5).mono ?_
  rintro en w' ⟨rfl, rfl⟩
  rw [show strength 12 = 4 from by decide]
  have HC0 := hide (hc0 w5 HE5.out (Nat.le_trans hBw HB5.out.size))
  clear hc0
  go_wp2_with fail
  refine HC0.out.mono ?_
  rintro en w9 ⟨rfl, hb9⟩
  have HB9 := hide (HB5.out.trans (hb9.mono HB5.out.size))
  clear hb9 HC0 y0 y1 y2 y3
  obtain ⟨o0, ho0⟩ : ∃ o0 : ByteArray, o0 = ⟨l0.toArray⟩ := ⟨_, rfl⟩
  rw [← ho0]
  have hs0 : o0.size ≤ 7800 := by rw [ho0, bs_size]; exact hl0
  have hs1 : ((⟨#[45]⟩ : ByteArray) ++ o0).size ≤ 7801 := by
    rw [ByteArray.size_append]
    have : (⟨#[45]⟩ : ByteArray).size = 1 := rfl
    omega
  have HO' : Hid ((⟨#[45]⟩ : ByteArray) ++ o0 = ⟨(45 :: l0).toArray⟩) := hide (bs_ext (by rw [ho0]; simp [ByteArray.data_append]))
  clear ho0
  go_upto_region 21 with (fail)
  generalize hoo : (⟨#[45]⟩ : ByteArray) ++ o0 = o at HO' hs1 ⊢
  have HO := HO'
  clear hoo HO'
  by_cases hlt : 4 < m
  · have d2 : (4 : Int) < (m : Int) := by omega
    have HR : Hid ((⟨#[40]⟩ : ByteArray) ++ o ++ ⟨#[41]⟩ = ⟨(parenS 4 m (45 :: l0)).toArray⟩) := hide (by
      unfold parenS
      rw [if_pos hlt, bs_par, HO.out, bs_list])
    go_wp2
    go_ret
    exact ⟨by rw [← HR.out]; rfl, HB9.out⟩
  · have d2 : ¬ (4 : Int) < (m : Int) := by omega
    have HR : Hid (o = ⟨(parenS 4 m (45 :: l0)).toArray⟩) := hide (by
      unfold parenS
      rw [if_neg hlt, HO.out])
    go_wp2
    go_ret
    exact ⟨by rw [← HR.out]; rfl, HB9.out⟩

set_option maxHeartbeats 8000000 in
set_option maxRecDepth 100000 in
theorem rtx_10 {v0 v1 : Int} {l0 l1 : List UInt8} (h0 : RTkid A c e B v0 2 l0) (h1 : RTkid A c e B v1 2 l1) {idx m : Nat} (hx : nodAt e idx = ⟨10, 0, ByteArray.empty, [v0, v1]⟩) (hidx : idx < e.length) (he3 : e.length ≤ 300) :
    RTgo A c e B idx m (parenS 1 m (l0 ++ (32 :: ((infixT 10).data.toList ++ (32 :: l1))))) := by
  obtain ⟨hl0, hc0⟩ := h0
  obtain ⟨o0, ho0⟩ : ∃ o0 : ByteArray, o0 = ⟨l0.toArray⟩ := ⟨_, rfl⟩
  have hs0 : o0.size ≤ 7800 := by rw [ho0, bs_size]; exact hl0
  rw [← ho0] at hc0
  have HC0 := hide hc0
  have hd0 : o0.data.toList = l0 := by rw [ho0, bs_list]
  clear hc0 hl0 ho0
  obtain ⟨hl1, hc1⟩ := h1
  obtain ⟨o1, ho1⟩ : ∃ o1 : ByteArray, o1 = ⟨l1.toArray⟩ := ⟨_, rfl⟩
  have hs1 : o1.size ≤ 7800 := by rw [ho1, bs_size]; exact hl1
  rw [← ho1] at hc1
  have HC1 := hide hc1
  have hd1 : o1.data.toList = l1 := by rw [ho1, bs_list]
  clear hc1 hl1 ho1
  obtain ⟨sg, hsg⟩ : ∃ sg, sg = signT 10 := ⟨_, rfl⟩
  have hsd : sg.data.toList = 32 :: ((infixT 10).data.toList ++ [32]) := by rw [hsg, sign_data]
  have hss : sg.size ≤ 4 := by rw [hsg]; decide
  have HSG := hide (fun w => rsign_any 10 (by decide) w)
  rw [← hsg] at HSG
  clear hsg
  have hq1 : (o0 ++ sg).size ≤ 7804 := by
    rw [ByteArray.size_append]
    omega
  have hr1 : ∀ w, (Op.stringOp .add (o0) (sg)).run Tryz.prog w = .ok (.string (o0 ++ sg)) w := fun w => run_string_add_sum w _ _ (by have := hq1; rw [ByteArray.size_append] at this; omega)
  have hq2 : (o0 ++ sg ++ o1).size ≤ 15604 := by
    rw [ByteArray.size_append]
    omega
  have hr2 : ∀ w, (Op.stringOp .add (o0 ++ sg) (o1)).run Tryz.prog w = .ok (.string (o0 ++ sg ++ o1)) w := fun w => run_string_add_sum w _ _ (by have := hq2; rw [ByteArray.size_append] at this; omega)
  have HO : Hid (o0 ++ sg ++ o1 = ⟨(l0 ++ (32 :: ((infixT 10).data.toList ++ (32 :: l1)))).toArray⟩) := hide (bs_ext (by simp [ByteArray.data_append, hd0, hd1, hsd, infixT]))
  intro w hE hBw
  obtain ⟨be, offe, K', kc, rfl, hbe, x0, x1, x2, x3, hKd⟩ := hE.at_ hidx
  rw [hx] at x0 x1 x2 x3 hKd
  have x0 : w.cell? ⟨be, offe + idx * 4, none⟩ = some (.int .i64 10) := x0
  have x1 : w.cell? ⟨be, offe + idx * 4 + 1, none⟩ = some (.int .i64 0) := x1
  have x2 : w.cell? ⟨be, offe + idx * 4 + 2, none⟩ = some (.string ByteArray.empty) := x2
  have x3 : w.cell? ⟨be, offe + idx * 4 + 3, none⟩ = some (.slice K' 2 kc) := x3
  have hKd : RI w B K' 2 [v0, v1] := hKd
  obtain ⟨kb, ko, rfl, hkb, z0⟩ := hKd.at_ (k := 0) (by decide)
  have z0 : w.cell? ⟨kb, ko, none⟩ = some (.int .i64 v0) := z0
  obtain ⟨kb', ko', hkk, -, z1⟩ := hKd.at_ (k := 1) (by decide)
  injection hkk with hkk
  injection hkk with hk1 hk2
  subst hk1 hk2
  have z1 : w.cell? ⟨kb, ko + 1, none⟩ = some (.int .i64 v1) := z1
  have hB5 : Blk (w.alloc (Obj.cells #[.int .i64 10, .int .i64 0, .string ByteArray.empty, .slice (some ⟨kb, ko, none⟩) 2 kc] 56)) w.heap.size 56 #[.int .i64 10, .int .i64 0, .string ByteArray.empty, .slice (some ⟨kb, ko, none⟩) 2 kc] := Blk.new _ _ _
  have hb5 : Below w.heap.size w (w.alloc (Obj.cells #[.int .i64 10, .int .i64 0, .string ByteArray.empty, .slice (some ⟨kb, ko, none⟩) 2 kc] 56)) := (Below.refl _ _).alloc (Nat.le_refl _) _
  have HE5 := hide (hE.keep (w' := (w.alloc (Obj.cells #[.int .i64 10, .int .i64 0, .string ByteArray.empty, .slice (some ⟨kb, ko, none⟩) 2 kc] 56))) (fun p hp => hb5.cell (Nat.lt_of_lt_of_le hp hBw)))
  have HB5 := hide hb5
  have z0' : (w.alloc (Obj.cells #[.int .i64 10, .int .i64 0, .string ByteArray.empty, .slice (some ⟨kb, ko, none⟩) 2 kc] 56)).cell? ⟨kb, ko, none⟩ = some (.int .i64 v0) := (hb5.cell (p := ⟨kb, ko, none⟩) (Nat.lt_of_lt_of_le hkb hBw)).trans z0
  have z1' : (w.alloc (Obj.cells #[.int .i64 10, .int .i64 0, .string ByteArray.empty, .slice (some ⟨kb, ko, none⟩) 2 kc] 56)).cell? ⟨kb, ko + 1, none⟩ = some (.int .i64 v1) := (hb5.cell (p := ⟨kb, ko + 1, none⟩) (Nat.lt_of_lt_of_le hkb hBw)).trans z1
  have i0 : (0 : Int) ≤ (idx : Int) := Int.natCast_nonneg _
  have i1 : (idx : Int) < (e.length : Int) := Int.ofNat_lt.2 hidx
  have i2 : (idx : Int) + 1 ≤ (e.length : Int) := by omega
  clear hKd hx hE hb5
  go_enter Tryz.func79, Tryz.ntmps79
  go_upto_region 2 with (fail)
  generalize (w.alloc (Obj.cells #[.int .i64 10, .int .i64 0, .string ByteArray.empty, .slice (some ⟨kb, ko, none⟩) 2 kc] 56)) = w5 at hB5 HB5 HE5 z0' z1' ⊢
  have HN5 := hide hB5
  obtain ⟨y0, y1, y2, y3, _, _, _, _⟩ := blk4 hB5
  have hlt5 := hB5.lt
  clear x0 x1 x2 x3 hB5 z0 z1
  go_wp2_with fail
  refine (rstrength_any _ w5).mono ?_
  rintro en w' ⟨rfl, rfl⟩
  rw [show strength 10 = 1 from by decide]
  have hkw : kb < w5.heap.size := Nat.lt_of_lt_of_le hkb (Nat.le_trans hBw HB5.out.size)
  have KEEP : Hid (∀ w', Below w5.heap.size w5 w' → (w'.cell? ⟨w.heap.size, 0, none⟩ = some (.int .i64 10) ∧ w'.cell? ⟨w.heap.size, 3, none⟩ = some (.slice (some ⟨kb, ko, none⟩) 2 kc) ∧ w'.cell? ⟨kb, ko, none⟩ = some (.int .i64 v0) ∧ w'.cell? ⟨kb, ko + 1, none⟩ = some (.int .i64 v1))) := hide (fun w' hb => ⟨(hb.cell (p := ⟨w.heap.size, 0, none⟩) hlt5).trans y0, (hb.cell (p := ⟨w.heap.size, 3, none⟩) hlt5).trans y3, (hb.cell (p := ⟨kb, ko, none⟩) hkw).trans z0', (hb.cell (p := ⟨kb, ko + 1, none⟩) hkw).trans z1'⟩)
  have HBw := hide (Nat.le_trans hBw HB5.out.size)
  have K5 := hide (KEEP.out w5.drew (Below.drew (Below.refl _ _)))
  go_upto_region 20 with (fail)
  go_region_held3 (fun w' => w'.cell? ⟨w.heap.size, 0, none⟩ = some (.int .i64 10) ∧ w'.cell? ⟨w.heap.size, 3, none⟩ = some (.slice (some ⟨kb, ko, none⟩) 2 kc) ∧ w'.cell? ⟨kb, ko, none⟩ = some (.int .i64 v0) ∧ w'.cell? ⟨kb, ko + 1, none⟩ = some (.int .i64 v1))
    (first | go_keep | exact K5.out | exact K6.out | exact K7.out)
    (first
      | (go_at_call 79; refine (HC0.out w5.drew (HE5.out.keep (fun p hp => (Below.drew (Below.refl w5.heap.size w5)).cell (Nat.lt_of_lt_of_le hp HBw.out))) (Nat.le_trans HBw.out (Below.drew (Below.refl w5.heap.size w5)).size)).mono ?_; rintro en w6 ⟨rfl, b6⟩; have B6 : Hid (Below w5.heap.size w5 w6) := hide (Below.trans (Below.drew (Below.refl w5.heap.size w5)) (b6.mono (Below.drew (Below.refl w5.heap.size w5)).size)); have K6 := hide (KEEP.out w6 B6.out); clear b6 HC0)
      | (go_at_call 132; refine (HSG.out _).mono ?_; rintro en wx ⟨rfl, rfl⟩)
      | (go_at_call 79; refine (HC1.out w6 (HE5.out.keep (fun p hp => B6.out.cell (Nat.lt_of_lt_of_le hp HBw.out))) (Nat.le_trans HBw.out B6.out.size)).mono ?_; rintro en w7 ⟨rfl, b7⟩; have B7 : Hid (Below w5.heap.size w5 w7) := hide (Below.trans B6.out (b7.mono B6.out.size)); have K7 := hide (KEEP.out w7 B7.out); clear b7 HC1))
  have HB9 := hide (HB5.out.trans (B7.out.mono HB5.out.size))
  clear K6 B6 K7 B7 KEEP K5 HE5 HN5 y0 y1 y2 y3 z0' z1'
  go_upto_region 21 with (fail)
  generalize hoo : o0 ++ sg ++ o1 = o at HO hq2 ⊢
  clear hoo
  by_cases hlt : 1 < m
  · have d2 : (1 : Int) < (m : Int) := by omega
    have HR : Hid ((⟨#[40]⟩ : ByteArray) ++ o ++ ⟨#[41]⟩ = ⟨(parenS 1 m (l0 ++ (32 :: ((infixT 10).data.toList ++ (32 :: l1))))).toArray⟩) := hide (by
      unfold parenS
      rw [if_pos hlt, bs_par, HO.out, bs_list])
    go_wp2
    go_ret
    exact ⟨by rw [← HR.out]; rfl, HB9.out⟩
  · have d2 : ¬ (1 : Int) < (m : Int) := by omega
    have HR : Hid (o = ⟨(parenS 1 m (l0 ++ (32 :: ((infixT 10).data.toList ++ (32 :: l1))))).toArray⟩) := hide (by
      unfold parenS
      rw [if_neg hlt, HO.out])
    go_wp2
    go_ret
    exact ⟨by rw [← HR.out]; rfl, HB9.out⟩

set_option maxHeartbeats 8000000 in
set_option maxRecDepth 100000 in
theorem rtx_11 {v0 v1 : Int} {l0 l1 : List UInt8} (h0 : RTkid A c e B v0 2 l0) (h1 : RTkid A c e B v1 2 l1) {idx m : Nat} (hx : nodAt e idx = ⟨11, 0, ByteArray.empty, [v0, v1]⟩) (hidx : idx < e.length) (he3 : e.length ≤ 300) :
    RTgo A c e B idx m (parenS 1 m (l0 ++ (32 :: ((infixT 11).data.toList ++ (32 :: l1))))) := by
  obtain ⟨hl0, hc0⟩ := h0
  obtain ⟨o0, ho0⟩ : ∃ o0 : ByteArray, o0 = ⟨l0.toArray⟩ := ⟨_, rfl⟩
  have hs0 : o0.size ≤ 7800 := by rw [ho0, bs_size]; exact hl0
  rw [← ho0] at hc0
  have HC0 := hide hc0
  have hd0 : o0.data.toList = l0 := by rw [ho0, bs_list]
  clear hc0 hl0 ho0
  obtain ⟨hl1, hc1⟩ := h1
  obtain ⟨o1, ho1⟩ : ∃ o1 : ByteArray, o1 = ⟨l1.toArray⟩ := ⟨_, rfl⟩
  have hs1 : o1.size ≤ 7800 := by rw [ho1, bs_size]; exact hl1
  rw [← ho1] at hc1
  have HC1 := hide hc1
  have hd1 : o1.data.toList = l1 := by rw [ho1, bs_list]
  clear hc1 hl1 ho1
  obtain ⟨sg, hsg⟩ : ∃ sg, sg = signT 11 := ⟨_, rfl⟩
  have hsd : sg.data.toList = 32 :: ((infixT 11).data.toList ++ [32]) := by rw [hsg, sign_data]
  have hss : sg.size ≤ 4 := by rw [hsg]; decide
  have HSG := hide (fun w => rsign_any 11 (by decide) w)
  rw [← hsg] at HSG
  clear hsg
  have hq1 : (o0 ++ sg).size ≤ 7804 := by
    rw [ByteArray.size_append]
    omega
  have hr1 : ∀ w, (Op.stringOp .add (o0) (sg)).run Tryz.prog w = .ok (.string (o0 ++ sg)) w := fun w => run_string_add_sum w _ _ (by have := hq1; rw [ByteArray.size_append] at this; omega)
  have hq2 : (o0 ++ sg ++ o1).size ≤ 15604 := by
    rw [ByteArray.size_append]
    omega
  have hr2 : ∀ w, (Op.stringOp .add (o0 ++ sg) (o1)).run Tryz.prog w = .ok (.string (o0 ++ sg ++ o1)) w := fun w => run_string_add_sum w _ _ (by have := hq2; rw [ByteArray.size_append] at this; omega)
  have HO : Hid (o0 ++ sg ++ o1 = ⟨(l0 ++ (32 :: ((infixT 11).data.toList ++ (32 :: l1)))).toArray⟩) := hide (bs_ext (by simp [ByteArray.data_append, hd0, hd1, hsd, infixT]))
  intro w hE hBw
  obtain ⟨be, offe, K', kc, rfl, hbe, x0, x1, x2, x3, hKd⟩ := hE.at_ hidx
  rw [hx] at x0 x1 x2 x3 hKd
  have x0 : w.cell? ⟨be, offe + idx * 4, none⟩ = some (.int .i64 11) := x0
  have x1 : w.cell? ⟨be, offe + idx * 4 + 1, none⟩ = some (.int .i64 0) := x1
  have x2 : w.cell? ⟨be, offe + idx * 4 + 2, none⟩ = some (.string ByteArray.empty) := x2
  have x3 : w.cell? ⟨be, offe + idx * 4 + 3, none⟩ = some (.slice K' 2 kc) := x3
  have hKd : RI w B K' 2 [v0, v1] := hKd
  obtain ⟨kb, ko, rfl, hkb, z0⟩ := hKd.at_ (k := 0) (by decide)
  have z0 : w.cell? ⟨kb, ko, none⟩ = some (.int .i64 v0) := z0
  obtain ⟨kb', ko', hkk, -, z1⟩ := hKd.at_ (k := 1) (by decide)
  injection hkk with hkk
  injection hkk with hk1 hk2
  subst hk1 hk2
  have z1 : w.cell? ⟨kb, ko + 1, none⟩ = some (.int .i64 v1) := z1
  have hB5 : Blk (w.alloc (Obj.cells #[.int .i64 11, .int .i64 0, .string ByteArray.empty, .slice (some ⟨kb, ko, none⟩) 2 kc] 56)) w.heap.size 56 #[.int .i64 11, .int .i64 0, .string ByteArray.empty, .slice (some ⟨kb, ko, none⟩) 2 kc] := Blk.new _ _ _
  have hb5 : Below w.heap.size w (w.alloc (Obj.cells #[.int .i64 11, .int .i64 0, .string ByteArray.empty, .slice (some ⟨kb, ko, none⟩) 2 kc] 56)) := (Below.refl _ _).alloc (Nat.le_refl _) _
  have HE5 := hide (hE.keep (w' := (w.alloc (Obj.cells #[.int .i64 11, .int .i64 0, .string ByteArray.empty, .slice (some ⟨kb, ko, none⟩) 2 kc] 56))) (fun p hp => hb5.cell (Nat.lt_of_lt_of_le hp hBw)))
  have HB5 := hide hb5
  have z0' : (w.alloc (Obj.cells #[.int .i64 11, .int .i64 0, .string ByteArray.empty, .slice (some ⟨kb, ko, none⟩) 2 kc] 56)).cell? ⟨kb, ko, none⟩ = some (.int .i64 v0) := (hb5.cell (p := ⟨kb, ko, none⟩) (Nat.lt_of_lt_of_le hkb hBw)).trans z0
  have z1' : (w.alloc (Obj.cells #[.int .i64 11, .int .i64 0, .string ByteArray.empty, .slice (some ⟨kb, ko, none⟩) 2 kc] 56)).cell? ⟨kb, ko + 1, none⟩ = some (.int .i64 v1) := (hb5.cell (p := ⟨kb, ko + 1, none⟩) (Nat.lt_of_lt_of_le hkb hBw)).trans z1
  have i0 : (0 : Int) ≤ (idx : Int) := Int.natCast_nonneg _
  have i1 : (idx : Int) < (e.length : Int) := Int.ofNat_lt.2 hidx
  have i2 : (idx : Int) + 1 ≤ (e.length : Int) := by omega
  clear hKd hx hE hb5
  go_enter Tryz.func79, Tryz.ntmps79
  go_upto_region 2 with (fail)
  generalize (w.alloc (Obj.cells #[.int .i64 11, .int .i64 0, .string ByteArray.empty, .slice (some ⟨kb, ko, none⟩) 2 kc] 56)) = w5 at hB5 HB5 HE5 z0' z1' ⊢
  have HN5 := hide hB5
  obtain ⟨y0, y1, y2, y3, _, _, _, _⟩ := blk4 hB5
  have hlt5 := hB5.lt
  clear x0 x1 x2 x3 hB5 z0 z1
  go_wp2_with fail
  refine (rstrength_any _ w5).mono ?_
  rintro en w' ⟨rfl, rfl⟩
  rw [show strength 11 = 1 from by decide]
  have hkw : kb < w5.heap.size := Nat.lt_of_lt_of_le hkb (Nat.le_trans hBw HB5.out.size)
  have KEEP : Hid (∀ w', Below w5.heap.size w5 w' → (w'.cell? ⟨w.heap.size, 0, none⟩ = some (.int .i64 11) ∧ w'.cell? ⟨w.heap.size, 3, none⟩ = some (.slice (some ⟨kb, ko, none⟩) 2 kc) ∧ w'.cell? ⟨kb, ko, none⟩ = some (.int .i64 v0) ∧ w'.cell? ⟨kb, ko + 1, none⟩ = some (.int .i64 v1))) := hide (fun w' hb => ⟨(hb.cell (p := ⟨w.heap.size, 0, none⟩) hlt5).trans y0, (hb.cell (p := ⟨w.heap.size, 3, none⟩) hlt5).trans y3, (hb.cell (p := ⟨kb, ko, none⟩) hkw).trans z0', (hb.cell (p := ⟨kb, ko + 1, none⟩) hkw).trans z1'⟩)
  have HBw := hide (Nat.le_trans hBw HB5.out.size)
  have K5 := hide (KEEP.out w5.drew (Below.drew (Below.refl _ _)))
  go_upto_region 20 with (fail)
  go_region_held3 (fun w' => w'.cell? ⟨w.heap.size, 0, none⟩ = some (.int .i64 11) ∧ w'.cell? ⟨w.heap.size, 3, none⟩ = some (.slice (some ⟨kb, ko, none⟩) 2 kc) ∧ w'.cell? ⟨kb, ko, none⟩ = some (.int .i64 v0) ∧ w'.cell? ⟨kb, ko + 1, none⟩ = some (.int .i64 v1))
    (first | go_keep | exact K5.out | exact K6.out | exact K7.out)
    (first
      | (go_at_call 79; refine (HC0.out w5.drew (HE5.out.keep (fun p hp => (Below.drew (Below.refl w5.heap.size w5)).cell (Nat.lt_of_lt_of_le hp HBw.out))) (Nat.le_trans HBw.out (Below.drew (Below.refl w5.heap.size w5)).size)).mono ?_; rintro en w6 ⟨rfl, b6⟩; have B6 : Hid (Below w5.heap.size w5 w6) := hide (Below.trans (Below.drew (Below.refl w5.heap.size w5)) (b6.mono (Below.drew (Below.refl w5.heap.size w5)).size)); have K6 := hide (KEEP.out w6 B6.out); clear b6 HC0)
      | (go_at_call 132; refine (HSG.out _).mono ?_; rintro en wx ⟨rfl, rfl⟩)
      | (go_at_call 79; refine (HC1.out w6 (HE5.out.keep (fun p hp => B6.out.cell (Nat.lt_of_lt_of_le hp HBw.out))) (Nat.le_trans HBw.out B6.out.size)).mono ?_; rintro en w7 ⟨rfl, b7⟩; have B7 : Hid (Below w5.heap.size w5 w7) := hide (Below.trans B6.out (b7.mono B6.out.size)); have K7 := hide (KEEP.out w7 B7.out); clear b7 HC1))
  have HB9 := hide (HB5.out.trans (B7.out.mono HB5.out.size))
  clear K6 B6 K7 B7 KEEP K5 HE5 HN5 y0 y1 y2 y3 z0' z1'
  go_upto_region 21 with (fail)
  generalize hoo : o0 ++ sg ++ o1 = o at HO hq2 ⊢
  clear hoo
  by_cases hlt : 1 < m
  · have d2 : (1 : Int) < (m : Int) := by omega
    have HR : Hid ((⟨#[40]⟩ : ByteArray) ++ o ++ ⟨#[41]⟩ = ⟨(parenS 1 m (l0 ++ (32 :: ((infixT 11).data.toList ++ (32 :: l1))))).toArray⟩) := hide (by
      unfold parenS
      rw [if_pos hlt, bs_par, HO.out, bs_list])
    go_wp2
    go_ret
    exact ⟨by rw [← HR.out]; rfl, HB9.out⟩
  · have d2 : ¬ (1 : Int) < (m : Int) := by omega
    have HR : Hid (o = ⟨(parenS 1 m (l0 ++ (32 :: ((infixT 11).data.toList ++ (32 :: l1))))).toArray⟩) := hide (by
      unfold parenS
      rw [if_neg hlt, HO.out])
    go_wp2
    go_ret
    exact ⟨by rw [← HR.out]; rfl, HB9.out⟩

set_option maxHeartbeats 8000000 in
set_option maxRecDepth 100000 in
theorem rtx_3 {v0 v1 : Int} {l0 l1 : List UInt8} (h0 : RTkid A c e B v0 2 l0) (h1 : RTkid A c e B v1 3 l1) {idx m : Nat} (hx : nodAt e idx = ⟨3, 0, ByteArray.empty, [v0, v1]⟩) (hidx : idx < e.length) (he3 : e.length ≤ 300) :
    RTgo A c e B idx m (parenS 2 m (l0 ++ (32 :: ((infixT 3).data.toList ++ (32 :: l1))))) := by
  obtain ⟨hl0, hc0⟩ := h0
  obtain ⟨o0, ho0⟩ : ∃ o0 : ByteArray, o0 = ⟨l0.toArray⟩ := ⟨_, rfl⟩
  have hs0 : o0.size ≤ 7800 := by rw [ho0, bs_size]; exact hl0
  rw [← ho0] at hc0
  have HC0 := hide hc0
  have hd0 : o0.data.toList = l0 := by rw [ho0, bs_list]
  clear hc0 hl0 ho0
  obtain ⟨hl1, hc1⟩ := h1
  obtain ⟨o1, ho1⟩ : ∃ o1 : ByteArray, o1 = ⟨l1.toArray⟩ := ⟨_, rfl⟩
  have hs1 : o1.size ≤ 7800 := by rw [ho1, bs_size]; exact hl1
  rw [← ho1] at hc1
  have HC1 := hide hc1
  have hd1 : o1.data.toList = l1 := by rw [ho1, bs_list]
  clear hc1 hl1 ho1
  obtain ⟨sg, hsg⟩ : ∃ sg, sg = signT 3 := ⟨_, rfl⟩
  have hsd : sg.data.toList = 32 :: ((infixT 3).data.toList ++ [32]) := by rw [hsg, sign_data]
  have hss : sg.size ≤ 4 := by rw [hsg]; decide
  have HSG := hide (fun w => rsign_any 3 (by decide) w)
  rw [← hsg] at HSG
  clear hsg
  have hq1 : (o0 ++ sg).size ≤ 7804 := by
    rw [ByteArray.size_append]
    omega
  have hr1 : ∀ w, (Op.stringOp .add (o0) (sg)).run Tryz.prog w = .ok (.string (o0 ++ sg)) w := fun w => run_string_add_sum w _ _ (by have := hq1; rw [ByteArray.size_append] at this; omega)
  have hq2 : (o0 ++ sg ++ o1).size ≤ 15604 := by
    rw [ByteArray.size_append]
    omega
  have hr2 : ∀ w, (Op.stringOp .add (o0 ++ sg) (o1)).run Tryz.prog w = .ok (.string (o0 ++ sg ++ o1)) w := fun w => run_string_add_sum w _ _ (by have := hq2; rw [ByteArray.size_append] at this; omega)
  have HO : Hid (o0 ++ sg ++ o1 = ⟨(l0 ++ (32 :: ((infixT 3).data.toList ++ (32 :: l1)))).toArray⟩) := hide (bs_ext (by simp [ByteArray.data_append, hd0, hd1, hsd, infixT]))
  intro w hE hBw
  obtain ⟨be, offe, K', kc, rfl, hbe, x0, x1, x2, x3, hKd⟩ := hE.at_ hidx
  rw [hx] at x0 x1 x2 x3 hKd
  have x0 : w.cell? ⟨be, offe + idx * 4, none⟩ = some (.int .i64 3) := x0
  have x1 : w.cell? ⟨be, offe + idx * 4 + 1, none⟩ = some (.int .i64 0) := x1
  have x2 : w.cell? ⟨be, offe + idx * 4 + 2, none⟩ = some (.string ByteArray.empty) := x2
  have x3 : w.cell? ⟨be, offe + idx * 4 + 3, none⟩ = some (.slice K' 2 kc) := x3
  have hKd : RI w B K' 2 [v0, v1] := hKd
  obtain ⟨kb, ko, rfl, hkb, z0⟩ := hKd.at_ (k := 0) (by decide)
  have z0 : w.cell? ⟨kb, ko, none⟩ = some (.int .i64 v0) := z0
  obtain ⟨kb', ko', hkk, -, z1⟩ := hKd.at_ (k := 1) (by decide)
  injection hkk with hkk
  injection hkk with hk1 hk2
  subst hk1 hk2
  have z1 : w.cell? ⟨kb, ko + 1, none⟩ = some (.int .i64 v1) := z1
  have hB5 : Blk (w.alloc (Obj.cells #[.int .i64 3, .int .i64 0, .string ByteArray.empty, .slice (some ⟨kb, ko, none⟩) 2 kc] 56)) w.heap.size 56 #[.int .i64 3, .int .i64 0, .string ByteArray.empty, .slice (some ⟨kb, ko, none⟩) 2 kc] := Blk.new _ _ _
  have hb5 : Below w.heap.size w (w.alloc (Obj.cells #[.int .i64 3, .int .i64 0, .string ByteArray.empty, .slice (some ⟨kb, ko, none⟩) 2 kc] 56)) := (Below.refl _ _).alloc (Nat.le_refl _) _
  have HE5 := hide (hE.keep (w' := (w.alloc (Obj.cells #[.int .i64 3, .int .i64 0, .string ByteArray.empty, .slice (some ⟨kb, ko, none⟩) 2 kc] 56))) (fun p hp => hb5.cell (Nat.lt_of_lt_of_le hp hBw)))
  have HB5 := hide hb5
  have z0' : (w.alloc (Obj.cells #[.int .i64 3, .int .i64 0, .string ByteArray.empty, .slice (some ⟨kb, ko, none⟩) 2 kc] 56)).cell? ⟨kb, ko, none⟩ = some (.int .i64 v0) := (hb5.cell (p := ⟨kb, ko, none⟩) (Nat.lt_of_lt_of_le hkb hBw)).trans z0
  have z1' : (w.alloc (Obj.cells #[.int .i64 3, .int .i64 0, .string ByteArray.empty, .slice (some ⟨kb, ko, none⟩) 2 kc] 56)).cell? ⟨kb, ko + 1, none⟩ = some (.int .i64 v1) := (hb5.cell (p := ⟨kb, ko + 1, none⟩) (Nat.lt_of_lt_of_le hkb hBw)).trans z1
  have i0 : (0 : Int) ≤ (idx : Int) := Int.natCast_nonneg _
  have i1 : (idx : Int) < (e.length : Int) := Int.ofNat_lt.2 hidx
  have i2 : (idx : Int) + 1 ≤ (e.length : Int) := by omega
  clear hKd hx hE hb5
  go_enter Tryz.func79, Tryz.ntmps79
  go_upto_region 2 with (fail)
  generalize (w.alloc (Obj.cells #[.int .i64 3, .int .i64 0, .string ByteArray.empty, .slice (some ⟨kb, ko, none⟩) 2 kc] 56)) = w5 at hB5 HB5 HE5 z0' z1' ⊢
  have HN5 := hide hB5
  obtain ⟨y0, y1, y2, y3, _, _, _, _⟩ := blk4 hB5
  have hlt5 := hB5.lt
  clear x0 x1 x2 x3 hB5 z0 z1
  go_wp2_with fail
  refine (rstrength_any _ w5).mono ?_
  rintro en w' ⟨rfl, rfl⟩
  rw [show strength 3 = 2 from by decide]
  have hkw : kb < w5.heap.size := Nat.lt_of_lt_of_le hkb (Nat.le_trans hBw HB5.out.size)
  have KEEP : Hid (∀ w', Below w5.heap.size w5 w' → (w'.cell? ⟨w.heap.size, 0, none⟩ = some (.int .i64 3) ∧ w'.cell? ⟨w.heap.size, 3, none⟩ = some (.slice (some ⟨kb, ko, none⟩) 2 kc) ∧ w'.cell? ⟨kb, ko, none⟩ = some (.int .i64 v0) ∧ w'.cell? ⟨kb, ko + 1, none⟩ = some (.int .i64 v1))) := hide (fun w' hb => ⟨(hb.cell (p := ⟨w.heap.size, 0, none⟩) hlt5).trans y0, (hb.cell (p := ⟨w.heap.size, 3, none⟩) hlt5).trans y3, (hb.cell (p := ⟨kb, ko, none⟩) hkw).trans z0', (hb.cell (p := ⟨kb, ko + 1, none⟩) hkw).trans z1'⟩)
  have HBw := hide (Nat.le_trans hBw HB5.out.size)
  have K5 := hide (KEEP.out w5.drew (Below.drew (Below.refl _ _)))
  go_upto_region 5 with (fail)
  go_region_held3 (fun w' => w'.cell? ⟨w.heap.size, 0, none⟩ = some (.int .i64 3) ∧ w'.cell? ⟨w.heap.size, 3, none⟩ = some (.slice (some ⟨kb, ko, none⟩) 2 kc) ∧ w'.cell? ⟨kb, ko, none⟩ = some (.int .i64 v0) ∧ w'.cell? ⟨kb, ko + 1, none⟩ = some (.int .i64 v1))
    (first | go_keep | exact K5.out | exact K6.out | exact K7.out)
    (first
      | (go_at_call 79; refine (HC0.out w5.drew (HE5.out.keep (fun p hp => (Below.drew (Below.refl w5.heap.size w5)).cell (Nat.lt_of_lt_of_le hp HBw.out))) (Nat.le_trans HBw.out (Below.drew (Below.refl w5.heap.size w5)).size)).mono ?_; rintro en w6 ⟨rfl, b6⟩; have B6 : Hid (Below w5.heap.size w5 w6) := hide (Below.trans (Below.drew (Below.refl w5.heap.size w5)) (b6.mono (Below.drew (Below.refl w5.heap.size w5)).size)); have K6 := hide (KEEP.out w6 B6.out); clear b6 HC0)
      | (go_at_call 132; refine (HSG.out _).mono ?_; rintro en wx ⟨rfl, rfl⟩)
      | (go_at_call 79; refine (HC1.out w6 (HE5.out.keep (fun p hp => B6.out.cell (Nat.lt_of_lt_of_le hp HBw.out))) (Nat.le_trans HBw.out B6.out.size)).mono ?_; rintro en w7 ⟨rfl, b7⟩; have B7 : Hid (Below w5.heap.size w5 w7) := hide (Below.trans B6.out (b7.mono B6.out.size)); have K7 := hide (KEEP.out w7 B7.out); clear b7 HC1))
  have HB9 := hide (HB5.out.trans (B7.out.mono HB5.out.size))
  clear K6 B6 K7 B7 KEEP K5 HE5 HN5 y0 y1 y2 y3 z0' z1'
  go_upto_region 21 with (fail)
  generalize hoo : o0 ++ sg ++ o1 = o at HO hq2 ⊢
  clear hoo
  by_cases hlt : 2 < m
  · have d2 : (2 : Int) < (m : Int) := by omega
    have HR : Hid ((⟨#[40]⟩ : ByteArray) ++ o ++ ⟨#[41]⟩ = ⟨(parenS 2 m (l0 ++ (32 :: ((infixT 3).data.toList ++ (32 :: l1))))).toArray⟩) := hide (by
      unfold parenS
      rw [if_pos hlt, bs_par, HO.out, bs_list])
    go_wp2
    go_ret
    exact ⟨by rw [← HR.out]; rfl, HB9.out⟩
  · have d2 : ¬ (2 : Int) < (m : Int) := by omega
    have HR : Hid (o = ⟨(parenS 2 m (l0 ++ (32 :: ((infixT 3).data.toList ++ (32 :: l1))))).toArray⟩) := hide (by
      unfold parenS
      rw [if_neg hlt, HO.out])
    go_wp2
    go_ret
    exact ⟨by rw [← HR.out]; rfl, HB9.out⟩

set_option maxHeartbeats 8000000 in
set_option maxRecDepth 100000 in
theorem rtx_4 {v0 v1 : Int} {l0 l1 : List UInt8} (h0 : RTkid A c e B v0 2 l0) (h1 : RTkid A c e B v1 3 l1) {idx m : Nat} (hx : nodAt e idx = ⟨4, 0, ByteArray.empty, [v0, v1]⟩) (hidx : idx < e.length) (he3 : e.length ≤ 300) :
    RTgo A c e B idx m (parenS 2 m (l0 ++ (32 :: ((infixT 4).data.toList ++ (32 :: l1))))) := by
  obtain ⟨hl0, hc0⟩ := h0
  obtain ⟨o0, ho0⟩ : ∃ o0 : ByteArray, o0 = ⟨l0.toArray⟩ := ⟨_, rfl⟩
  have hs0 : o0.size ≤ 7800 := by rw [ho0, bs_size]; exact hl0
  rw [← ho0] at hc0
  have HC0 := hide hc0
  have hd0 : o0.data.toList = l0 := by rw [ho0, bs_list]
  clear hc0 hl0 ho0
  obtain ⟨hl1, hc1⟩ := h1
  obtain ⟨o1, ho1⟩ : ∃ o1 : ByteArray, o1 = ⟨l1.toArray⟩ := ⟨_, rfl⟩
  have hs1 : o1.size ≤ 7800 := by rw [ho1, bs_size]; exact hl1
  rw [← ho1] at hc1
  have HC1 := hide hc1
  have hd1 : o1.data.toList = l1 := by rw [ho1, bs_list]
  clear hc1 hl1 ho1
  obtain ⟨sg, hsg⟩ : ∃ sg, sg = signT 4 := ⟨_, rfl⟩
  have hsd : sg.data.toList = 32 :: ((infixT 4).data.toList ++ [32]) := by rw [hsg, sign_data]
  have hss : sg.size ≤ 4 := by rw [hsg]; decide
  have HSG := hide (fun w => rsign_any 4 (by decide) w)
  rw [← hsg] at HSG
  clear hsg
  have hq1 : (o0 ++ sg).size ≤ 7804 := by
    rw [ByteArray.size_append]
    omega
  have hr1 : ∀ w, (Op.stringOp .add (o0) (sg)).run Tryz.prog w = .ok (.string (o0 ++ sg)) w := fun w => run_string_add_sum w _ _ (by have := hq1; rw [ByteArray.size_append] at this; omega)
  have hq2 : (o0 ++ sg ++ o1).size ≤ 15604 := by
    rw [ByteArray.size_append]
    omega
  have hr2 : ∀ w, (Op.stringOp .add (o0 ++ sg) (o1)).run Tryz.prog w = .ok (.string (o0 ++ sg ++ o1)) w := fun w => run_string_add_sum w _ _ (by have := hq2; rw [ByteArray.size_append] at this; omega)
  have HO : Hid (o0 ++ sg ++ o1 = ⟨(l0 ++ (32 :: ((infixT 4).data.toList ++ (32 :: l1)))).toArray⟩) := hide (bs_ext (by simp [ByteArray.data_append, hd0, hd1, hsd, infixT]))
  intro w hE hBw
  obtain ⟨be, offe, K', kc, rfl, hbe, x0, x1, x2, x3, hKd⟩ := hE.at_ hidx
  rw [hx] at x0 x1 x2 x3 hKd
  have x0 : w.cell? ⟨be, offe + idx * 4, none⟩ = some (.int .i64 4) := x0
  have x1 : w.cell? ⟨be, offe + idx * 4 + 1, none⟩ = some (.int .i64 0) := x1
  have x2 : w.cell? ⟨be, offe + idx * 4 + 2, none⟩ = some (.string ByteArray.empty) := x2
  have x3 : w.cell? ⟨be, offe + idx * 4 + 3, none⟩ = some (.slice K' 2 kc) := x3
  have hKd : RI w B K' 2 [v0, v1] := hKd
  obtain ⟨kb, ko, rfl, hkb, z0⟩ := hKd.at_ (k := 0) (by decide)
  have z0 : w.cell? ⟨kb, ko, none⟩ = some (.int .i64 v0) := z0
  obtain ⟨kb', ko', hkk, -, z1⟩ := hKd.at_ (k := 1) (by decide)
  injection hkk with hkk
  injection hkk with hk1 hk2
  subst hk1 hk2
  have z1 : w.cell? ⟨kb, ko + 1, none⟩ = some (.int .i64 v1) := z1
  have hB5 : Blk (w.alloc (Obj.cells #[.int .i64 4, .int .i64 0, .string ByteArray.empty, .slice (some ⟨kb, ko, none⟩) 2 kc] 56)) w.heap.size 56 #[.int .i64 4, .int .i64 0, .string ByteArray.empty, .slice (some ⟨kb, ko, none⟩) 2 kc] := Blk.new _ _ _
  have hb5 : Below w.heap.size w (w.alloc (Obj.cells #[.int .i64 4, .int .i64 0, .string ByteArray.empty, .slice (some ⟨kb, ko, none⟩) 2 kc] 56)) := (Below.refl _ _).alloc (Nat.le_refl _) _
  have HE5 := hide (hE.keep (w' := (w.alloc (Obj.cells #[.int .i64 4, .int .i64 0, .string ByteArray.empty, .slice (some ⟨kb, ko, none⟩) 2 kc] 56))) (fun p hp => hb5.cell (Nat.lt_of_lt_of_le hp hBw)))
  have HB5 := hide hb5
  have z0' : (w.alloc (Obj.cells #[.int .i64 4, .int .i64 0, .string ByteArray.empty, .slice (some ⟨kb, ko, none⟩) 2 kc] 56)).cell? ⟨kb, ko, none⟩ = some (.int .i64 v0) := (hb5.cell (p := ⟨kb, ko, none⟩) (Nat.lt_of_lt_of_le hkb hBw)).trans z0
  have z1' : (w.alloc (Obj.cells #[.int .i64 4, .int .i64 0, .string ByteArray.empty, .slice (some ⟨kb, ko, none⟩) 2 kc] 56)).cell? ⟨kb, ko + 1, none⟩ = some (.int .i64 v1) := (hb5.cell (p := ⟨kb, ko + 1, none⟩) (Nat.lt_of_lt_of_le hkb hBw)).trans z1
  have i0 : (0 : Int) ≤ (idx : Int) := Int.natCast_nonneg _
  have i1 : (idx : Int) < (e.length : Int) := Int.ofNat_lt.2 hidx
  have i2 : (idx : Int) + 1 ≤ (e.length : Int) := by omega
  clear hKd hx hE hb5
  go_enter Tryz.func79, Tryz.ntmps79
  go_upto_region 2 with (fail)
  generalize (w.alloc (Obj.cells #[.int .i64 4, .int .i64 0, .string ByteArray.empty, .slice (some ⟨kb, ko, none⟩) 2 kc] 56)) = w5 at hB5 HB5 HE5 z0' z1' ⊢
  have HN5 := hide hB5
  obtain ⟨y0, y1, y2, y3, _, _, _, _⟩ := blk4 hB5
  have hlt5 := hB5.lt
  clear x0 x1 x2 x3 hB5 z0 z1
  go_wp2_with fail
  refine (rstrength_any _ w5).mono ?_
  rintro en w' ⟨rfl, rfl⟩
  rw [show strength 4 = 2 from by decide]
  have hkw : kb < w5.heap.size := Nat.lt_of_lt_of_le hkb (Nat.le_trans hBw HB5.out.size)
  have KEEP : Hid (∀ w', Below w5.heap.size w5 w' → (w'.cell? ⟨w.heap.size, 0, none⟩ = some (.int .i64 4) ∧ w'.cell? ⟨w.heap.size, 3, none⟩ = some (.slice (some ⟨kb, ko, none⟩) 2 kc) ∧ w'.cell? ⟨kb, ko, none⟩ = some (.int .i64 v0) ∧ w'.cell? ⟨kb, ko + 1, none⟩ = some (.int .i64 v1))) := hide (fun w' hb => ⟨(hb.cell (p := ⟨w.heap.size, 0, none⟩) hlt5).trans y0, (hb.cell (p := ⟨w.heap.size, 3, none⟩) hlt5).trans y3, (hb.cell (p := ⟨kb, ko, none⟩) hkw).trans z0', (hb.cell (p := ⟨kb, ko + 1, none⟩) hkw).trans z1'⟩)
  have HBw := hide (Nat.le_trans hBw HB5.out.size)
  have K5 := hide (KEEP.out w5.drew (Below.drew (Below.refl _ _)))
  go_upto_region 5 with (fail)
  go_region_held3 (fun w' => w'.cell? ⟨w.heap.size, 0, none⟩ = some (.int .i64 4) ∧ w'.cell? ⟨w.heap.size, 3, none⟩ = some (.slice (some ⟨kb, ko, none⟩) 2 kc) ∧ w'.cell? ⟨kb, ko, none⟩ = some (.int .i64 v0) ∧ w'.cell? ⟨kb, ko + 1, none⟩ = some (.int .i64 v1))
    (first | go_keep | exact K5.out | exact K6.out | exact K7.out)
    (first
      | (go_at_call 79; refine (HC0.out w5.drew (HE5.out.keep (fun p hp => (Below.drew (Below.refl w5.heap.size w5)).cell (Nat.lt_of_lt_of_le hp HBw.out))) (Nat.le_trans HBw.out (Below.drew (Below.refl w5.heap.size w5)).size)).mono ?_; rintro en w6 ⟨rfl, b6⟩; have B6 : Hid (Below w5.heap.size w5 w6) := hide (Below.trans (Below.drew (Below.refl w5.heap.size w5)) (b6.mono (Below.drew (Below.refl w5.heap.size w5)).size)); have K6 := hide (KEEP.out w6 B6.out); clear b6 HC0)
      | (go_at_call 132; refine (HSG.out _).mono ?_; rintro en wx ⟨rfl, rfl⟩)
      | (go_at_call 79; refine (HC1.out w6 (HE5.out.keep (fun p hp => B6.out.cell (Nat.lt_of_lt_of_le hp HBw.out))) (Nat.le_trans HBw.out B6.out.size)).mono ?_; rintro en w7 ⟨rfl, b7⟩; have B7 : Hid (Below w5.heap.size w5 w7) := hide (Below.trans B6.out (b7.mono B6.out.size)); have K7 := hide (KEEP.out w7 B7.out); clear b7 HC1))
  have HB9 := hide (HB5.out.trans (B7.out.mono HB5.out.size))
  clear K6 B6 K7 B7 KEEP K5 HE5 HN5 y0 y1 y2 y3 z0' z1'
  go_upto_region 21 with (fail)
  generalize hoo : o0 ++ sg ++ o1 = o at HO hq2 ⊢
  clear hoo
  by_cases hlt : 2 < m
  · have d2 : (2 : Int) < (m : Int) := by omega
    have HR : Hid ((⟨#[40]⟩ : ByteArray) ++ o ++ ⟨#[41]⟩ = ⟨(parenS 2 m (l0 ++ (32 :: ((infixT 4).data.toList ++ (32 :: l1))))).toArray⟩) := hide (by
      unfold parenS
      rw [if_pos hlt, bs_par, HO.out, bs_list])
    go_wp2
    go_ret
    exact ⟨by rw [← HR.out]; rfl, HB9.out⟩
  · have d2 : ¬ (2 : Int) < (m : Int) := by omega
    have HR : Hid (o = ⟨(parenS 2 m (l0 ++ (32 :: ((infixT 4).data.toList ++ (32 :: l1))))).toArray⟩) := hide (by
      unfold parenS
      rw [if_neg hlt, HO.out])
    go_wp2
    go_ret
    exact ⟨by rw [← HR.out]; rfl, HB9.out⟩

set_option maxHeartbeats 8000000 in
set_option maxRecDepth 100000 in
theorem rtx_5 {v0 v1 : Int} {l0 l1 : List UInt8} (h0 : RTkid A c e B v0 3 l0) (h1 : RTkid A c e B v1 4 l1) {idx m : Nat} (hx : nodAt e idx = ⟨5, 0, ByteArray.empty, [v0, v1]⟩) (hidx : idx < e.length) (he3 : e.length ≤ 300) :
    RTgo A c e B idx m (parenS 3 m (l0 ++ (32 :: ((infixT 5).data.toList ++ (32 :: l1))))) := by
  obtain ⟨hl0, hc0⟩ := h0
  obtain ⟨o0, ho0⟩ : ∃ o0 : ByteArray, o0 = ⟨l0.toArray⟩ := ⟨_, rfl⟩
  have hs0 : o0.size ≤ 7800 := by rw [ho0, bs_size]; exact hl0
  rw [← ho0] at hc0
  have HC0 := hide hc0
  have hd0 : o0.data.toList = l0 := by rw [ho0, bs_list]
  clear hc0 hl0 ho0
  obtain ⟨hl1, hc1⟩ := h1
  obtain ⟨o1, ho1⟩ : ∃ o1 : ByteArray, o1 = ⟨l1.toArray⟩ := ⟨_, rfl⟩
  have hs1 : o1.size ≤ 7800 := by rw [ho1, bs_size]; exact hl1
  rw [← ho1] at hc1
  have HC1 := hide hc1
  have hd1 : o1.data.toList = l1 := by rw [ho1, bs_list]
  clear hc1 hl1 ho1
  obtain ⟨sg, hsg⟩ : ∃ sg, sg = signT 5 := ⟨_, rfl⟩
  have hsd : sg.data.toList = 32 :: ((infixT 5).data.toList ++ [32]) := by rw [hsg, sign_data]
  have hss : sg.size ≤ 4 := by rw [hsg]; decide
  have HSG := hide (fun w => rsign_any 5 (by decide) w)
  rw [← hsg] at HSG
  clear hsg
  have hq1 : (o0 ++ sg).size ≤ 7804 := by
    rw [ByteArray.size_append]
    omega
  have hr1 : ∀ w, (Op.stringOp .add (o0) (sg)).run Tryz.prog w = .ok (.string (o0 ++ sg)) w := fun w => run_string_add_sum w _ _ (by have := hq1; rw [ByteArray.size_append] at this; omega)
  have hq2 : (o0 ++ sg ++ o1).size ≤ 15604 := by
    rw [ByteArray.size_append]
    omega
  have hr2 : ∀ w, (Op.stringOp .add (o0 ++ sg) (o1)).run Tryz.prog w = .ok (.string (o0 ++ sg ++ o1)) w := fun w => run_string_add_sum w _ _ (by have := hq2; rw [ByteArray.size_append] at this; omega)
  have HO : Hid (o0 ++ sg ++ o1 = ⟨(l0 ++ (32 :: ((infixT 5).data.toList ++ (32 :: l1)))).toArray⟩) := hide (bs_ext (by simp [ByteArray.data_append, hd0, hd1, hsd, infixT]))
  intro w hE hBw
  obtain ⟨be, offe, K', kc, rfl, hbe, x0, x1, x2, x3, hKd⟩ := hE.at_ hidx
  rw [hx] at x0 x1 x2 x3 hKd
  have x0 : w.cell? ⟨be, offe + idx * 4, none⟩ = some (.int .i64 5) := x0
  have x1 : w.cell? ⟨be, offe + idx * 4 + 1, none⟩ = some (.int .i64 0) := x1
  have x2 : w.cell? ⟨be, offe + idx * 4 + 2, none⟩ = some (.string ByteArray.empty) := x2
  have x3 : w.cell? ⟨be, offe + idx * 4 + 3, none⟩ = some (.slice K' 2 kc) := x3
  have hKd : RI w B K' 2 [v0, v1] := hKd
  obtain ⟨kb, ko, rfl, hkb, z0⟩ := hKd.at_ (k := 0) (by decide)
  have z0 : w.cell? ⟨kb, ko, none⟩ = some (.int .i64 v0) := z0
  obtain ⟨kb', ko', hkk, -, z1⟩ := hKd.at_ (k := 1) (by decide)
  injection hkk with hkk
  injection hkk with hk1 hk2
  subst hk1 hk2
  have z1 : w.cell? ⟨kb, ko + 1, none⟩ = some (.int .i64 v1) := z1
  have hB5 : Blk (w.alloc (Obj.cells #[.int .i64 5, .int .i64 0, .string ByteArray.empty, .slice (some ⟨kb, ko, none⟩) 2 kc] 56)) w.heap.size 56 #[.int .i64 5, .int .i64 0, .string ByteArray.empty, .slice (some ⟨kb, ko, none⟩) 2 kc] := Blk.new _ _ _
  have hb5 : Below w.heap.size w (w.alloc (Obj.cells #[.int .i64 5, .int .i64 0, .string ByteArray.empty, .slice (some ⟨kb, ko, none⟩) 2 kc] 56)) := (Below.refl _ _).alloc (Nat.le_refl _) _
  have HE5 := hide (hE.keep (w' := (w.alloc (Obj.cells #[.int .i64 5, .int .i64 0, .string ByteArray.empty, .slice (some ⟨kb, ko, none⟩) 2 kc] 56))) (fun p hp => hb5.cell (Nat.lt_of_lt_of_le hp hBw)))
  have HB5 := hide hb5
  have z0' : (w.alloc (Obj.cells #[.int .i64 5, .int .i64 0, .string ByteArray.empty, .slice (some ⟨kb, ko, none⟩) 2 kc] 56)).cell? ⟨kb, ko, none⟩ = some (.int .i64 v0) := (hb5.cell (p := ⟨kb, ko, none⟩) (Nat.lt_of_lt_of_le hkb hBw)).trans z0
  have z1' : (w.alloc (Obj.cells #[.int .i64 5, .int .i64 0, .string ByteArray.empty, .slice (some ⟨kb, ko, none⟩) 2 kc] 56)).cell? ⟨kb, ko + 1, none⟩ = some (.int .i64 v1) := (hb5.cell (p := ⟨kb, ko + 1, none⟩) (Nat.lt_of_lt_of_le hkb hBw)).trans z1
  have i0 : (0 : Int) ≤ (idx : Int) := Int.natCast_nonneg _
  have i1 : (idx : Int) < (e.length : Int) := Int.ofNat_lt.2 hidx
  have i2 : (idx : Int) + 1 ≤ (e.length : Int) := by omega
  clear hKd hx hE hb5
  go_enter Tryz.func79, Tryz.ntmps79
  go_upto_region 2 with (fail)
  generalize (w.alloc (Obj.cells #[.int .i64 5, .int .i64 0, .string ByteArray.empty, .slice (some ⟨kb, ko, none⟩) 2 kc] 56)) = w5 at hB5 HB5 HE5 z0' z1' ⊢
  have HN5 := hide hB5
  obtain ⟨y0, y1, y2, y3, _, _, _, _⟩ := blk4 hB5
  have hlt5 := hB5.lt
  clear x0 x1 x2 x3 hB5 z0 z1
  go_wp2_with fail
  refine (rstrength_any _ w5).mono ?_
  rintro en w' ⟨rfl, rfl⟩
  rw [show strength 5 = 3 from by decide]
  have hkw : kb < w5.heap.size := Nat.lt_of_lt_of_le hkb (Nat.le_trans hBw HB5.out.size)
  have KEEP : Hid (∀ w', Below w5.heap.size w5 w' → (w'.cell? ⟨w.heap.size, 0, none⟩ = some (.int .i64 5) ∧ w'.cell? ⟨w.heap.size, 3, none⟩ = some (.slice (some ⟨kb, ko, none⟩) 2 kc) ∧ w'.cell? ⟨kb, ko, none⟩ = some (.int .i64 v0) ∧ w'.cell? ⟨kb, ko + 1, none⟩ = some (.int .i64 v1))) := hide (fun w' hb => ⟨(hb.cell (p := ⟨w.heap.size, 0, none⟩) hlt5).trans y0, (hb.cell (p := ⟨w.heap.size, 3, none⟩) hlt5).trans y3, (hb.cell (p := ⟨kb, ko, none⟩) hkw).trans z0', (hb.cell (p := ⟨kb, ko + 1, none⟩) hkw).trans z1'⟩)
  have HBw := hide (Nat.le_trans hBw HB5.out.size)
  have K5 := hide (KEEP.out w5.drew (Below.drew (Below.refl _ _)))
  go_upto_region 5 with (fail)
  go_region_held3 (fun w' => w'.cell? ⟨w.heap.size, 0, none⟩ = some (.int .i64 5) ∧ w'.cell? ⟨w.heap.size, 3, none⟩ = some (.slice (some ⟨kb, ko, none⟩) 2 kc) ∧ w'.cell? ⟨kb, ko, none⟩ = some (.int .i64 v0) ∧ w'.cell? ⟨kb, ko + 1, none⟩ = some (.int .i64 v1))
    (first | go_keep | exact K5.out | exact K6.out | exact K7.out)
    (first
      | (go_at_call 79; refine (HC0.out w5.drew (HE5.out.keep (fun p hp => (Below.drew (Below.refl w5.heap.size w5)).cell (Nat.lt_of_lt_of_le hp HBw.out))) (Nat.le_trans HBw.out (Below.drew (Below.refl w5.heap.size w5)).size)).mono ?_; rintro en w6 ⟨rfl, b6⟩; have B6 : Hid (Below w5.heap.size w5 w6) := hide (Below.trans (Below.drew (Below.refl w5.heap.size w5)) (b6.mono (Below.drew (Below.refl w5.heap.size w5)).size)); have K6 := hide (KEEP.out w6 B6.out); clear b6 HC0)
      | (go_at_call 132; refine (HSG.out _).mono ?_; rintro en wx ⟨rfl, rfl⟩)
      | (go_at_call 79; refine (HC1.out w6 (HE5.out.keep (fun p hp => B6.out.cell (Nat.lt_of_lt_of_le hp HBw.out))) (Nat.le_trans HBw.out B6.out.size)).mono ?_; rintro en w7 ⟨rfl, b7⟩; have B7 : Hid (Below w5.heap.size w5 w7) := hide (Below.trans B6.out (b7.mono B6.out.size)); have K7 := hide (KEEP.out w7 B7.out); clear b7 HC1))
  have HB9 := hide (HB5.out.trans (B7.out.mono HB5.out.size))
  clear K6 B6 K7 B7 KEEP K5 HE5 HN5 y0 y1 y2 y3 z0' z1'
  go_upto_region 21 with (fail)
  generalize hoo : o0 ++ sg ++ o1 = o at HO hq2 ⊢
  clear hoo
  by_cases hlt : 3 < m
  · have d2 : (3 : Int) < (m : Int) := by omega
    have HR : Hid ((⟨#[40]⟩ : ByteArray) ++ o ++ ⟨#[41]⟩ = ⟨(parenS 3 m (l0 ++ (32 :: ((infixT 5).data.toList ++ (32 :: l1))))).toArray⟩) := hide (by
      unfold parenS
      rw [if_pos hlt, bs_par, HO.out, bs_list])
    go_wp2
    go_ret
    exact ⟨by rw [← HR.out]; rfl, HB9.out⟩
  · have d2 : ¬ (3 : Int) < (m : Int) := by omega
    have HR : Hid (o = ⟨(parenS 3 m (l0 ++ (32 :: ((infixT 5).data.toList ++ (32 :: l1))))).toArray⟩) := hide (by
      unfold parenS
      rw [if_neg hlt, HO.out])
    go_wp2
    go_ret
    exact ⟨by rw [← HR.out]; rfl, HB9.out⟩

set_option maxHeartbeats 8000000 in
set_option maxRecDepth 100000 in
theorem rtx_6 {v0 v1 : Int} {l0 l1 : List UInt8} (h0 : RTkid A c e B v0 3 l0) (h1 : RTkid A c e B v1 4 l1) {idx m : Nat} (hx : nodAt e idx = ⟨6, 0, ByteArray.empty, [v0, v1]⟩) (hidx : idx < e.length) (he3 : e.length ≤ 300) :
    RTgo A c e B idx m (parenS 3 m (l0 ++ (32 :: ((infixT 6).data.toList ++ (32 :: l1))))) := by
  obtain ⟨hl0, hc0⟩ := h0
  obtain ⟨o0, ho0⟩ : ∃ o0 : ByteArray, o0 = ⟨l0.toArray⟩ := ⟨_, rfl⟩
  have hs0 : o0.size ≤ 7800 := by rw [ho0, bs_size]; exact hl0
  rw [← ho0] at hc0
  have HC0 := hide hc0
  have hd0 : o0.data.toList = l0 := by rw [ho0, bs_list]
  clear hc0 hl0 ho0
  obtain ⟨hl1, hc1⟩ := h1
  obtain ⟨o1, ho1⟩ : ∃ o1 : ByteArray, o1 = ⟨l1.toArray⟩ := ⟨_, rfl⟩
  have hs1 : o1.size ≤ 7800 := by rw [ho1, bs_size]; exact hl1
  rw [← ho1] at hc1
  have HC1 := hide hc1
  have hd1 : o1.data.toList = l1 := by rw [ho1, bs_list]
  clear hc1 hl1 ho1
  obtain ⟨sg, hsg⟩ : ∃ sg, sg = signT 6 := ⟨_, rfl⟩
  have hsd : sg.data.toList = 32 :: ((infixT 6).data.toList ++ [32]) := by rw [hsg, sign_data]
  have hss : sg.size ≤ 4 := by rw [hsg]; decide
  have HSG := hide (fun w => rsign_any 6 (by decide) w)
  rw [← hsg] at HSG
  clear hsg
  have hq1 : (o0 ++ sg).size ≤ 7804 := by
    rw [ByteArray.size_append]
    omega
  have hr1 : ∀ w, (Op.stringOp .add (o0) (sg)).run Tryz.prog w = .ok (.string (o0 ++ sg)) w := fun w => run_string_add_sum w _ _ (by have := hq1; rw [ByteArray.size_append] at this; omega)
  have hq2 : (o0 ++ sg ++ o1).size ≤ 15604 := by
    rw [ByteArray.size_append]
    omega
  have hr2 : ∀ w, (Op.stringOp .add (o0 ++ sg) (o1)).run Tryz.prog w = .ok (.string (o0 ++ sg ++ o1)) w := fun w => run_string_add_sum w _ _ (by have := hq2; rw [ByteArray.size_append] at this; omega)
  have HO : Hid (o0 ++ sg ++ o1 = ⟨(l0 ++ (32 :: ((infixT 6).data.toList ++ (32 :: l1)))).toArray⟩) := hide (bs_ext (by simp [ByteArray.data_append, hd0, hd1, hsd, infixT]))
  intro w hE hBw
  obtain ⟨be, offe, K', kc, rfl, hbe, x0, x1, x2, x3, hKd⟩ := hE.at_ hidx
  rw [hx] at x0 x1 x2 x3 hKd
  have x0 : w.cell? ⟨be, offe + idx * 4, none⟩ = some (.int .i64 6) := x0
  have x1 : w.cell? ⟨be, offe + idx * 4 + 1, none⟩ = some (.int .i64 0) := x1
  have x2 : w.cell? ⟨be, offe + idx * 4 + 2, none⟩ = some (.string ByteArray.empty) := x2
  have x3 : w.cell? ⟨be, offe + idx * 4 + 3, none⟩ = some (.slice K' 2 kc) := x3
  have hKd : RI w B K' 2 [v0, v1] := hKd
  obtain ⟨kb, ko, rfl, hkb, z0⟩ := hKd.at_ (k := 0) (by decide)
  have z0 : w.cell? ⟨kb, ko, none⟩ = some (.int .i64 v0) := z0
  obtain ⟨kb', ko', hkk, -, z1⟩ := hKd.at_ (k := 1) (by decide)
  injection hkk with hkk
  injection hkk with hk1 hk2
  subst hk1 hk2
  have z1 : w.cell? ⟨kb, ko + 1, none⟩ = some (.int .i64 v1) := z1
  have hB5 : Blk (w.alloc (Obj.cells #[.int .i64 6, .int .i64 0, .string ByteArray.empty, .slice (some ⟨kb, ko, none⟩) 2 kc] 56)) w.heap.size 56 #[.int .i64 6, .int .i64 0, .string ByteArray.empty, .slice (some ⟨kb, ko, none⟩) 2 kc] := Blk.new _ _ _
  have hb5 : Below w.heap.size w (w.alloc (Obj.cells #[.int .i64 6, .int .i64 0, .string ByteArray.empty, .slice (some ⟨kb, ko, none⟩) 2 kc] 56)) := (Below.refl _ _).alloc (Nat.le_refl _) _
  have HE5 := hide (hE.keep (w' := (w.alloc (Obj.cells #[.int .i64 6, .int .i64 0, .string ByteArray.empty, .slice (some ⟨kb, ko, none⟩) 2 kc] 56))) (fun p hp => hb5.cell (Nat.lt_of_lt_of_le hp hBw)))
  have HB5 := hide hb5
  have z0' : (w.alloc (Obj.cells #[.int .i64 6, .int .i64 0, .string ByteArray.empty, .slice (some ⟨kb, ko, none⟩) 2 kc] 56)).cell? ⟨kb, ko, none⟩ = some (.int .i64 v0) := (hb5.cell (p := ⟨kb, ko, none⟩) (Nat.lt_of_lt_of_le hkb hBw)).trans z0
  have z1' : (w.alloc (Obj.cells #[.int .i64 6, .int .i64 0, .string ByteArray.empty, .slice (some ⟨kb, ko, none⟩) 2 kc] 56)).cell? ⟨kb, ko + 1, none⟩ = some (.int .i64 v1) := (hb5.cell (p := ⟨kb, ko + 1, none⟩) (Nat.lt_of_lt_of_le hkb hBw)).trans z1
  have i0 : (0 : Int) ≤ (idx : Int) := Int.natCast_nonneg _
  have i1 : (idx : Int) < (e.length : Int) := Int.ofNat_lt.2 hidx
  have i2 : (idx : Int) + 1 ≤ (e.length : Int) := by omega
  clear hKd hx hE hb5
  go_enter Tryz.func79, Tryz.ntmps79
  go_upto_region 2 with (fail)
  generalize (w.alloc (Obj.cells #[.int .i64 6, .int .i64 0, .string ByteArray.empty, .slice (some ⟨kb, ko, none⟩) 2 kc] 56)) = w5 at hB5 HB5 HE5 z0' z1' ⊢
  have HN5 := hide hB5
  obtain ⟨y0, y1, y2, y3, _, _, _, _⟩ := blk4 hB5
  have hlt5 := hB5.lt
  clear x0 x1 x2 x3 hB5 z0 z1
  go_wp2_with fail
  refine (rstrength_any _ w5).mono ?_
  rintro en w' ⟨rfl, rfl⟩
  rw [show strength 6 = 3 from by decide]
  have hkw : kb < w5.heap.size := Nat.lt_of_lt_of_le hkb (Nat.le_trans hBw HB5.out.size)
  have KEEP : Hid (∀ w', Below w5.heap.size w5 w' → (w'.cell? ⟨w.heap.size, 0, none⟩ = some (.int .i64 6) ∧ w'.cell? ⟨w.heap.size, 3, none⟩ = some (.slice (some ⟨kb, ko, none⟩) 2 kc) ∧ w'.cell? ⟨kb, ko, none⟩ = some (.int .i64 v0) ∧ w'.cell? ⟨kb, ko + 1, none⟩ = some (.int .i64 v1))) := hide (fun w' hb => ⟨(hb.cell (p := ⟨w.heap.size, 0, none⟩) hlt5).trans y0, (hb.cell (p := ⟨w.heap.size, 3, none⟩) hlt5).trans y3, (hb.cell (p := ⟨kb, ko, none⟩) hkw).trans z0', (hb.cell (p := ⟨kb, ko + 1, none⟩) hkw).trans z1'⟩)
  have HBw := hide (Nat.le_trans hBw HB5.out.size)
  have K5 := hide (KEEP.out w5.drew (Below.drew (Below.refl _ _)))
  go_upto_region 5 with (fail)
  go_region_held3 (fun w' => w'.cell? ⟨w.heap.size, 0, none⟩ = some (.int .i64 6) ∧ w'.cell? ⟨w.heap.size, 3, none⟩ = some (.slice (some ⟨kb, ko, none⟩) 2 kc) ∧ w'.cell? ⟨kb, ko, none⟩ = some (.int .i64 v0) ∧ w'.cell? ⟨kb, ko + 1, none⟩ = some (.int .i64 v1))
    (first | go_keep | exact K5.out | exact K6.out | exact K7.out)
    (first
      | (go_at_call 79; refine (HC0.out w5.drew (HE5.out.keep (fun p hp => (Below.drew (Below.refl w5.heap.size w5)).cell (Nat.lt_of_lt_of_le hp HBw.out))) (Nat.le_trans HBw.out (Below.drew (Below.refl w5.heap.size w5)).size)).mono ?_; rintro en w6 ⟨rfl, b6⟩; have B6 : Hid (Below w5.heap.size w5 w6) := hide (Below.trans (Below.drew (Below.refl w5.heap.size w5)) (b6.mono (Below.drew (Below.refl w5.heap.size w5)).size)); have K6 := hide (KEEP.out w6 B6.out); clear b6 HC0)
      | (go_at_call 132; refine (HSG.out _).mono ?_; rintro en wx ⟨rfl, rfl⟩)
      | (go_at_call 79; refine (HC1.out w6 (HE5.out.keep (fun p hp => B6.out.cell (Nat.lt_of_lt_of_le hp HBw.out))) (Nat.le_trans HBw.out B6.out.size)).mono ?_; rintro en w7 ⟨rfl, b7⟩; have B7 : Hid (Below w5.heap.size w5 w7) := hide (Below.trans B6.out (b7.mono B6.out.size)); have K7 := hide (KEEP.out w7 B7.out); clear b7 HC1))
  have HB9 := hide (HB5.out.trans (B7.out.mono HB5.out.size))
  clear K6 B6 K7 B7 KEEP K5 HE5 HN5 y0 y1 y2 y3 z0' z1'
  go_upto_region 21 with (fail)
  generalize hoo : o0 ++ sg ++ o1 = o at HO hq2 ⊢
  clear hoo
  by_cases hlt : 3 < m
  · have d2 : (3 : Int) < (m : Int) := by omega
    have HR : Hid ((⟨#[40]⟩ : ByteArray) ++ o ++ ⟨#[41]⟩ = ⟨(parenS 3 m (l0 ++ (32 :: ((infixT 6).data.toList ++ (32 :: l1))))).toArray⟩) := hide (by
      unfold parenS
      rw [if_pos hlt, bs_par, HO.out, bs_list])
    go_wp2
    go_ret
    exact ⟨by rw [← HR.out]; rfl, HB9.out⟩
  · have d2 : ¬ (3 : Int) < (m : Int) := by omega
    have HR : Hid (o = ⟨(parenS 3 m (l0 ++ (32 :: ((infixT 6).data.toList ++ (32 :: l1))))).toArray⟩) := hide (by
      unfold parenS
      rw [if_neg hlt, HO.out])
    go_wp2
    go_ret
    exact ⟨by rw [← HR.out]; rfl, HB9.out⟩

set_option maxHeartbeats 8000000 in
set_option maxRecDepth 100000 in
theorem rtx_7 {v0 v1 : Int} {l0 l1 : List UInt8} (h0 : RTkid A c e B v0 1 l0) (h1 : RTkid A c e B v1 1 l1) {idx m : Nat} (hx : nodAt e idx = ⟨7, 0, ByteArray.empty, [v0, v1]⟩) (hidx : idx < e.length) (he3 : e.length ≤ 300) :
    RTgo A c e B idx m (parenS 5 m ((funcT 7).data.toList ++ (40 :: (l0 ++ (44 :: 32 :: (l1 ++ [41])))))) := by
  obtain ⟨hl0, hc0⟩ := h0
  obtain ⟨o0, ho0⟩ : ∃ o0 : ByteArray, o0 = ⟨l0.toArray⟩ := ⟨_, rfl⟩
  have hs0 : o0.size ≤ 7800 := by rw [ho0, bs_size]; exact hl0
  rw [← ho0] at hc0
  have HC0 := hide hc0
  have hd0 : o0.data.toList = l0 := by rw [ho0, bs_list]
  clear hc0 hl0 ho0
  obtain ⟨hl1, hc1⟩ := h1
  obtain ⟨o1, ho1⟩ : ∃ o1 : ByteArray, o1 = ⟨l1.toArray⟩ := ⟨_, rfl⟩
  have hs1 : o1.size ≤ 7800 := by rw [ho1, bs_size]; exact hl1
  rw [← ho1] at hc1
  have HC1 := hide hc1
  have hd1 : o1.data.toList = l1 := by rw [ho1, bs_list]
  clear hc1 hl1 ho1
  have hq1 : ((⟨#[109, 105, 110, 40]⟩ : ByteArray) ++ o0).size ≤ 7804 := by
    rw [ByteArray.size_append]
    have hz0 : (⟨#[109, 105, 110, 40]⟩ : ByteArray).size = 4 := rfl
    omega
  have hr1 : ∀ w, (Op.stringOp .add ((⟨#[109, 105, 110, 40]⟩ : ByteArray)) (o0)).run Tryz.prog w = .ok (.string ((⟨#[109, 105, 110, 40]⟩ : ByteArray) ++ o0)) w := fun w => run_string_add_sum w _ _ (by have := hq1; rw [ByteArray.size_append] at this; omega)
  have hq2 : ((⟨#[109, 105, 110, 40]⟩ : ByteArray) ++ o0 ++ ⟨#[44, 32]⟩).size ≤ 7806 := by
    rw [ByteArray.size_append]
    have hz1 : (⟨#[44, 32]⟩ : ByteArray).size = 2 := rfl
    omega
  have hr2 : ∀ w, (Op.stringOp .add ((⟨#[109, 105, 110, 40]⟩ : ByteArray) ++ o0) (⟨#[44, 32]⟩)).run Tryz.prog w = .ok (.string ((⟨#[109, 105, 110, 40]⟩ : ByteArray) ++ o0 ++ ⟨#[44, 32]⟩)) w := fun w => run_string_add_sum w _ _ (by have := hq2; rw [ByteArray.size_append] at this; omega)
  have hq3 : ((⟨#[109, 105, 110, 40]⟩ : ByteArray) ++ o0 ++ ⟨#[44, 32]⟩ ++ o1).size ≤ 15606 := by
    rw [ByteArray.size_append]
    omega
  have hr3 : ∀ w, (Op.stringOp .add ((⟨#[109, 105, 110, 40]⟩ : ByteArray) ++ o0 ++ ⟨#[44, 32]⟩) (o1)).run Tryz.prog w = .ok (.string ((⟨#[109, 105, 110, 40]⟩ : ByteArray) ++ o0 ++ ⟨#[44, 32]⟩ ++ o1)) w := fun w => run_string_add_sum w _ _ (by have := hq3; rw [ByteArray.size_append] at this; omega)
  have hq4 : ((⟨#[109, 105, 110, 40]⟩ : ByteArray) ++ o0 ++ ⟨#[44, 32]⟩ ++ o1 ++ ⟨#[41]⟩).size ≤ 15607 := by
    rw [ByteArray.size_append]
    have hz1 : (⟨#[41]⟩ : ByteArray).size = 1 := rfl
    omega
  have hr4 : ∀ w, (Op.stringOp .add ((⟨#[109, 105, 110, 40]⟩ : ByteArray) ++ o0 ++ ⟨#[44, 32]⟩ ++ o1) (⟨#[41]⟩)).run Tryz.prog w = .ok (.string ((⟨#[109, 105, 110, 40]⟩ : ByteArray) ++ o0 ++ ⟨#[44, 32]⟩ ++ o1 ++ ⟨#[41]⟩)) w := fun w => run_string_add_sum w _ _ (by have := hq4; rw [ByteArray.size_append] at this; omega)
  have HO : Hid ((⟨#[109, 105, 110, 40]⟩ : ByteArray) ++ o0 ++ ⟨#[44, 32]⟩ ++ o1 ++ ⟨#[41]⟩ = ⟨((funcT 7).data.toList ++ (40 :: (l0 ++ (44 :: 32 :: (l1 ++ [41]))))).toArray⟩) := hide (bs_ext (by simp [ByteArray.data_append, hd0, hd1, funcT]))
  intro w hE hBw
  obtain ⟨be, offe, K', kc, rfl, hbe, x0, x1, x2, x3, hKd⟩ := hE.at_ hidx
  rw [hx] at x0 x1 x2 x3 hKd
  have x0 : w.cell? ⟨be, offe + idx * 4, none⟩ = some (.int .i64 7) := x0
  have x1 : w.cell? ⟨be, offe + idx * 4 + 1, none⟩ = some (.int .i64 0) := x1
  have x2 : w.cell? ⟨be, offe + idx * 4 + 2, none⟩ = some (.string ByteArray.empty) := x2
  have x3 : w.cell? ⟨be, offe + idx * 4 + 3, none⟩ = some (.slice K' 2 kc) := x3
  have hKd : RI w B K' 2 [v0, v1] := hKd
  obtain ⟨kb, ko, rfl, hkb, z0⟩ := hKd.at_ (k := 0) (by decide)
  have z0 : w.cell? ⟨kb, ko, none⟩ = some (.int .i64 v0) := z0
  obtain ⟨kb', ko', hkk, -, z1⟩ := hKd.at_ (k := 1) (by decide)
  injection hkk with hkk
  injection hkk with hk1 hk2
  subst hk1 hk2
  have z1 : w.cell? ⟨kb, ko + 1, none⟩ = some (.int .i64 v1) := z1
  have hB5 : Blk (w.alloc (Obj.cells #[.int .i64 7, .int .i64 0, .string ByteArray.empty, .slice (some ⟨kb, ko, none⟩) 2 kc] 56)) w.heap.size 56 #[.int .i64 7, .int .i64 0, .string ByteArray.empty, .slice (some ⟨kb, ko, none⟩) 2 kc] := Blk.new _ _ _
  have hb5 : Below w.heap.size w (w.alloc (Obj.cells #[.int .i64 7, .int .i64 0, .string ByteArray.empty, .slice (some ⟨kb, ko, none⟩) 2 kc] 56)) := (Below.refl _ _).alloc (Nat.le_refl _) _
  have HE5 := hide (hE.keep (w' := (w.alloc (Obj.cells #[.int .i64 7, .int .i64 0, .string ByteArray.empty, .slice (some ⟨kb, ko, none⟩) 2 kc] 56))) (fun p hp => hb5.cell (Nat.lt_of_lt_of_le hp hBw)))
  have HB5 := hide hb5
  have z0' : (w.alloc (Obj.cells #[.int .i64 7, .int .i64 0, .string ByteArray.empty, .slice (some ⟨kb, ko, none⟩) 2 kc] 56)).cell? ⟨kb, ko, none⟩ = some (.int .i64 v0) := (hb5.cell (p := ⟨kb, ko, none⟩) (Nat.lt_of_lt_of_le hkb hBw)).trans z0
  have z1' : (w.alloc (Obj.cells #[.int .i64 7, .int .i64 0, .string ByteArray.empty, .slice (some ⟨kb, ko, none⟩) 2 kc] 56)).cell? ⟨kb, ko + 1, none⟩ = some (.int .i64 v1) := (hb5.cell (p := ⟨kb, ko + 1, none⟩) (Nat.lt_of_lt_of_le hkb hBw)).trans z1
  have i0 : (0 : Int) ≤ (idx : Int) := Int.natCast_nonneg _
  have i1 : (idx : Int) < (e.length : Int) := Int.ofNat_lt.2 hidx
  have i2 : (idx : Int) + 1 ≤ (e.length : Int) := by omega
  clear hKd hx hE hb5
  go_enter Tryz.func79, Tryz.ntmps79
  go_upto_region 2 with (fail)
  generalize (w.alloc (Obj.cells #[.int .i64 7, .int .i64 0, .string ByteArray.empty, .slice (some ⟨kb, ko, none⟩) 2 kc] 56)) = w5 at hB5 HB5 HE5 z0' z1' ⊢
  have HN5 := hide hB5
  obtain ⟨y0, y1, y2, y3, _, _, _, _⟩ := blk4 hB5
  have hlt5 := hB5.lt
  clear x0 x1 x2 x3 hB5 z0 z1
  go_wp2_with fail
  refine (rstrength_any _ w5).mono ?_
  rintro en w' ⟨rfl, rfl⟩
  rw [show strength 7 = 5 from by decide]
  have hkw : kb < w5.heap.size := Nat.lt_of_lt_of_le hkb (Nat.le_trans hBw HB5.out.size)
  have KEEP : Hid (∀ w', Below w5.heap.size w5 w' → (w'.cell? ⟨w.heap.size, 0, none⟩ = some (.int .i64 7) ∧ w'.cell? ⟨w.heap.size, 3, none⟩ = some (.slice (some ⟨kb, ko, none⟩) 2 kc) ∧ w'.cell? ⟨kb, ko, none⟩ = some (.int .i64 v0) ∧ w'.cell? ⟨kb, ko + 1, none⟩ = some (.int .i64 v1))) := hide (fun w' hb => ⟨(hb.cell (p := ⟨w.heap.size, 0, none⟩) hlt5).trans y0, (hb.cell (p := ⟨w.heap.size, 3, none⟩) hlt5).trans y3, (hb.cell (p := ⟨kb, ko, none⟩) hkw).trans z0', (hb.cell (p := ⟨kb, ko + 1, none⟩) hkw).trans z1'⟩)
  have HBw := hide (Nat.le_trans hBw HB5.out.size)
  have K5 := hide (KEEP.out w5.drew (Below.drew (Below.refl _ _)))
  go_upto_region 13 with (fail)
  go_region_held3 (fun w' => w'.cell? ⟨w.heap.size, 0, none⟩ = some (.int .i64 7) ∧ w'.cell? ⟨w.heap.size, 3, none⟩ = some (.slice (some ⟨kb, ko, none⟩) 2 kc) ∧ w'.cell? ⟨kb, ko, none⟩ = some (.int .i64 v0) ∧ w'.cell? ⟨kb, ko + 1, none⟩ = some (.int .i64 v1))
    (first | go_keep | exact K5.out | exact K6.out | exact K7.out)
    (first
      | (go_at_call 79; refine (HC0.out w5.drew (HE5.out.keep (fun p hp => (Below.drew (Below.refl w5.heap.size w5)).cell (Nat.lt_of_lt_of_le hp HBw.out))) (Nat.le_trans HBw.out (Below.drew (Below.refl w5.heap.size w5)).size)).mono ?_; rintro en w6 ⟨rfl, b6⟩; have B6 : Hid (Below w5.heap.size w5 w6) := hide (Below.trans (Below.drew (Below.refl w5.heap.size w5)) (b6.mono (Below.drew (Below.refl w5.heap.size w5)).size)); have K6 := hide (KEEP.out w6 B6.out); clear b6 HC0)
      | (go_at_call 79; refine (HC1.out w6 (HE5.out.keep (fun p hp => B6.out.cell (Nat.lt_of_lt_of_le hp HBw.out))) (Nat.le_trans HBw.out B6.out.size)).mono ?_; rintro en w7 ⟨rfl, b7⟩; have B7 : Hid (Below w5.heap.size w5 w7) := hide (Below.trans B6.out (b7.mono B6.out.size)); have K7 := hide (KEEP.out w7 B7.out); clear b7 HC1))
  have HB9 := hide (HB5.out.trans (B7.out.mono HB5.out.size))
  clear K6 B6 K7 B7 KEEP K5 HE5 HN5 y0 y1 y2 y3 z0' z1'
  go_upto_region 21 with (fail)
  generalize hoo : (⟨#[109, 105, 110, 40]⟩ : ByteArray) ++ o0 ++ ⟨#[44, 32]⟩ ++ o1 ++ ⟨#[41]⟩ = o at HO hq4 ⊢
  clear hoo
  by_cases hlt : 5 < m
  · have d2 : (5 : Int) < (m : Int) := by omega
    have HR : Hid ((⟨#[40]⟩ : ByteArray) ++ o ++ ⟨#[41]⟩ = ⟨(parenS 5 m ((funcT 7).data.toList ++ (40 :: (l0 ++ (44 :: 32 :: (l1 ++ [41])))))).toArray⟩) := hide (by
      unfold parenS
      rw [if_pos hlt, bs_par, HO.out, bs_list])
    go_wp2
    go_ret
    exact ⟨by rw [← HR.out]; rfl, HB9.out⟩
  · have d2 : ¬ (5 : Int) < (m : Int) := by omega
    have HR : Hid (o = ⟨(parenS 5 m ((funcT 7).data.toList ++ (40 :: (l0 ++ (44 :: 32 :: (l1 ++ [41])))))).toArray⟩) := hide (by
      unfold parenS
      rw [if_neg hlt, HO.out])
    go_wp2
    go_ret
    exact ⟨by rw [← HR.out]; rfl, HB9.out⟩

set_option maxHeartbeats 8000000 in
set_option maxRecDepth 100000 in
theorem rtx_8 {v0 v1 : Int} {l0 l1 : List UInt8} (h0 : RTkid A c e B v0 1 l0) (h1 : RTkid A c e B v1 1 l1) {idx m : Nat} (hx : nodAt e idx = ⟨8, 0, ByteArray.empty, [v0, v1]⟩) (hidx : idx < e.length) (he3 : e.length ≤ 300) :
    RTgo A c e B idx m (parenS 5 m ((funcT 8).data.toList ++ (40 :: (l0 ++ (44 :: 32 :: (l1 ++ [41])))))) := by
  obtain ⟨hl0, hc0⟩ := h0
  obtain ⟨o0, ho0⟩ : ∃ o0 : ByteArray, o0 = ⟨l0.toArray⟩ := ⟨_, rfl⟩
  have hs0 : o0.size ≤ 7800 := by rw [ho0, bs_size]; exact hl0
  rw [← ho0] at hc0
  have HC0 := hide hc0
  have hd0 : o0.data.toList = l0 := by rw [ho0, bs_list]
  clear hc0 hl0 ho0
  obtain ⟨hl1, hc1⟩ := h1
  obtain ⟨o1, ho1⟩ : ∃ o1 : ByteArray, o1 = ⟨l1.toArray⟩ := ⟨_, rfl⟩
  have hs1 : o1.size ≤ 7800 := by rw [ho1, bs_size]; exact hl1
  rw [← ho1] at hc1
  have HC1 := hide hc1
  have hd1 : o1.data.toList = l1 := by rw [ho1, bs_list]
  clear hc1 hl1 ho1
  have hq1 : ((⟨#[109, 97, 120, 40]⟩ : ByteArray) ++ o0).size ≤ 7804 := by
    rw [ByteArray.size_append]
    have hz0 : (⟨#[109, 97, 120, 40]⟩ : ByteArray).size = 4 := rfl
    omega
  have hr1 : ∀ w, (Op.stringOp .add ((⟨#[109, 97, 120, 40]⟩ : ByteArray)) (o0)).run Tryz.prog w = .ok (.string ((⟨#[109, 97, 120, 40]⟩ : ByteArray) ++ o0)) w := fun w => run_string_add_sum w _ _ (by have := hq1; rw [ByteArray.size_append] at this; omega)
  have hq2 : ((⟨#[109, 97, 120, 40]⟩ : ByteArray) ++ o0 ++ ⟨#[44, 32]⟩).size ≤ 7806 := by
    rw [ByteArray.size_append]
    have hz1 : (⟨#[44, 32]⟩ : ByteArray).size = 2 := rfl
    omega
  have hr2 : ∀ w, (Op.stringOp .add ((⟨#[109, 97, 120, 40]⟩ : ByteArray) ++ o0) (⟨#[44, 32]⟩)).run Tryz.prog w = .ok (.string ((⟨#[109, 97, 120, 40]⟩ : ByteArray) ++ o0 ++ ⟨#[44, 32]⟩)) w := fun w => run_string_add_sum w _ _ (by have := hq2; rw [ByteArray.size_append] at this; omega)
  have hq3 : ((⟨#[109, 97, 120, 40]⟩ : ByteArray) ++ o0 ++ ⟨#[44, 32]⟩ ++ o1).size ≤ 15606 := by
    rw [ByteArray.size_append]
    omega
  have hr3 : ∀ w, (Op.stringOp .add ((⟨#[109, 97, 120, 40]⟩ : ByteArray) ++ o0 ++ ⟨#[44, 32]⟩) (o1)).run Tryz.prog w = .ok (.string ((⟨#[109, 97, 120, 40]⟩ : ByteArray) ++ o0 ++ ⟨#[44, 32]⟩ ++ o1)) w := fun w => run_string_add_sum w _ _ (by have := hq3; rw [ByteArray.size_append] at this; omega)
  have hq4 : ((⟨#[109, 97, 120, 40]⟩ : ByteArray) ++ o0 ++ ⟨#[44, 32]⟩ ++ o1 ++ ⟨#[41]⟩).size ≤ 15607 := by
    rw [ByteArray.size_append]
    have hz1 : (⟨#[41]⟩ : ByteArray).size = 1 := rfl
    omega
  have hr4 : ∀ w, (Op.stringOp .add ((⟨#[109, 97, 120, 40]⟩ : ByteArray) ++ o0 ++ ⟨#[44, 32]⟩ ++ o1) (⟨#[41]⟩)).run Tryz.prog w = .ok (.string ((⟨#[109, 97, 120, 40]⟩ : ByteArray) ++ o0 ++ ⟨#[44, 32]⟩ ++ o1 ++ ⟨#[41]⟩)) w := fun w => run_string_add_sum w _ _ (by have := hq4; rw [ByteArray.size_append] at this; omega)
  have HO : Hid ((⟨#[109, 97, 120, 40]⟩ : ByteArray) ++ o0 ++ ⟨#[44, 32]⟩ ++ o1 ++ ⟨#[41]⟩ = ⟨((funcT 8).data.toList ++ (40 :: (l0 ++ (44 :: 32 :: (l1 ++ [41]))))).toArray⟩) := hide (bs_ext (by simp [ByteArray.data_append, hd0, hd1, funcT]))
  intro w hE hBw
  obtain ⟨be, offe, K', kc, rfl, hbe, x0, x1, x2, x3, hKd⟩ := hE.at_ hidx
  rw [hx] at x0 x1 x2 x3 hKd
  have x0 : w.cell? ⟨be, offe + idx * 4, none⟩ = some (.int .i64 8) := x0
  have x1 : w.cell? ⟨be, offe + idx * 4 + 1, none⟩ = some (.int .i64 0) := x1
  have x2 : w.cell? ⟨be, offe + idx * 4 + 2, none⟩ = some (.string ByteArray.empty) := x2
  have x3 : w.cell? ⟨be, offe + idx * 4 + 3, none⟩ = some (.slice K' 2 kc) := x3
  have hKd : RI w B K' 2 [v0, v1] := hKd
  obtain ⟨kb, ko, rfl, hkb, z0⟩ := hKd.at_ (k := 0) (by decide)
  have z0 : w.cell? ⟨kb, ko, none⟩ = some (.int .i64 v0) := z0
  obtain ⟨kb', ko', hkk, -, z1⟩ := hKd.at_ (k := 1) (by decide)
  injection hkk with hkk
  injection hkk with hk1 hk2
  subst hk1 hk2
  have z1 : w.cell? ⟨kb, ko + 1, none⟩ = some (.int .i64 v1) := z1
  have hB5 : Blk (w.alloc (Obj.cells #[.int .i64 8, .int .i64 0, .string ByteArray.empty, .slice (some ⟨kb, ko, none⟩) 2 kc] 56)) w.heap.size 56 #[.int .i64 8, .int .i64 0, .string ByteArray.empty, .slice (some ⟨kb, ko, none⟩) 2 kc] := Blk.new _ _ _
  have hb5 : Below w.heap.size w (w.alloc (Obj.cells #[.int .i64 8, .int .i64 0, .string ByteArray.empty, .slice (some ⟨kb, ko, none⟩) 2 kc] 56)) := (Below.refl _ _).alloc (Nat.le_refl _) _
  have HE5 := hide (hE.keep (w' := (w.alloc (Obj.cells #[.int .i64 8, .int .i64 0, .string ByteArray.empty, .slice (some ⟨kb, ko, none⟩) 2 kc] 56))) (fun p hp => hb5.cell (Nat.lt_of_lt_of_le hp hBw)))
  have HB5 := hide hb5
  have z0' : (w.alloc (Obj.cells #[.int .i64 8, .int .i64 0, .string ByteArray.empty, .slice (some ⟨kb, ko, none⟩) 2 kc] 56)).cell? ⟨kb, ko, none⟩ = some (.int .i64 v0) := (hb5.cell (p := ⟨kb, ko, none⟩) (Nat.lt_of_lt_of_le hkb hBw)).trans z0
  have z1' : (w.alloc (Obj.cells #[.int .i64 8, .int .i64 0, .string ByteArray.empty, .slice (some ⟨kb, ko, none⟩) 2 kc] 56)).cell? ⟨kb, ko + 1, none⟩ = some (.int .i64 v1) := (hb5.cell (p := ⟨kb, ko + 1, none⟩) (Nat.lt_of_lt_of_le hkb hBw)).trans z1
  have i0 : (0 : Int) ≤ (idx : Int) := Int.natCast_nonneg _
  have i1 : (idx : Int) < (e.length : Int) := Int.ofNat_lt.2 hidx
  have i2 : (idx : Int) + 1 ≤ (e.length : Int) := by omega
  clear hKd hx hE hb5
  go_enter Tryz.func79, Tryz.ntmps79
  go_upto_region 2 with (fail)
  generalize (w.alloc (Obj.cells #[.int .i64 8, .int .i64 0, .string ByteArray.empty, .slice (some ⟨kb, ko, none⟩) 2 kc] 56)) = w5 at hB5 HB5 HE5 z0' z1' ⊢
  have HN5 := hide hB5
  obtain ⟨y0, y1, y2, y3, _, _, _, _⟩ := blk4 hB5
  have hlt5 := hB5.lt
  clear x0 x1 x2 x3 hB5 z0 z1
  go_wp2_with fail
  refine (rstrength_any _ w5).mono ?_
  rintro en w' ⟨rfl, rfl⟩
  rw [show strength 8 = 5 from by decide]
  have hkw : kb < w5.heap.size := Nat.lt_of_lt_of_le hkb (Nat.le_trans hBw HB5.out.size)
  have KEEP : Hid (∀ w', Below w5.heap.size w5 w' → (w'.cell? ⟨w.heap.size, 0, none⟩ = some (.int .i64 8) ∧ w'.cell? ⟨w.heap.size, 3, none⟩ = some (.slice (some ⟨kb, ko, none⟩) 2 kc) ∧ w'.cell? ⟨kb, ko, none⟩ = some (.int .i64 v0) ∧ w'.cell? ⟨kb, ko + 1, none⟩ = some (.int .i64 v1))) := hide (fun w' hb => ⟨(hb.cell (p := ⟨w.heap.size, 0, none⟩) hlt5).trans y0, (hb.cell (p := ⟨w.heap.size, 3, none⟩) hlt5).trans y3, (hb.cell (p := ⟨kb, ko, none⟩) hkw).trans z0', (hb.cell (p := ⟨kb, ko + 1, none⟩) hkw).trans z1'⟩)
  have HBw := hide (Nat.le_trans hBw HB5.out.size)
  have K5 := hide (KEEP.out w5.drew (Below.drew (Below.refl _ _)))
  go_upto_region 15 with (fail)
  go_region_held3 (fun w' => w'.cell? ⟨w.heap.size, 0, none⟩ = some (.int .i64 8) ∧ w'.cell? ⟨w.heap.size, 3, none⟩ = some (.slice (some ⟨kb, ko, none⟩) 2 kc) ∧ w'.cell? ⟨kb, ko, none⟩ = some (.int .i64 v0) ∧ w'.cell? ⟨kb, ko + 1, none⟩ = some (.int .i64 v1))
    (first | go_keep | exact K5.out | exact K6.out | exact K7.out)
    (first
      | (go_at_call 79; refine (HC0.out w5.drew (HE5.out.keep (fun p hp => (Below.drew (Below.refl w5.heap.size w5)).cell (Nat.lt_of_lt_of_le hp HBw.out))) (Nat.le_trans HBw.out (Below.drew (Below.refl w5.heap.size w5)).size)).mono ?_; rintro en w6 ⟨rfl, b6⟩; have B6 : Hid (Below w5.heap.size w5 w6) := hide (Below.trans (Below.drew (Below.refl w5.heap.size w5)) (b6.mono (Below.drew (Below.refl w5.heap.size w5)).size)); have K6 := hide (KEEP.out w6 B6.out); clear b6 HC0)
      | (go_at_call 79; refine (HC1.out w6 (HE5.out.keep (fun p hp => B6.out.cell (Nat.lt_of_lt_of_le hp HBw.out))) (Nat.le_trans HBw.out B6.out.size)).mono ?_; rintro en w7 ⟨rfl, b7⟩; have B7 : Hid (Below w5.heap.size w5 w7) := hide (Below.trans B6.out (b7.mono B6.out.size)); have K7 := hide (KEEP.out w7 B7.out); clear b7 HC1))
  have HB9 := hide (HB5.out.trans (B7.out.mono HB5.out.size))
  clear K6 B6 K7 B7 KEEP K5 HE5 HN5 y0 y1 y2 y3 z0' z1'
  go_upto_region 21 with (fail)
  generalize hoo : (⟨#[109, 97, 120, 40]⟩ : ByteArray) ++ o0 ++ ⟨#[44, 32]⟩ ++ o1 ++ ⟨#[41]⟩ = o at HO hq4 ⊢
  clear hoo
  by_cases hlt : 5 < m
  · have d2 : (5 : Int) < (m : Int) := by omega
    have HR : Hid ((⟨#[40]⟩ : ByteArray) ++ o ++ ⟨#[41]⟩ = ⟨(parenS 5 m ((funcT 8).data.toList ++ (40 :: (l0 ++ (44 :: 32 :: (l1 ++ [41])))))).toArray⟩) := hide (by
      unfold parenS
      rw [if_pos hlt, bs_par, HO.out, bs_list])
    go_wp2
    go_ret
    exact ⟨by rw [← HR.out]; rfl, HB9.out⟩
  · have d2 : ¬ (5 : Int) < (m : Int) := by omega
    have HR : Hid (o = ⟨(parenS 5 m ((funcT 8).data.toList ++ (40 :: (l0 ++ (44 :: 32 :: (l1 ++ [41])))))).toArray⟩) := hide (by
      unfold parenS
      rw [if_neg hlt, HO.out])
    go_wp2
    go_ret
    exact ⟨by rw [← HR.out]; rfl, HB9.out⟩

set_option maxHeartbeats 8000000 in
set_option maxRecDepth 100000 in
theorem rtx_9 {v0 v1 v2 : Int} {l0 l1 l2 : List UInt8} (h0 : RTkid A c e B v0 1 l0) (h1 : RTkid A c e B v1 1 l1) (h2 : RTkid A c e B v2 1 l2) {idx m : Nat} (hx : nodAt e idx = ⟨9, 0, ByteArray.empty, [v0, v1, v2]⟩) (hidx : idx < e.length) (he3 : e.length ≤ 300) :
    RTgo A c e B idx m (parenS 5 m ((funcT 9).data.toList ++ (40 :: (l0 ++ (44 :: 32 :: (l1 ++ (44 :: 32 :: (l2 ++ [41])))))))) := by
  obtain ⟨hl0, hc0⟩ := h0
  obtain ⟨o0, ho0⟩ : ∃ o0 : ByteArray, o0 = ⟨l0.toArray⟩ := ⟨_, rfl⟩
  have hs0 : o0.size ≤ 7800 := by rw [ho0, bs_size]; exact hl0
  rw [← ho0] at hc0
  have HC0 := hide hc0
  have hd0 : o0.data.toList = l0 := by rw [ho0, bs_list]
  clear hc0 hl0 ho0
  obtain ⟨hl1, hc1⟩ := h1
  obtain ⟨o1, ho1⟩ : ∃ o1 : ByteArray, o1 = ⟨l1.toArray⟩ := ⟨_, rfl⟩
  have hs1 : o1.size ≤ 7800 := by rw [ho1, bs_size]; exact hl1
  rw [← ho1] at hc1
  have HC1 := hide hc1
  have hd1 : o1.data.toList = l1 := by rw [ho1, bs_list]
  clear hc1 hl1 ho1
  obtain ⟨hl2, hc2⟩ := h2
  obtain ⟨o2, ho2⟩ : ∃ o2 : ByteArray, o2 = ⟨l2.toArray⟩ := ⟨_, rfl⟩
  have hs2 : o2.size ≤ 7800 := by rw [ho2, bs_size]; exact hl2
  rw [← ho2] at hc2
  have HC2 := hide hc2
  have hd2 : o2.data.toList = l2 := by rw [ho2, bs_list]
  clear hc2 hl2 ho2
  have hq1 : ((⟨#[105, 102, 40]⟩ : ByteArray) ++ o0).size ≤ 7804 := by
    rw [ByteArray.size_append]
    have hz0 : (⟨#[105, 102, 40]⟩ : ByteArray).size = 3 := rfl
    omega
  have hr1 : ∀ w, (Op.stringOp .add ((⟨#[105, 102, 40]⟩ : ByteArray)) (o0)).run Tryz.prog w = .ok (.string ((⟨#[105, 102, 40]⟩ : ByteArray) ++ o0)) w := fun w => run_string_add_sum w _ _ (by have := hq1; rw [ByteArray.size_append] at this; omega)
  have hq2 : ((⟨#[105, 102, 40]⟩ : ByteArray) ++ o0 ++ ⟨#[44, 32]⟩).size ≤ 7806 := by
    rw [ByteArray.size_append]
    have hz1 : (⟨#[44, 32]⟩ : ByteArray).size = 2 := rfl
    omega
  have hr2 : ∀ w, (Op.stringOp .add ((⟨#[105, 102, 40]⟩ : ByteArray) ++ o0) (⟨#[44, 32]⟩)).run Tryz.prog w = .ok (.string ((⟨#[105, 102, 40]⟩ : ByteArray) ++ o0 ++ ⟨#[44, 32]⟩)) w := fun w => run_string_add_sum w _ _ (by have := hq2; rw [ByteArray.size_append] at this; omega)
  have hq3 : ((⟨#[105, 102, 40]⟩ : ByteArray) ++ o0 ++ ⟨#[44, 32]⟩ ++ o1).size ≤ 15606 := by
    rw [ByteArray.size_append]
    omega
  have hr3 : ∀ w, (Op.stringOp .add ((⟨#[105, 102, 40]⟩ : ByteArray) ++ o0 ++ ⟨#[44, 32]⟩) (o1)).run Tryz.prog w = .ok (.string ((⟨#[105, 102, 40]⟩ : ByteArray) ++ o0 ++ ⟨#[44, 32]⟩ ++ o1)) w := fun w => run_string_add_sum w _ _ (by have := hq3; rw [ByteArray.size_append] at this; omega)
  have hq4 : ((⟨#[105, 102, 40]⟩ : ByteArray) ++ o0 ++ ⟨#[44, 32]⟩ ++ o1 ++ ⟨#[44, 32]⟩).size ≤ 15608 := by
    rw [ByteArray.size_append]
    have hz1 : (⟨#[44, 32]⟩ : ByteArray).size = 2 := rfl
    omega
  have hr4 : ∀ w, (Op.stringOp .add ((⟨#[105, 102, 40]⟩ : ByteArray) ++ o0 ++ ⟨#[44, 32]⟩ ++ o1) (⟨#[44, 32]⟩)).run Tryz.prog w = .ok (.string ((⟨#[105, 102, 40]⟩ : ByteArray) ++ o0 ++ ⟨#[44, 32]⟩ ++ o1 ++ ⟨#[44, 32]⟩)) w := fun w => run_string_add_sum w _ _ (by have := hq4; rw [ByteArray.size_append] at this; omega)
  have hq5 : ((⟨#[105, 102, 40]⟩ : ByteArray) ++ o0 ++ ⟨#[44, 32]⟩ ++ o1 ++ ⟨#[44, 32]⟩ ++ o2).size ≤ 23408 := by
    rw [ByteArray.size_append]
    omega
  have hr5 : ∀ w, (Op.stringOp .add ((⟨#[105, 102, 40]⟩ : ByteArray) ++ o0 ++ ⟨#[44, 32]⟩ ++ o1 ++ ⟨#[44, 32]⟩) (o2)).run Tryz.prog w = .ok (.string ((⟨#[105, 102, 40]⟩ : ByteArray) ++ o0 ++ ⟨#[44, 32]⟩ ++ o1 ++ ⟨#[44, 32]⟩ ++ o2)) w := fun w => run_string_add_sum w _ _ (by have := hq5; rw [ByteArray.size_append] at this; omega)
  have hq6 : ((⟨#[105, 102, 40]⟩ : ByteArray) ++ o0 ++ ⟨#[44, 32]⟩ ++ o1 ++ ⟨#[44, 32]⟩ ++ o2 ++ ⟨#[41]⟩).size ≤ 23409 := by
    rw [ByteArray.size_append]
    have hz1 : (⟨#[41]⟩ : ByteArray).size = 1 := rfl
    omega
  have hr6 : ∀ w, (Op.stringOp .add ((⟨#[105, 102, 40]⟩ : ByteArray) ++ o0 ++ ⟨#[44, 32]⟩ ++ o1 ++ ⟨#[44, 32]⟩ ++ o2) (⟨#[41]⟩)).run Tryz.prog w = .ok (.string ((⟨#[105, 102, 40]⟩ : ByteArray) ++ o0 ++ ⟨#[44, 32]⟩ ++ o1 ++ ⟨#[44, 32]⟩ ++ o2 ++ ⟨#[41]⟩)) w := fun w => run_string_add_sum w _ _ (by have := hq6; rw [ByteArray.size_append] at this; omega)
  have HO : Hid ((⟨#[105, 102, 40]⟩ : ByteArray) ++ o0 ++ ⟨#[44, 32]⟩ ++ o1 ++ ⟨#[44, 32]⟩ ++ o2 ++ ⟨#[41]⟩ = ⟨((funcT 9).data.toList ++ (40 :: (l0 ++ (44 :: 32 :: (l1 ++ (44 :: 32 :: (l2 ++ [41]))))))).toArray⟩) := hide (bs_ext (by simp [ByteArray.data_append, hd0, hd1, hd2, funcT]))
  intro w hE hBw
  obtain ⟨be, offe, K', kc, rfl, hbe, x0, x1, x2, x3, hKd⟩ := hE.at_ hidx
  rw [hx] at x0 x1 x2 x3 hKd
  have x0 : w.cell? ⟨be, offe + idx * 4, none⟩ = some (.int .i64 9) := x0
  have x1 : w.cell? ⟨be, offe + idx * 4 + 1, none⟩ = some (.int .i64 0) := x1
  have x2 : w.cell? ⟨be, offe + idx * 4 + 2, none⟩ = some (.string ByteArray.empty) := x2
  have x3 : w.cell? ⟨be, offe + idx * 4 + 3, none⟩ = some (.slice K' 3 kc) := x3
  have hKd : RI w B K' 3 [v0, v1, v2] := hKd
  obtain ⟨kb, ko, rfl, hkb, z0⟩ := hKd.at_ (k := 0) (by decide)
  have z0 : w.cell? ⟨kb, ko, none⟩ = some (.int .i64 v0) := z0
  obtain ⟨kb', ko', hkk, -, z1⟩ := hKd.at_ (k := 1) (by decide)
  injection hkk with hkk
  injection hkk with hk1 hk2
  subst hk1 hk2
  have z1 : w.cell? ⟨kb, ko + 1, none⟩ = some (.int .i64 v1) := z1
  obtain ⟨kb', ko', hkk, -, z2⟩ := hKd.at_ (k := 2) (by decide)
  injection hkk with hkk
  injection hkk with hk1 hk2
  subst hk1 hk2
  have z2 : w.cell? ⟨kb, ko + 2, none⟩ = some (.int .i64 v2) := z2
  have hB5 : Blk (w.alloc (Obj.cells #[.int .i64 9, .int .i64 0, .string ByteArray.empty, .slice (some ⟨kb, ko, none⟩) 3 kc] 56)) w.heap.size 56 #[.int .i64 9, .int .i64 0, .string ByteArray.empty, .slice (some ⟨kb, ko, none⟩) 3 kc] := Blk.new _ _ _
  have hb5 : Below w.heap.size w (w.alloc (Obj.cells #[.int .i64 9, .int .i64 0, .string ByteArray.empty, .slice (some ⟨kb, ko, none⟩) 3 kc] 56)) := (Below.refl _ _).alloc (Nat.le_refl _) _
  have HE5 := hide (hE.keep (w' := (w.alloc (Obj.cells #[.int .i64 9, .int .i64 0, .string ByteArray.empty, .slice (some ⟨kb, ko, none⟩) 3 kc] 56))) (fun p hp => hb5.cell (Nat.lt_of_lt_of_le hp hBw)))
  have HB5 := hide hb5
  have z0' : (w.alloc (Obj.cells #[.int .i64 9, .int .i64 0, .string ByteArray.empty, .slice (some ⟨kb, ko, none⟩) 3 kc] 56)).cell? ⟨kb, ko, none⟩ = some (.int .i64 v0) := (hb5.cell (p := ⟨kb, ko, none⟩) (Nat.lt_of_lt_of_le hkb hBw)).trans z0
  have z1' : (w.alloc (Obj.cells #[.int .i64 9, .int .i64 0, .string ByteArray.empty, .slice (some ⟨kb, ko, none⟩) 3 kc] 56)).cell? ⟨kb, ko + 1, none⟩ = some (.int .i64 v1) := (hb5.cell (p := ⟨kb, ko + 1, none⟩) (Nat.lt_of_lt_of_le hkb hBw)).trans z1
  have z2' : (w.alloc (Obj.cells #[.int .i64 9, .int .i64 0, .string ByteArray.empty, .slice (some ⟨kb, ko, none⟩) 3 kc] 56)).cell? ⟨kb, ko + 2, none⟩ = some (.int .i64 v2) := (hb5.cell (p := ⟨kb, ko + 2, none⟩) (Nat.lt_of_lt_of_le hkb hBw)).trans z2
  have i0 : (0 : Int) ≤ (idx : Int) := Int.natCast_nonneg _
  have i1 : (idx : Int) < (e.length : Int) := Int.ofNat_lt.2 hidx
  have i2 : (idx : Int) + 1 ≤ (e.length : Int) := by omega
  clear hKd hx hE hb5
  go_enter Tryz.func79, Tryz.ntmps79
  go_upto_region 2 with (fail)
  generalize (w.alloc (Obj.cells #[.int .i64 9, .int .i64 0, .string ByteArray.empty, .slice (some ⟨kb, ko, none⟩) 3 kc] 56)) = w5 at hB5 HB5 HE5 z0' z1' z2' ⊢
  have HN5 := hide hB5
  obtain ⟨y0, y1, y2, y3, _, _, _, _⟩ := blk4 hB5
  have hlt5 := hB5.lt
  clear x0 x1 x2 x3 hB5 z0 z1 z2
  go_wp2_with fail
  refine (rstrength_any _ w5).mono ?_
  rintro en w' ⟨rfl, rfl⟩
  rw [show strength 9 = 5 from by decide]
  have hkw : kb < w5.heap.size := Nat.lt_of_lt_of_le hkb (Nat.le_trans hBw HB5.out.size)
  have KEEP : Hid (∀ w', Below w5.heap.size w5 w' → (w'.cell? ⟨w.heap.size, 0, none⟩ = some (.int .i64 9) ∧ w'.cell? ⟨w.heap.size, 3, none⟩ = some (.slice (some ⟨kb, ko, none⟩) 3 kc) ∧ w'.cell? ⟨kb, ko, none⟩ = some (.int .i64 v0) ∧ w'.cell? ⟨kb, ko + 1, none⟩ = some (.int .i64 v1) ∧ w'.cell? ⟨kb, ko + 2, none⟩ = some (.int .i64 v2))) := hide (fun w' hb => ⟨(hb.cell (p := ⟨w.heap.size, 0, none⟩) hlt5).trans y0, (hb.cell (p := ⟨w.heap.size, 3, none⟩) hlt5).trans y3, (hb.cell (p := ⟨kb, ko, none⟩) hkw).trans z0', (hb.cell (p := ⟨kb, ko + 1, none⟩) hkw).trans z1', (hb.cell (p := ⟨kb, ko + 2, none⟩) hkw).trans z2'⟩)
  have HBw := hide (Nat.le_trans hBw HB5.out.size)
  have K5 := hide (KEEP.out w5.drew (Below.drew (Below.refl _ _)))
  go_upto_region 17 with (fail)
  go_region_held3 (fun w' => w'.cell? ⟨w.heap.size, 0, none⟩ = some (.int .i64 9) ∧ w'.cell? ⟨w.heap.size, 3, none⟩ = some (.slice (some ⟨kb, ko, none⟩) 3 kc) ∧ w'.cell? ⟨kb, ko, none⟩ = some (.int .i64 v0) ∧ w'.cell? ⟨kb, ko + 1, none⟩ = some (.int .i64 v1) ∧ w'.cell? ⟨kb, ko + 2, none⟩ = some (.int .i64 v2))
    (first | go_keep | exact K5.out | exact K6.out | exact K7.out | exact K8.out)
    (first
      | (go_at_call 79; refine (HC0.out w5.drew (HE5.out.keep (fun p hp => (Below.drew (Below.refl w5.heap.size w5)).cell (Nat.lt_of_lt_of_le hp HBw.out))) (Nat.le_trans HBw.out (Below.drew (Below.refl w5.heap.size w5)).size)).mono ?_; rintro en w6 ⟨rfl, b6⟩; have B6 : Hid (Below w5.heap.size w5 w6) := hide (Below.trans (Below.drew (Below.refl w5.heap.size w5)) (b6.mono (Below.drew (Below.refl w5.heap.size w5)).size)); have K6 := hide (KEEP.out w6 B6.out); clear b6 HC0)
      | (go_at_call 79; refine (HC1.out w6 (HE5.out.keep (fun p hp => B6.out.cell (Nat.lt_of_lt_of_le hp HBw.out))) (Nat.le_trans HBw.out B6.out.size)).mono ?_; rintro en w7 ⟨rfl, b7⟩; have B7 : Hid (Below w5.heap.size w5 w7) := hide (Below.trans B6.out (b7.mono B6.out.size)); have K7 := hide (KEEP.out w7 B7.out); clear b7 HC1)
      | (go_at_call 79; refine (HC2.out w7 (HE5.out.keep (fun p hp => B7.out.cell (Nat.lt_of_lt_of_le hp HBw.out))) (Nat.le_trans HBw.out B7.out.size)).mono ?_; rintro en w8 ⟨rfl, b8⟩; have B8 : Hid (Below w5.heap.size w5 w8) := hide (Below.trans B7.out (b8.mono B7.out.size)); have K8 := hide (KEEP.out w8 B8.out); clear b8 HC2))
  have HB9 := hide (HB5.out.trans (B8.out.mono HB5.out.size))
  clear K6 B6 K7 B7 K8 B8 KEEP K5 HE5 HN5 y0 y1 y2 y3 z0' z1' z2'
  go_upto_region 21 with (fail)
  generalize hoo : (⟨#[105, 102, 40]⟩ : ByteArray) ++ o0 ++ ⟨#[44, 32]⟩ ++ o1 ++ ⟨#[44, 32]⟩ ++ o2 ++ ⟨#[41]⟩ = o at HO hq6 ⊢
  clear hoo
  by_cases hlt : 5 < m
  · have d2 : (5 : Int) < (m : Int) := by omega
    have HR : Hid ((⟨#[40]⟩ : ByteArray) ++ o ++ ⟨#[41]⟩ = ⟨(parenS 5 m ((funcT 9).data.toList ++ (40 :: (l0 ++ (44 :: 32 :: (l1 ++ (44 :: 32 :: (l2 ++ [41])))))))).toArray⟩) := hide (by
      unfold parenS
      rw [if_pos hlt, bs_par, HO.out, bs_list])
    go_wp2
    go_ret
    exact ⟨by rw [← HR.out]; rfl, HB9.out⟩
  · have d2 : ¬ (5 : Int) < (m : Int) := by omega
    have HR : Hid (o = ⟨(parenS 5 m ((funcT 9).data.toList ++ (40 :: (l0 ++ (44 :: 32 :: (l1 ++ (44 :: 32 :: (l2 ++ [41])))))))).toArray⟩) := hide (by
      unfold parenS
      rw [if_neg hlt, HO.out])
    go_wp2
    go_ret
    exact ⟨by rw [← HR.out]; rfl, HB9.out⟩
end Go.Proofs.YtkomgidcgepknaaGreatDoor

set_option linter.unusedVariables false
set_option linter.unusedSimpArgs false
namespace Go.Proofs.YtkomgidcgepknaaGreatDoor
open Go.RowKit Go.Deep Go.Maps Go.Lib
variable {A : Option Addr} {c : Nat} {e : List Nod} {B : Nat}

theorem rtx_all (he3 : e.length ≤ 300) : ∀ N, RTih A c e B N
  | 0 => fun s hs => absurd hs (Nat.not_lt_zero _)
  | N + 1 => fun s hs hg K m hat hke hm1 hm5 => by
    have IH := rtx_all he3 N
    cases s with
    | leaf x =>
      have hx : nodAt e K = x := hat.one
      have hk := leaf_kids hg
      have hidx : K < e.length := by simp only [Tr.size] at hke; omega
      show RTgo A c e B (K + 1 - 1) m (parenS 5 m (if x.op = 1 then itoa x.n else x.name.data.toList))
      rw [Nat.add_sub_cancel]
      have hf := hg.1
      rcases leaf_good hg with ⟨ho, h0, h1⟩ | ⟨ho, hn⟩
      · have hne : x.name = ByteArray.empty := by
          unfold formedL at hf
          rw [if_pos ho] at hf
          simp only [Bool.and_eq_true, decide_eq_true_eq] at hf
          exact hf.2.1.1
        rw [if_pos ho]
        obtain ⟨op, n, nm, ks⟩ := x
        simp only at ho hk hne h0 h1
        subst ho hk hne
        obtain ⟨v, rfl⟩ : ∃ v : Nat, n = (v : Int) := ⟨n.toNat, by omega⟩
        rw [itoa_nn h0]
        exact rtx_num (by omega) hx hidx hm1 hm5 he3
      · have hn0 : x.n = 0 := by
          unfold formedL at hf
          rw [if_neg (by omega), if_pos ho] at hf
          simp only [Bool.and_eq_true, decide_eq_true_eq] at hf
          exact hf.2.1.1
        have h24 : x.name.size ≤ 24 := by
          unfold nameB at hn
          simp only [Bool.and_eq_true, decide_eq_true_eq] at hn
          have := hn.1.1.2
          omega
        rw [if_neg (by omega)]
        obtain ⟨op, n, nm, ks⟩ := x
        simp only at ho hk hn0 h24
        subst ho hk hn0
        exact rtx_name hx hidx hm1 hm5 he3
    | un a =>
      have hn := AtL.right hat
      rw [Tr.flat_len] at hn
      have hn := hn.one
      simp only [Tr.size] at hs hke
      have hp := a.size_pos
      show RTgo A c e B (K + (a.size + 1) - 1) m (parenS 4 m (45 :: a.str 4))
      rw [show K + (a.size + 1) - 1 = K + a.size from by omega]
      exact rtx_un (rtx_kid (a := a) IH (by omega) hg hat.left (by omega) (by omega) he3 (by omega) (by omega)) hn (by omega) he3
    | bin op a b =>
      have hn := AtL.right hat
      rw [List.length_append, Tr.flat_len, Tr.flat_len, ← Nat.add_assoc] at hn
      have hn := hn.one
      have hl := hat.left.left
      have hr := hat.left.right
      rw [Tr.flat_len] at hr
      simp only [Tr.size] at hs hke
      have hp := a.size_pos
      have hp' := b.size_pos
      obtain ⟨hb, hga, hgb⟩ := hg
      show RTgo A c e B (K + (a.size + b.size + 1) - 1) m (parenS (ownB op) m (if ownB op = 5 then (funcT op).data.toList ++ (40 :: (a.str 1 ++ (44 :: 32 :: (b.str 1 ++ [41]))))
        else if ownB op = 1 then a.str 2 ++ (32 :: ((infixT op).data.toList ++ (32 :: b.str 2))) else a.str (ownB op) ++ (32 :: ((infixT op).data.toList ++ (32 :: b.str (ownB op + 1))))))
      rw [show K + (a.size + b.size + 1) - 1 = K + a.size + b.size from by omega]
      rcases bin_own hb with h | h | h | h | h
      · have ho : ownB op = 1 := by unfold ownB; rw [if_pos (Or.inl h)]
        rw [ho]
        subst h
        exact rtx_10 (rtx_kid IH (by omega) hga hl (by omega) (by omega) he3 (by omega) (by omega)) (rtx_kid IH (by omega) hgb hr (by omega) (by omega) he3 (by omega) (by omega)) hn (by omega) he3
      · have ho : ownB op = 1 := by unfold ownB; rw [if_pos (Or.inr h)]
        rw [ho]
        subst h
        exact rtx_11 (rtx_kid IH (by omega) hga hl (by omega) (by omega) he3 (by omega) (by omega)) (rtx_kid IH (by omega) hgb hr (by omega) (by omega) he3 (by omega) (by omega)) hn (by omega) he3
      · have ho : ownB op = 2 := by unfold ownB; rw [if_neg (by omega), if_pos h]
        rw [ho]
        rcases h with rfl | rfl
        · exact rtx_3 (rtx_kid IH (by omega) hga hl (by omega) (by omega) he3 (by omega) (by omega)) (rtx_kid IH (by omega) hgb hr (by omega) (by omega) he3 (by omega) (by omega)) hn (by omega) he3
        · exact rtx_4 (rtx_kid IH (by omega) hga hl (by omega) (by omega) he3 (by omega) (by omega)) (rtx_kid IH (by omega) hgb hr (by omega) (by omega) he3 (by omega) (by omega)) hn (by omega) he3
      · have ho : ownB op = 3 := by unfold ownB; rw [if_neg (by omega), if_neg (by omega), if_pos h]
        rw [ho]
        rcases h with rfl | rfl
        · exact rtx_5 (rtx_kid IH (by omega) hga hl (by omega) (by omega) he3 (by omega) (by omega)) (rtx_kid IH (by omega) hgb hr (by omega) (by omega) he3 (by omega) (by omega)) hn (by omega) he3
        · exact rtx_6 (rtx_kid IH (by omega) hga hl (by omega) (by omega) he3 (by omega) (by omega)) (rtx_kid IH (by omega) hgb hr (by omega) (by omega) he3 (by omega) (by omega)) hn (by omega) he3
      · have ho : ownB op = 5 := by unfold ownB; rw [if_neg (by omega), if_neg (by omega), if_neg (by omega)]
        rw [ho]
        rcases h with rfl | rfl
        · exact rtx_7 (rtx_kid IH (by omega) hga hl (by omega) (by omega) he3 (by omega) (by omega)) (rtx_kid IH (by omega) hgb hr (by omega) (by omega) he3 (by omega) (by omega)) hn (by omega) he3
        · exact rtx_8 (rtx_kid IH (by omega) hga hl (by omega) (by omega) he3 (by omega) (by omega)) (rtx_kid IH (by omega) hgb hr (by omega) (by omega) he3 (by omega) (by omega)) hn (by omega) he3
    | cond a b d =>
      have hn := AtL.right hat
      rw [List.length_append, List.length_append, Tr.flat_len, Tr.flat_len, Tr.flat_len, ← Nat.add_assoc, ← Nat.add_assoc] at hn
      have hn := hn.one
      have hl := hat.left.left.left
      have hr := hat.left.left.right
      rw [Tr.flat_len] at hr
      have hd := hat.left.right
      rw [List.length_append, Tr.flat_len, Tr.flat_len, ← Nat.add_assoc] at hd
      simp only [Tr.size] at hs hke
      have hp := a.size_pos
      have hp' := b.size_pos
      have hp'' := d.size_pos
      obtain ⟨hga, hgb, hgd⟩ := hg
      show RTgo A c e B (K + (a.size + b.size + d.size + 1) - 1) m (parenS 5 m ((funcT 9).data.toList ++ (40 :: (a.str 1 ++ (44 :: 32 :: (b.str 1 ++ (44 :: 32 :: (d.str 1 ++ [41]))))))))
      rw [show K + (a.size + b.size + d.size + 1) - 1 = K + a.size + b.size + d.size from by omega]
      exact rtx_9 (rtx_kid IH (by omega) hga hl (by omega) (by omega) he3 (by omega) (by omega)) (rtx_kid IH (by omega) hgb hr (by omega) (by omega) he3 (by omega) (by omega)) (rtx_kid IH (by omega) hgd hd (by omega) (by omega) he3 (by omega) (by omega)) hn (by omega) he3
end Go.Proofs.YtkomgidcgepknaaGreatDoor

set_option linter.unusedVariables false
set_option linter.unusedSimpArgs false
namespace Go.Proofs.YtkomgidcgepknaaGreatDoor
open Go.RowKit Go.Deep Go.Maps Go.Lib

set_option maxHeartbeats 2000000 in
set_option maxRecDepth 20000 in
theorem rtext_none (A : Option Addr) (c : Nat) (e : List Nod) (w : World) (h : ExprAt w w.heap.size A e) (hn : ∀ x ∈ e, x.name.size ≤ maxLen) (hm : e.length ≤ maxLen) (hv : validL e = false) :
    Calls Tryz.prog 30 #[.slice A e.length c] w fun en w' => en = .returned (.tuple #[.string ⟨#[]⟩, .int .i64 1]) ∧ Below w.heap.size w w' := by
  have HC := hide (refValidE_any A c e w h hn hm)
  rw [hv] at HC
  clear h hn hm hv
  go_enter Tryz.func30, Tryz.ntmps30
  go_wp2_with fail
  refine HC.out.mono ?_
  rintro en w2 ⟨rfl, hb⟩
  have HB := hide hb
  clear hb HC
  go_wp2
  go_ret2
  exact ⟨rfl, HB.out⟩
set_option maxHeartbeats 2000000 in
set_option maxRecDepth 20000 in
theorem rtext_valid (A : Option Addr) (c : Nat) (e : List Nod) (w : World) (h : ExprAt w w.heap.size A e) (hn : ∀ x ∈ e, x.name.size ≤ maxLen) {t : Tr} (hg : t.good) (he : e = t.flat 0) (hv : validL e = true) :
    Calls Tryz.prog 30 #[.slice A e.length c] w fun en w' => en = .returned (.tuple #[.string ⟨(t.str 1).toArray⟩, .int .i64 0]) ∧ Below w.heap.size w w' := by
  have hlen : e.length = t.size := by rw [he, Tr.flat_len]
  have h300 : e.length ≤ 300 := by
    have hh := hv
    unfold validL at hh
    simp only [Bool.and_eq_true, decide_eq_true_eq] at hh
    exact hh.1.1.2
  have hp := t.size_pos
  have HC := hide (refValidE_any A c e w h hn (by unfold maxLen; omega))
  rw [hv] at HC
  have hat : AtL e 0 (t.flat 0) := by
    rw [he]
    exact atL_self _
  have hcall := rtx_all (A := A) (c := c) (B := w.heap.size) h300 (t.size + 1) t (Nat.lt_succ_self _) hg 0 1 hat (by omega) (Nat.le_refl _) (by omega)
  have HQ : Hid ((e.length : Int) - 1 = ((0 + t.size - 1 : Nat) : Int)) := hide (by omega)
  have HK := hide hcall
  have H := hide h
  clear h hn hcall hat hv he hlen hp
  go_enter Tryz.func30, Tryz.ntmps30
  go_wp2_with fail
  refine HC.out.mono ?_
  rintro en w2 ⟨rfl, hb⟩
  have HB := hide hb
  clear hb HC
  go_wp2_with fail
  rw [HQ.out]
  refine (HK.out w2 (H.out.keep (fun p hp => HB.out.cell hp)) HB.out.size).mono ?_
  rintro en w3 ⟨rfl, hb3⟩
  have HB3 := hide (HB.out.trans (hb3.mono HB.out.size))
  clear hb3 HB
  go_wp2
  go_ret2
  exact ⟨rfl, HB3.out⟩
end Go.Proofs.YtkomgidcgepknaaGreatDoor
