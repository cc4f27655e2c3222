/-
  expr.Text: the walk of its closure.
-/
import Derived.Test.YtkofmiegnfgbjaaGreatDoorTxw
set_option linter.unusedVariables false
set_option linter.unusedSimpArgs false
namespace Go.Proofs.YtkofmiegnfgbjaaGreatDoor
open Go.RowKit Go.Deep Go.Maps
open Go.Lib (itoa decDigits)

section
variable {pe pb pw : Nat} {A : Option Addr} {c : Nat} {e : List Nod}
theorem KeptB.draw (pb : Nat) (w : World) : KeptB pb w w.drew := ⟨(Below.refl _ _).drew, (Lib.OthersKept.refl _ _ _).drew⟩
theorem BuiF.draw {B b : Nat} {bs : List Value} {w : World} (h : BuiF B b bs w) : BuiF B b bs w.drew := h.below (Below.refl _ _).drew
theorem sp1_run {t : ByteArray} (h : t.size ≤ 2) (w : World) : (Op.stringOp .add ⟨#[32]⟩ t).run Tryz.prog w = .ok (.string (⟨#[32]⟩ ++ t)) w :=
  run_string_add_sum w _ _ (by have : (⟨#[32]⟩ : ByteArray).size = 1 := rfl; omega)
theorem sp2_run {t : ByteArray} (h : t.size ≤ 2) (w : World) : (Op.stringOp .add (⟨#[32]⟩ ++ t) ⟨#[32]⟩).run Tryz.prog w = .ok (.string (⟨#[32]⟩ ++ t ++ ⟨#[32]⟩)) w :=
  run_string_add_sum w _ _ (by have : (⟨#[32]⟩ : ByteArray).size = 1 := rfl; have := ByteArray.size_append (a := ⟨#[32]⟩) (b := t); omega)
theorem par_run {t : ByteArray} (h : t.size ≤ 3) (w : World) : (Op.stringOp .add t ⟨#[40]⟩).run Tryz.prog w = .ok (.string (t ++ ⟨#[40]⟩)) w :=
  run_string_add_sum w _ _ (by have : (⟨#[40]⟩ : ByteArray).size = 1 := rfl; omega)
theorem TEnv.pos {w : World} (h : TEnv w pe pb pw A c e) : pb < w.heap.size := Nat.lt_trans h.two h.self.lt
/-- The closure writes the text l of the node idx at the strength m. -/
def TGo (pe pb pw : Nat) (A : Option Addr) (c : Nat) (e : List Nod) (size idx m : Nat) (l : List UInt8) : Prop := ∀ (bs : List UInt8) (w : World), bs.length + 26 * size ≤ 100000 → TEnv w pe pb pw A c e → BuiF pb pb (Lib.byteCells bs) w →
  Calls Tryz.prog 50 #[.int .i64 (idx : Int), .int .i64 (m : Int), .pointer (some ⟨pe, 0, none⟩), .pointer (some ⟨pb, 0, none⟩), .pointer (some ⟨pw, 0, none⟩)] w (TPost pb bs l w)
def TIH (pe pb pw : Nat) (A : Option Addr) (c : Nat) (e : List Nod) (N : Nat) : Prop := ∀ (s : Tr), s.size < N → s.good → ∀ (K m : Nat), AtL e K (s.flat K) → K + s.size ≤ e.length → 1 ≤ m → m ≤ 5 → TGo pe pb pw A c e s.size (K + s.size - 1) m (s.str m)


set_option maxHeartbeats 8000000 in
set_option maxRecDepth 100000 in
theorem txt_un {N : Nat} (IH0 : TIH pe pb pw A c e N) (a : Tr) (ha0 : a.size < N) (hg0 : a.good) {Ka : Nat} (hat0 : AtL e Ka (a.flat Ka)) {v0 : Int} (hv0 : v0 = ((Ka + a.size - 1 : Nat) : Int)) (hke0 : Ka + a.size ≤ e.length) {idx m : Nat} (hx : nodAt e idx = ⟨12, 0, ByteArray.empty, [v0]⟩) (hidx : idx < e.length) (hm1 : 1 ≤ m) (hm5 : m ≤ 5) (hen : ∀ x ∈ e, x.name.size ≤ maxLen) (he3 : e.length ≤ 300) :
    TGo pe pb pw A c e (a.size + 1) idx m (parenS 4 m (45 :: a.str 4)) := by
  intro bs w hlen hT hB
  have IH := hide IH0
  have hpos := hT.pos
  have hone := hT.one
  have htwo := hT.two
  have hselfl := hT.self.lt
  have HT := hide hT
  have HB := hide hB
  obtain ⟨be, offe, K', kc, rfl, hbe, x0, x1, x2, x3, hKd⟩ := hT.ex.at_ hidx
  rw [hx] at x0 x1 x2 x3 hKd
  have hname : ByteArray.empty.size ≤ maxLen := by
    have := hen _ (List.mem_of_getElem? (nodAt_get hidx))
    rw [hx] at this
    exact this
  have hnmlen : ByteArray.empty.size ≤ 24 := Nat.zero_le _
  have x0 : w.cell? ⟨be, offe + idx * 4, none⟩ = some (.int .i64 12) := x0
  have x1 : w.cell? ⟨be, offe + idx * 4 + 1, none⟩ = some (.int .i64 0) := x1
  have x2 : w.cell? ⟨be, offe + idx * 4 + 2, none⟩ = some (.string ByteArray.empty) := x2
  have x3 : w.cell? ⟨be, offe + idx * 4 + 3, none⟩ = some (.slice K' 1 kc) := x3
  have hKd : RI w pb K' 1 [v0] := hKd
  have p0 : w.cell? ⟨pe, 0, none⟩ = some (.slice (some ⟨be, offe, none⟩) e.length c) := hT.box.cell 0
  obtain ⟨bk, offk, rfl, hbk, gk0⟩ := hKd.at_ (k := 0) (by decide)
  have GK0 : Hid (w.cell? ⟨bk, offk, none⟩ = some (.int .i64 (v0))) := gk0
  clear gk0
  have hB5 : Blk (w.alloc (Obj.cells #[.int .i64 12, .int .i64 0, .string ByteArray.empty, .slice (some ⟨bk, offk, none⟩) 1 kc] 40)) w.heap.size 40 #[.int .i64 12, .int .i64 0, .string ByteArray.empty, .slice (some ⟨bk, offk, none⟩) 1 kc] := Blk.new _ _ _
  have hb5 : Below w.heap.size w (w.alloc (Obj.cells #[.int .i64 12, .int .i64 0, .string ByteArray.empty, .slice (some ⟨bk, offk, none⟩) 1 kc] 40)) := (Below.refl _ _).alloc (Nat.le_refl _) _
  have HV0 := hide hv0
  clear hT hB hKd IH0 hx hv0
  go_enter_defers Tryz.func50, Tryz.ntmps50
  go_upto_region 1 with (fail)
  generalize w.alloc (Obj.cells #[.int .i64 12, .int .i64 0, .string ByteArray.empty, .slice (some ⟨bk, offk, none⟩) 1 kc] 40) = w5 at hB5 hb5 ⊢
  have HK5 := hide (KeptB.of_below (pb := pb) hb5 (Nat.le_of_lt hpos))
  have HT5 := hide (HT.out.kept HK5.out)
  have HB5 := hide (HB.out.below hb5)
  have HN5 := hide hB5
  have hql := hB5.lt
  have hqp : w.heap.size ≠ pb := by omega
  have y0 : w5.cell? ⟨w.heap.size, 0, none⟩ = some (.int .i64 12) := hB5.cell 0
  clear x0 x1 x2 x3 p0 hB5 hb5
  generalize w.heap.size = q at HN5 hql hqp y0 hpos hselfl ⊢
  go_wp2_with fail
  refine (strength_any _ w5).mono ?_
  rintro en w' ⟨rfl, rfl⟩
  rw [show strength 12 = ((4 : Nat) : Int) from by decide]
  have hlp := HT5.out.pos
  clear y0
  by_cases hlt : 4 < m
  · have d1 : decide (((4 : Nat) : Int) < (m : Int)) = true := decide_eq_true (by omega)
    go_wp2_with fail
    refine (txt_write pb bs ⟨#[40]⟩ w5 HB5.out (by show bs.length + 1 ≤ 1000000; omega) (Nat.le_of_lt hlp)).mono ?_
    rintro en w6 ⟨rfl, hb6, hk6⟩
    have HT6 := hide (HT5.out.kept hk6)
    have HB6 : Hid (BuiF pb pb (Lib.byteCells (bs ++ [40])) w6) := hide hb6
    have HK6 := hide (HK5.out.trans hk6)
    have HN6 := hide (hk6.blk HN5.out hqp (by decide))
    obtain ⟨bs0, hbs0⟩ : ∃ bs0, bs0 = bs ++ [40] := ⟨_, rfl⟩
    rw [← hbs0] at HB6
    have hl0 : bs0.length ≤ bs.length + 1 := by rw [hbs0]; simp
    have FIN : Hid (∀ (l : List UInt8) (tm : Array Value) (w' : World), l = 45 :: a.str 4 → BuiF pb pb (Lib.byteCells (bs0 ++ l)) w' → KeptB pb w w' → bs0.length + l.length ≤ 200000 →
        Leaves Tryz.prog Tryz.f50 tm (TPost pb bs (parenS 4 m (45 :: a.str 4)) w) [{ target := .fn (.func 52) #[], args := #[.pointer (some ⟨pb, 0, none⟩), .string ⟨#[41]⟩] }] .returning w') := hide (fun l tm w' hl h1 h2 h3 => by
      subst hl
      refine leaves_cons (f := 52) (args := #[.pointer (some ⟨pb, 0, none⟩), .string ⟨#[41]⟩]) (by simp) (by simp [go_sem]) ?_
      refine (txt_writeD .returning pb _ ⟨#[41]⟩ w' h1 (by rw [List.length_append]; show _ + 1 ≤ 1000000; omega) (by have := h2.bel.size; have := HT.out.pos; omega)).mono ?_
      rintro en u' w'' ⟨rfl, rfl, h4, h5⟩
      refine ⟨.tuple #[], by simp [results, Tryz.results50, go_sem], rfl, ?_, h2.trans h5⟩
      have h4 : BuiF pb pb (Lib.byteCells (bs0 ++ (45 :: a.str 4) ++ [41])) w'' := h4
      rw [hbs0] at h4
      unfold parenS
      rw [if_pos hlt]
      simpa using h4)
    clear hb6 hk6 HB5 HN5 HT5 HK5 hbs0
    go_upto_region 5 with (fail)
    go_wp2_with fail
    refine (txt_write pb (bs0) ⟨#[45]⟩ w6 HB6.out (by  show _ + 1 ≤ 1000000; (try simp only [List.length_append, List.length_cons, List.length_nil]); omega) (Nat.le_of_lt HT6.out.pos)).mono ?_
    rintro en w7 ⟨rfl, hb, hk⟩
    have HT7 := hide (HT6.out.kept hk)
    have HB7 : Hid (BuiF pb pb (Lib.byteCells (bs0 ++ [45])) w7) := hide hb
    have HK7 := hide (HK6.out.trans hk)
    have HN7 := hide (hk.blk HN6.out hqp (by decide))
    clear hb hk HB6 HT6 HK6 HN6
    have SD : Hid (w7.drew.cell? ⟨pw, 0, none⟩ = some (.func (.func 50) #[] #[.pointer (some ⟨pe, 0, none⟩), .pointer (some ⟨pb, 0, none⟩), .pointer (some ⟨pw, 0, none⟩)]) ∧ w7.drew.cell? ⟨q, 3, none⟩ = some (.slice (some ⟨bk, offk, none⟩) 1 kc) ∧ w7.drew.cell? ⟨bk, offk, none⟩ = some (.int .i64 (v0))) := ⟨HT7.out.self.cell 0, HN7.out.cell 3, (HK7.out.bel.cell (p := ⟨bk, offk, none⟩) hbk).trans GK0.out⟩
    go_upto_region 30 with (fail)
    go_region_held3 (fun w' => w'.cell? ⟨pw, 0, none⟩ = some (.func (.func 50) #[] #[.pointer (some ⟨pe, 0, none⟩), .pointer (some ⟨pb, 0, none⟩), .pointer (some ⟨pw, 0, none⟩)]) ∧ w'.cell? ⟨q, 3, none⟩ = some (.slice (some ⟨bk, offk, none⟩) 1 kc) ∧ w'.cell? ⟨bk, offk, none⟩ = some (.int .i64 (v0)))
      (first | exact SD.out | exact SK.out)
      (first | (go_at_call 50; rw [HV0.out]; refine (IH.out a ha0 hg0 (Ka) 4 hat0 hke0 (by omega) (by omega) (bs0 ++ [45]) w7.drew (by  (try simp only [List.length_append, List.length_cons, List.length_nil]); omega) (HT7.out.kept (KeptB.draw pb w7)) HB7.out.draw).mono ?_; rintro en w8 ⟨rfl, hb, hk⟩; have hk := (KeptB.draw pb w7).trans hk; have HT8 := hide (HT7.out.kept hk); have HB8 := hide hb; have HK8 := hide (HK7.out.trans hk); have HN8 := hide (hk.blk HN7.out hqp (by decide)); have SK : Hid (w8.cell? ⟨pw, 0, none⟩ = some (.func (.func 50) #[] #[.pointer (some ⟨pe, 0, none⟩), .pointer (some ⟨pb, 0, none⟩), .pointer (some ⟨pw, 0, none⟩)]) ∧ w8.cell? ⟨q, 3, none⟩ = some (.slice (some ⟨bk, offk, none⟩) 1 kc) ∧ w8.cell? ⟨bk, offk, none⟩ = some (.int .i64 (v0))) := ⟨HT8.out.self.cell 0, HN8.out.cell 3, (HK8.out.bel.cell (p := ⟨bk, offk, none⟩) hbk).trans GK0.out⟩; clear hb hk))
    clear SD HB7 HT7 HK7 HN7
    have hls0 := str_len a hg0 4
    go_wp2
    exact FIN.out _ _ _ rfl (by simpa only [List.append_assoc, List.cons_append, List.nil_append] using HB8.out) HK8.out (by  (try simp only [List.length_append, List.length_cons, List.length_nil]); omega)
  · have d1 : decide (((4 : Nat) : Int) < (m : Int)) = false := decide_eq_false (by omega)
    obtain ⟨w6, hw6⟩ : ∃ w6, w6 = w5 := ⟨_, rfl⟩
    subst hw6
    have HT6 := HT5
    have HB6 := HB5
    have HK6 := HK5
    have HN6 := HN5
    obtain ⟨bs0, hbs0⟩ : ∃ bs0, bs0 = bs := ⟨_, rfl⟩
    rw [← hbs0] at HB6
    have hl0 : bs0.length ≤ bs.length + 1 := by rw [hbs0]; omega
    have FIN : Hid (∀ (l : List UInt8) (tm : Array Value) (w' : World), l = 45 :: a.str 4 → BuiF pb pb (Lib.byteCells (bs0 ++ l)) w' → KeptB pb w w' → bs0.length + l.length ≤ 200000 →
        Leaves Tryz.prog Tryz.f50 tm (TPost pb bs (parenS 4 m (45 :: a.str 4)) w) [] .returning w') := hide (fun l tm w' hl h1 h2 h3 => by
      subst hl
      refine ⟨.tuple #[], by simp [results, Tryz.results50, go_sem], rfl, ?_, h2⟩
      rw [hbs0] at h1
      unfold parenS
      rw [if_neg hlt]
      exact h1)
    clear HB5 HN5 HT5 HK5 hbs0
    go_upto_region 5 with (fail)
    go_wp2_with fail
    refine (txt_write pb (bs0) ⟨#[45]⟩ w6 HB6.out (by  show _ + 1 ≤ 1000000; (try simp only [List.length_append, List.length_cons, List.length_nil]); omega) (Nat.le_of_lt HT6.out.pos)).mono ?_
    rintro en w7 ⟨rfl, hb, hk⟩
    have HT7 := hide (HT6.out.kept hk)
    have HB7 : Hid (BuiF pb pb (Lib.byteCells (bs0 ++ [45])) w7) := hide hb
    have HK7 := hide (HK6.out.trans hk)
    have HN7 := hide (hk.blk HN6.out hqp (by decide))
    clear hb hk HB6 HT6 HK6 HN6
    have SD : Hid (w7.drew.cell? ⟨pw, 0, none⟩ = some (.func (.func 50) #[] #[.pointer (some ⟨pe, 0, none⟩), .pointer (some ⟨pb, 0, none⟩), .pointer (some ⟨pw, 0, none⟩)]) ∧ w7.drew.cell? ⟨q, 3, none⟩ = some (.slice (some ⟨bk, offk, none⟩) 1 kc) ∧ w7.drew.cell? ⟨bk, offk, none⟩ = some (.int .i64 (v0))) := ⟨HT7.out.self.cell 0, HN7.out.cell 3, (HK7.out.bel.cell (p := ⟨bk, offk, none⟩) hbk).trans GK0.out⟩
    go_upto_region 30 with (fail)
    go_region_held3 (fun w' => w'.cell? ⟨pw, 0, none⟩ = some (.func (.func 50) #[] #[.pointer (some ⟨pe, 0, none⟩), .pointer (some ⟨pb, 0, none⟩), .pointer (some ⟨pw, 0, none⟩)]) ∧ w'.cell? ⟨q, 3, none⟩ = some (.slice (some ⟨bk, offk, none⟩) 1 kc) ∧ w'.cell? ⟨bk, offk, none⟩ = some (.int .i64 (v0)))
      (first | exact SD.out | exact SK.out)
      (first | (go_at_call 50; rw [HV0.out]; refine (IH.out a ha0 hg0 (Ka) 4 hat0 hke0 (by omega) (by omega) (bs0 ++ [45]) w7.drew (by  (try simp only [List.length_append, List.length_cons, List.length_nil]); omega) (HT7.out.kept (KeptB.draw pb w7)) HB7.out.draw).mono ?_; rintro en w8 ⟨rfl, hb, hk⟩; have hk := (KeptB.draw pb w7).trans hk; have HT8 := hide (HT7.out.kept hk); have HB8 := hide hb; have HK8 := hide (HK7.out.trans hk); have HN8 := hide (hk.blk HN7.out hqp (by decide)); have SK : Hid (w8.cell? ⟨pw, 0, none⟩ = some (.func (.func 50) #[] #[.pointer (some ⟨pe, 0, none⟩), .pointer (some ⟨pb, 0, none⟩), .pointer (some ⟨pw, 0, none⟩)]) ∧ w8.cell? ⟨q, 3, none⟩ = some (.slice (some ⟨bk, offk, none⟩) 1 kc) ∧ w8.cell? ⟨bk, offk, none⟩ = some (.int .i64 (v0))) := ⟨HT8.out.self.cell 0, HN8.out.cell 3, (HK8.out.bel.cell (p := ⟨bk, offk, none⟩) hbk).trans GK0.out⟩; clear hb hk))
    clear SD HB7 HT7 HK7 HN7
    have hls0 := str_len a hg0 4
    go_wp2
    exact FIN.out _ _ _ rfl (by simpa only [List.append_assoc, List.cons_append, List.nil_append] using HB8.out) HK8.out (by  (try simp only [List.length_append, List.length_cons, List.length_nil]); omega)

set_option maxHeartbeats 8000000 in
set_option maxRecDepth 100000 in
theorem txt_weak {N : Nat} (IH0 : TIH pe pb pw A c e N) {op : Int} (hop1 : op = 10 ∨ op = 11) (a : Tr) (ha0 : a.size < N) (hg0 : a.good) {Ka : Nat} (hat0 : AtL e Ka (a.flat Ka)) {v0 : Int} (hv0 : v0 = ((Ka + a.size - 1 : Nat) : Int)) (hke0 : Ka + a.size ≤ e.length) (b : Tr) (ha1 : b.size < N) (hg1 : b.good) {Kb : Nat} (hat1 : AtL e Kb (b.flat Kb)) {v1 : Int} (hv1 : v1 = ((Kb + b.size - 1 : Nat) : Int)) (hke1 : Kb + b.size ≤ e.length) {idx m : Nat} (hx : nodAt e idx = ⟨op, 0, ByteArray.empty, [v0, v1]⟩) (hidx : idx < e.length) (hm1 : 1 ≤ m) (hm5 : m ≤ 5) (hen : ∀ x ∈ e, x.name.size ≤ maxLen) (he3 : e.length ≤ 300) :
    TGo pe pb pw A c e (a.size + b.size + 1) idx m (parenS 1 m (a.str 2 ++ (32 :: ((infixT op).data.toList ++ (32 :: b.str 2))))) := by
  intro bs w hlen hT hB
  have IH := hide IH0
  have hpos := hT.pos
  have hone := hT.one
  have htwo := hT.two
  have hselfl := hT.self.lt
  have HT := hide hT
  have HB := hide hB
  obtain ⟨be, offe, K', kc, rfl, hbe, x0, x1, x2, x3, hKd⟩ := hT.ex.at_ hidx
  rw [hx] at x0 x1 x2 x3 hKd
  have hname : ByteArray.empty.size ≤ maxLen := by
    have := hen _ (List.mem_of_getElem? (nodAt_get hidx))
    rw [hx] at this
    exact this
  have hnmlen : ByteArray.empty.size ≤ 24 := Nat.zero_le _
  have x0 : w.cell? ⟨be, offe + idx * 4, none⟩ = some (.int .i64 op) := x0
  have x1 : w.cell? ⟨be, offe + idx * 4 + 1, none⟩ = some (.int .i64 0) := x1
  have x2 : w.cell? ⟨be, offe + idx * 4 + 2, none⟩ = some (.string ByteArray.empty) := x2
  have x3 : w.cell? ⟨be, offe + idx * 4 + 3, none⟩ = some (.slice K' 2 kc) := x3
  have hKd : RI w pb K' 2 [v0, v1] := hKd
  have p0 : w.cell? ⟨pe, 0, none⟩ = some (.slice (some ⟨be, offe, none⟩) e.length c) := hT.box.cell 0
  obtain ⟨bk, offk, rfl, hbk, gk0⟩ := hKd.at_ (k := 0) (by decide)
  have GK0 : Hid (w.cell? ⟨bk, offk, none⟩ = some (.int .i64 (v0))) := gk0
  have GK1 : Hid (w.cell? ⟨bk, offk + 1, none⟩ = some (.int .i64 (v1))) := hide (by
    obtain ⟨b2, o2, hA2, _, g2⟩ := hKd.at_ (k := 1) (by decide)
    injection hA2 with hA2
    injection hA2 with h1 h2
    rw [h1, h2]
    exact g2)
  clear gk0
  have hB5 : Blk (w.alloc (Obj.cells #[.int .i64 op, .int .i64 0, .string ByteArray.empty, .slice (some ⟨bk, offk, none⟩) 2 kc] 40)) w.heap.size 40 #[.int .i64 op, .int .i64 0, .string ByteArray.empty, .slice (some ⟨bk, offk, none⟩) 2 kc] := Blk.new _ _ _
  have hb5 : Below w.heap.size w (w.alloc (Obj.cells #[.int .i64 op, .int .i64 0, .string ByteArray.empty, .slice (some ⟨bk, offk, none⟩) 2 kc] 40)) := (Below.refl _ _).alloc (Nat.le_refl _) _
  have HV0 := hide hv0
  have HV1 := hide hv1
  clear hT hB hKd IH0 hx hv0 hv1
  have hop : op = 10 ∨ op = 11 ∨ op = 3 ∨ op = 4 ∨ op = 5 ∨ op = 6 := by omega
  go_enter_defers Tryz.func50, Tryz.ntmps50
  go_upto_region 1 with (fail)
  generalize w.alloc (Obj.cells #[.int .i64 op, .int .i64 0, .string ByteArray.empty, .slice (some ⟨bk, offk, none⟩) 2 kc] 40) = w5 at hB5 hb5 ⊢
  have HK5 := hide (KeptB.of_below (pb := pb) hb5 (Nat.le_of_lt hpos))
  have HT5 := hide (HT.out.kept HK5.out)
  have HB5 := hide (HB.out.below hb5)
  have HN5 := hide hB5
  have hql := hB5.lt
  have hqp : w.heap.size ≠ pb := by omega
  have y0 : w5.cell? ⟨w.heap.size, 0, none⟩ = some (.int .i64 op) := hB5.cell 0
  clear x0 x1 x2 x3 p0 hB5 hb5
  generalize w.heap.size = q at HN5 hql hqp y0 hpos hselfl ⊢
  go_wp2_with fail
  refine (strength_any _ w5).mono ?_
  rintro en w' ⟨rfl, rfl⟩
  rw [show strength op = ((1 : Nat) : Int) from by rcases hop1 with rfl | rfl <;> decide]
  have hlp := HT5.out.pos
  clear y0
  by_cases hlt : 1 < m
  · have d1 : decide (((1 : Nat) : Int) < (m : Int)) = true := decide_eq_true (by omega)
    go_wp2_with fail
    refine (txt_write pb bs ⟨#[40]⟩ w5 HB5.out (by show bs.length + 1 ≤ 1000000; omega) (Nat.le_of_lt hlp)).mono ?_
    rintro en w6 ⟨rfl, hb6, hk6⟩
    have HT6 := hide (HT5.out.kept hk6)
    have HB6 : Hid (BuiF pb pb (Lib.byteCells (bs ++ [40])) w6) := hide hb6
    have HK6 := hide (HK5.out.trans hk6)
    have HN6 := hide (hk6.blk HN5.out hqp (by decide))
    obtain ⟨bs0, hbs0⟩ : ∃ bs0, bs0 = bs ++ [40] := ⟨_, rfl⟩
    rw [← hbs0] at HB6
    have hl0 : bs0.length ≤ bs.length + 1 := by rw [hbs0]; simp
    have FIN : Hid (∀ (l : List UInt8) (tm : Array Value) (w' : World), l = a.str 2 ++ (32 :: ((infixT op).data.toList ++ (32 :: b.str 2))) → BuiF pb pb (Lib.byteCells (bs0 ++ l)) w' → KeptB pb w w' → bs0.length + l.length ≤ 200000 →
        Leaves Tryz.prog Tryz.f50 tm (TPost pb bs (parenS 1 m (a.str 2 ++ (32 :: ((infixT op).data.toList ++ (32 :: b.str 2))))) w) [{ target := .fn (.func 52) #[], args := #[.pointer (some ⟨pb, 0, none⟩), .string ⟨#[41]⟩] }] .returning w') := hide (fun l tm w' hl h1 h2 h3 => by
      subst hl
      refine leaves_cons (f := 52) (args := #[.pointer (some ⟨pb, 0, none⟩), .string ⟨#[41]⟩]) (by simp) (by simp [go_sem]) ?_
      refine (txt_writeD .returning pb _ ⟨#[41]⟩ w' h1 (by rw [List.length_append]; show _ + 1 ≤ 1000000; omega) (by have := h2.bel.size; have := HT.out.pos; omega)).mono ?_
      rintro en u' w'' ⟨rfl, rfl, h4, h5⟩
      refine ⟨.tuple #[], by simp [results, Tryz.results50, go_sem], rfl, ?_, h2.trans h5⟩
      have h4 : BuiF pb pb (Lib.byteCells (bs0 ++ (a.str 2 ++ (32 :: ((infixT op).data.toList ++ (32 :: b.str 2)))) ++ [41])) w'' := h4
      rw [hbs0] at h4
      unfold parenS
      rw [if_pos hlt]
      simpa using h4)
    clear hb6 hk6 HB5 HN5 HT5 HK5 hbs0
    go_upto_region 5 with (fail)
    have SD : Hid (w6.drew.cell? ⟨pw, 0, none⟩ = some (.func (.func 50) #[] #[.pointer (some ⟨pe, 0, none⟩), .pointer (some ⟨pb, 0, none⟩), .pointer (some ⟨pw, 0, none⟩)]) ∧ w6.drew.cell? ⟨q, 3, none⟩ = some (.slice (some ⟨bk, offk, none⟩) 2 kc) ∧ w6.drew.cell? ⟨bk, offk, none⟩ = some (.int .i64 (v0))) := ⟨HT6.out.self.cell 0, HN6.out.cell 3, (HK6.out.bel.cell (p := ⟨bk, offk, none⟩) hbk).trans GK0.out⟩
    go_upto_region 20 with (fail)
    go_region_held3 (fun w' => w'.cell? ⟨pw, 0, none⟩ = some (.func (.func 50) #[] #[.pointer (some ⟨pe, 0, none⟩), .pointer (some ⟨pb, 0, none⟩), .pointer (some ⟨pw, 0, none⟩)]) ∧ w'.cell? ⟨q, 3, none⟩ = some (.slice (some ⟨bk, offk, none⟩) 2 kc) ∧ w'.cell? ⟨bk, offk, none⟩ = some (.int .i64 (v0)))
      (first | exact SD.out | exact SK.out)
      (first | (go_at_call 50; rw [HV0.out]; refine (IH.out a ha0 hg0 (Ka) 2 hat0 hke0 (by omega) (by omega) (bs0) w6.drew (by  (try simp only [List.length_append, List.length_cons, List.length_nil]); omega) (HT6.out.kept (KeptB.draw pb w6)) HB6.out.draw).mono ?_; rintro en w7 ⟨rfl, hb, hk⟩; have hk := (KeptB.draw pb w6).trans hk; have HT7 := hide (HT6.out.kept hk); have HB7 := hide hb; have HK7 := hide (HK6.out.trans hk); have HN7 := hide (hk.blk HN6.out hqp (by decide)); have SK : Hid (w7.cell? ⟨pw, 0, none⟩ = some (.func (.func 50) #[] #[.pointer (some ⟨pe, 0, none⟩), .pointer (some ⟨pb, 0, none⟩), .pointer (some ⟨pw, 0, none⟩)]) ∧ w7.cell? ⟨q, 3, none⟩ = some (.slice (some ⟨bk, offk, none⟩) 2 kc) ∧ w7.cell? ⟨bk, offk, none⟩ = some (.int .i64 (v0))) := ⟨HT7.out.self.cell 0, HN7.out.cell 3, (HK7.out.bel.cell (p := ⟨bk, offk, none⟩) hbk).trans GK0.out⟩; clear hb hk))
    clear SD HB6 HT6 HK6 HN6
    have hls0 := str_len a hg0 2
    have SD : Hid (w7.drew.cell? ⟨q, 0, none⟩ = some (.int .i64 op)) := HN7.out.cell 0
    have hpz := HT7.out.pos
    have hql2 := HN7.out.lt
    have hsl := infix_len op
    have hsz : (infixT op).size ≤ 2 := by have := hsl; rw [Array.length_toList] at this; exact this
    have ha1 : ∀ w : World, (Op.stringOp .add ⟨#[32]⟩ (infixT op)).run Tryz.prog w = .ok (.string (⟨#[32]⟩ ++ infixT op)) w := fun w => sp1_run hsz w
    have ha2 : ∀ w : World, (Op.stringOp .add (⟨#[32]⟩ ++ infixT op) ⟨#[32]⟩).run Tryz.prog w = .ok (.string (⟨#[32]⟩ ++ infixT op ++ ⟨#[32]⟩)) w := fun w => sp2_run hsz w
    go_upto_region 21 with (fail)
    go_region_held3 (fun w' => w'.cell? ⟨q, 0, none⟩ = some (.int .i64 op)) (first | exact SD.out | exact SK1.out | exact SK2.out | exact SK3.out)
      (first
        | (go_at_call 54; refine (infix_map w7.drew).mono ?_; rintro en u1 ⟨rfl, p2, b2⟩; have P2 := hide p2; have B2 := hide b2; have SK1 : Hid (u1.cell? ⟨q, 0, none⟩ = some (.int .i64 op)) := (b2.cell (p := ⟨q, 0, none⟩) hql2).trans SD.out; clear p2 b2)
        | (go_at_call 53; refine (infixSym_any _ 6 op u1 P2.out hop).mono ?_; rintro en u2 ⟨rfl, b3⟩; have B3 := hide (B2.out.trans (b3.mono B2.out.size)); have SK2 : Hid (u2.cell? ⟨q, 0, none⟩ = some (.int .i64 op)) := (b3.cell (p := ⟨q, 0, none⟩) (Nat.lt_of_lt_of_le hql2 B2.out.size)).trans SK1.out; clear b3)
        | (go_at_call 52; refine (txt_write pb (bs0 ++ a.str 2) _ u2 (HB7.out.draw.below B3.out) (by rw [sp_size]; (try simp only [List.length_append, List.length_cons, List.length_nil]); omega) (Nat.le_trans (Nat.le_of_lt hpz) B3.out.size)).mono ?_; rintro en w8 ⟨rfl, hb, hk⟩; rw [sp_data] at hb; have hk := ((KeptB.draw pb w7).trans (KeptB.of_below B3.out (Nat.le_of_lt hpz))).trans hk; have HT8 := hide (HT7.out.kept hk); have HB8 := hide hb; have HK8 := hide (HK7.out.trans hk); have HN8 := hide (hk.blk HN7.out hqp (by decide)); have SK3 : Hid (w8.cell? ⟨q, 0, none⟩ = some (.int .i64 op)) := HN8.out.cell 0; clear hb hk))
    clear SD HB7 HT7 HK7 HN7 hpz hql2 ha1 ha2
    have SD : Hid (w8.drew.cell? ⟨pw, 0, none⟩ = some (.func (.func 50) #[] #[.pointer (some ⟨pe, 0, none⟩), .pointer (some ⟨pb, 0, none⟩), .pointer (some ⟨pw, 0, none⟩)]) ∧ w8.drew.cell? ⟨q, 3, none⟩ = some (.slice (some ⟨bk, offk, none⟩) 2 kc) ∧ w8.drew.cell? ⟨bk, offk + 1, none⟩ = some (.int .i64 (v1))) := ⟨HT8.out.self.cell 0, HN8.out.cell 3, (HK8.out.bel.cell (p := ⟨bk, offk + 1, none⟩) hbk).trans GK1.out⟩
    go_upto_region 22 with (fail)
    go_region_held3 (fun w' => w'.cell? ⟨pw, 0, none⟩ = some (.func (.func 50) #[] #[.pointer (some ⟨pe, 0, none⟩), .pointer (some ⟨pb, 0, none⟩), .pointer (some ⟨pw, 0, none⟩)]) ∧ w'.cell? ⟨q, 3, none⟩ = some (.slice (some ⟨bk, offk, none⟩) 2 kc) ∧ w'.cell? ⟨bk, offk + 1, none⟩ = some (.int .i64 (v1)))
      (first | exact SD.out | exact SK.out)
      (first | (go_at_call 50; rw [HV1.out]; refine (IH.out b ha1 hg1 (Kb) 2 hat1 hke1 (by omega) (by omega) (bs0 ++ a.str 2 ++ (32 :: ((infixT op).data.toList ++ [32]))) w8.drew (by  (try simp only [List.length_append, List.length_cons, List.length_nil]); omega) (HT8.out.kept (KeptB.draw pb w8)) HB8.out.draw).mono ?_; rintro en w9 ⟨rfl, hb, hk⟩; have hk := (KeptB.draw pb w8).trans hk; have HT9 := hide (HT8.out.kept hk); have HB9 := hide hb; have HK9 := hide (HK8.out.trans hk); have HN9 := hide (hk.blk HN8.out hqp (by decide)); have SK : Hid (w9.cell? ⟨pw, 0, none⟩ = some (.func (.func 50) #[] #[.pointer (some ⟨pe, 0, none⟩), .pointer (some ⟨pb, 0, none⟩), .pointer (some ⟨pw, 0, none⟩)]) ∧ w9.cell? ⟨q, 3, none⟩ = some (.slice (some ⟨bk, offk, none⟩) 2 kc) ∧ w9.cell? ⟨bk, offk + 1, none⟩ = some (.int .i64 (v1))) := ⟨HT9.out.self.cell 0, HN9.out.cell 3, (HK9.out.bel.cell (p := ⟨bk, offk + 1, none⟩) hbk).trans GK1.out⟩; clear hb hk))
    clear SD HB8 HT8 HK8 HN8
    have hls1 := str_len b hg1 2
    go_wp2
    exact FIN.out _ _ _ rfl (by simpa only [List.append_assoc, List.cons_append, List.nil_append] using HB9.out) HK9.out (by  (try simp only [List.length_append, List.length_cons, List.length_nil]); omega)
  · have d1 : decide (((1 : Nat) : Int) < (m : Int)) = false := decide_eq_false (by omega)
    obtain ⟨w6, hw6⟩ : ∃ w6, w6 = w5 := ⟨_, rfl⟩
    subst hw6
    have HT6 := HT5
    have HB6 := HB5
    have HK6 := HK5
    have HN6 := HN5
    obtain ⟨bs0, hbs0⟩ : ∃ bs0, bs0 = bs := ⟨_, rfl⟩
    rw [← hbs0] at HB6
    have hl0 : bs0.length ≤ bs.length + 1 := by rw [hbs0]; omega
    have FIN : Hid (∀ (l : List UInt8) (tm : Array Value) (w' : World), l = a.str 2 ++ (32 :: ((infixT op).data.toList ++ (32 :: b.str 2))) → BuiF pb pb (Lib.byteCells (bs0 ++ l)) w' → KeptB pb w w' → bs0.length + l.length ≤ 200000 →
        Leaves Tryz.prog Tryz.f50 tm (TPost pb bs (parenS 1 m (a.str 2 ++ (32 :: ((infixT op).data.toList ++ (32 :: b.str 2))))) w) [] .returning w') := hide (fun l tm w' hl h1 h2 h3 => by
      subst hl
      refine ⟨.tuple #[], by simp [results, Tryz.results50, go_sem], rfl, ?_, h2⟩
      rw [hbs0] at h1
      unfold parenS
      rw [if_neg hlt]
      exact h1)
    clear HB5 HN5 HT5 HK5 hbs0
    go_upto_region 5 with (fail)
    have SD : Hid (w6.drew.cell? ⟨pw, 0, none⟩ = some (.func (.func 50) #[] #[.pointer (some ⟨pe, 0, none⟩), .pointer (some ⟨pb, 0, none⟩), .pointer (some ⟨pw, 0, none⟩)]) ∧ w6.drew.cell? ⟨q, 3, none⟩ = some (.slice (some ⟨bk, offk, none⟩) 2 kc) ∧ w6.drew.cell? ⟨bk, offk, none⟩ = some (.int .i64 (v0))) := ⟨HT6.out.self.cell 0, HN6.out.cell 3, (HK6.out.bel.cell (p := ⟨bk, offk, none⟩) hbk).trans GK0.out⟩
    go_upto_region 20 with (fail)
    go_region_held3 (fun w' => w'.cell? ⟨pw, 0, none⟩ = some (.func (.func 50) #[] #[.pointer (some ⟨pe, 0, none⟩), .pointer (some ⟨pb, 0, none⟩), .pointer (some ⟨pw, 0, none⟩)]) ∧ w'.cell? ⟨q, 3, none⟩ = some (.slice (some ⟨bk, offk, none⟩) 2 kc) ∧ w'.cell? ⟨bk, offk, none⟩ = some (.int .i64 (v0)))
      (first | exact SD.out | exact SK.out)
      (first | (go_at_call 50; rw [HV0.out]; refine (IH.out a ha0 hg0 (Ka) 2 hat0 hke0 (by omega) (by omega) (bs0) w6.drew (by  (try simp only [List.length_append, List.length_cons, List.length_nil]); omega) (HT6.out.kept (KeptB.draw pb w6)) HB6.out.draw).mono ?_; rintro en w7 ⟨rfl, hb, hk⟩; have hk := (KeptB.draw pb w6).trans hk; have HT7 := hide (HT6.out.kept hk); have HB7 := hide hb; have HK7 := hide (HK6.out.trans hk); have HN7 := hide (hk.blk HN6.out hqp (by decide)); have SK : Hid (w7.cell? ⟨pw, 0, none⟩ = some (.func (.func 50) #[] #[.pointer (some ⟨pe, 0, none⟩), .pointer (some ⟨pb, 0, none⟩), .pointer (some ⟨pw, 0, none⟩)]) ∧ w7.cell? ⟨q, 3, none⟩ = some (.slice (some ⟨bk, offk, none⟩) 2 kc) ∧ w7.cell? ⟨bk, offk, none⟩ = some (.int .i64 (v0))) := ⟨HT7.out.self.cell 0, HN7.out.cell 3, (HK7.out.bel.cell (p := ⟨bk, offk, none⟩) hbk).trans GK0.out⟩; clear hb hk))
    clear SD HB6 HT6 HK6 HN6
    have hls0 := str_len a hg0 2
    have SD : Hid (w7.drew.cell? ⟨q, 0, none⟩ = some (.int .i64 op)) := HN7.out.cell 0
    have hpz := HT7.out.pos
    have hql2 := HN7.out.lt
    have hsl := infix_len op
    have hsz : (infixT op).size ≤ 2 := by have := hsl; rw [Array.length_toList] at this; exact this
    have ha1 : ∀ w : World, (Op.stringOp .add ⟨#[32]⟩ (infixT op)).run Tryz.prog w = .ok (.string (⟨#[32]⟩ ++ infixT op)) w := fun w => sp1_run hsz w
    have ha2 : ∀ w : World, (Op.stringOp .add (⟨#[32]⟩ ++ infixT op) ⟨#[32]⟩).run Tryz.prog w = .ok (.string (⟨#[32]⟩ ++ infixT op ++ ⟨#[32]⟩)) w := fun w => sp2_run hsz w
    go_upto_region 21 with (fail)
    go_region_held3 (fun w' => w'.cell? ⟨q, 0, none⟩ = some (.int .i64 op)) (first | exact SD.out | exact SK1.out | exact SK2.out | exact SK3.out)
      (first
        | (go_at_call 54; refine (infix_map w7.drew).mono ?_; rintro en u1 ⟨rfl, p2, b2⟩; have P2 := hide p2; have B2 := hide b2; have SK1 : Hid (u1.cell? ⟨q, 0, none⟩ = some (.int .i64 op)) := (b2.cell (p := ⟨q, 0, none⟩) hql2).trans SD.out; clear p2 b2)
        | (go_at_call 53; refine (infixSym_any _ 6 op u1 P2.out hop).mono ?_; rintro en u2 ⟨rfl, b3⟩; have B3 := hide (B2.out.trans (b3.mono B2.out.size)); have SK2 : Hid (u2.cell? ⟨q, 0, none⟩ = some (.int .i64 op)) := (b3.cell (p := ⟨q, 0, none⟩) (Nat.lt_of_lt_of_le hql2 B2.out.size)).trans SK1.out; clear b3)
        | (go_at_call 52; refine (txt_write pb (bs0 ++ a.str 2) _ u2 (HB7.out.draw.below B3.out) (by rw [sp_size]; (try simp only [List.length_append, List.length_cons, List.length_nil]); omega) (Nat.le_trans (Nat.le_of_lt hpz) B3.out.size)).mono ?_; rintro en w8 ⟨rfl, hb, hk⟩; rw [sp_data] at hb; have hk := ((KeptB.draw pb w7).trans (KeptB.of_below B3.out (Nat.le_of_lt hpz))).trans hk; have HT8 := hide (HT7.out.kept hk); have HB8 := hide hb; have HK8 := hide (HK7.out.trans hk); have HN8 := hide (hk.blk HN7.out hqp (by decide)); have SK3 : Hid (w8.cell? ⟨q, 0, none⟩ = some (.int .i64 op)) := HN8.out.cell 0; clear hb hk))
    clear SD HB7 HT7 HK7 HN7 hpz hql2 ha1 ha2
    have SD : Hid (w8.drew.cell? ⟨pw, 0, none⟩ = some (.func (.func 50) #[] #[.pointer (some ⟨pe, 0, none⟩), .pointer (some ⟨pb, 0, none⟩), .pointer (some ⟨pw, 0, none⟩)]) ∧ w8.drew.cell? ⟨q, 3, none⟩ = some (.slice (some ⟨bk, offk, none⟩) 2 kc) ∧ w8.drew.cell? ⟨bk, offk + 1, none⟩ = some (.int .i64 (v1))) := ⟨HT8.out.self.cell 0, HN8.out.cell 3, (HK8.out.bel.cell (p := ⟨bk, offk + 1, none⟩) hbk).trans GK1.out⟩
    go_upto_region 22 with (fail)
    go_region_held3 (fun w' => w'.cell? ⟨pw, 0, none⟩ = some (.func (.func 50) #[] #[.pointer (some ⟨pe, 0, none⟩), .pointer (some ⟨pb, 0, none⟩), .pointer (some ⟨pw, 0, none⟩)]) ∧ w'.cell? ⟨q, 3, none⟩ = some (.slice (some ⟨bk, offk, none⟩) 2 kc) ∧ w'.cell? ⟨bk, offk + 1, none⟩ = some (.int .i64 (v1)))
      (first | exact SD.out | exact SK.out)
      (first | (go_at_call 50; rw [HV1.out]; refine (IH.out b ha1 hg1 (Kb) 2 hat1 hke1 (by omega) (by omega) (bs0 ++ a.str 2 ++ (32 :: ((infixT op).data.toList ++ [32]))) w8.drew (by  (try simp only [List.length_append, List.length_cons, List.length_nil]); omega) (HT8.out.kept (KeptB.draw pb w8)) HB8.out.draw).mono ?_; rintro en w9 ⟨rfl, hb, hk⟩; have hk := (KeptB.draw pb w8).trans hk; have HT9 := hide (HT8.out.kept hk); have HB9 := hide hb; have HK9 := hide (HK8.out.trans hk); have HN9 := hide (hk.blk HN8.out hqp (by decide)); have SK : Hid (w9.cell? ⟨pw, 0, none⟩ = some (.func (.func 50) #[] #[.pointer (some ⟨pe, 0, none⟩), .pointer (some ⟨pb, 0, none⟩), .pointer (some ⟨pw, 0, none⟩)]) ∧ w9.cell? ⟨q, 3, none⟩ = some (.slice (some ⟨bk, offk, none⟩) 2 kc) ∧ w9.cell? ⟨bk, offk + 1, none⟩ = some (.int .i64 (v1))) := ⟨HT9.out.self.cell 0, HN9.out.cell 3, (HK9.out.bel.cell (p := ⟨bk, offk + 1, none⟩) hbk).trans GK1.out⟩; clear hb hk))
    clear SD HB8 HT8 HK8 HN8
    have hls1 := str_len b hg1 2
    go_wp2
    exact FIN.out _ _ _ rfl (by simpa only [List.append_assoc, List.cons_append, List.nil_append] using HB9.out) HK9.out (by  (try simp only [List.length_append, List.length_cons, List.length_nil]); omega)

set_option maxHeartbeats 8000000 in
set_option maxRecDepth 100000 in
theorem txt_sum {N : Nat} (IH0 : TIH pe pb pw A c e N) {op : Int} (hop1 : op = 3 ∨ op = 4) (a : Tr) (ha0 : a.size < N) (hg0 : a.good) {Ka : Nat} (hat0 : AtL e Ka (a.flat Ka)) {v0 : Int} (hv0 : v0 = ((Ka + a.size - 1 : Nat) : Int)) (hke0 : Ka + a.size ≤ e.length) (b : Tr) (ha1 : b.size < N) (hg1 : b.good) {Kb : Nat} (hat1 : AtL e Kb (b.flat Kb)) {v1 : Int} (hv1 : v1 = ((Kb + b.size - 1 : Nat) : Int)) (hke1 : Kb + b.size ≤ e.length) {idx m : Nat} (hx : nodAt e idx = ⟨op, 0, ByteArray.empty, [v0, v1]⟩) (hidx : idx < e.length) (hm1 : 1 ≤ m) (hm5 : m ≤ 5) (hen : ∀ x ∈ e, x.name.size ≤ maxLen) (he3 : e.length ≤ 300) :
    TGo pe pb pw A c e (a.size + b.size + 1) idx m (parenS 2 m (a.str 2 ++ (32 :: ((infixT op).data.toList ++ (32 :: b.str 3))))) := by
  intro bs w hlen hT hB
  have IH := hide IH0
  have hpos := hT.pos
  have hone := hT.one
  have htwo := hT.two
  have hselfl := hT.self.lt
  have HT := hide hT
  have HB := hide hB
  obtain ⟨be, offe, K', kc, rfl, hbe, x0, x1, x2, x3, hKd⟩ := hT.ex.at_ hidx
  rw [hx] at x0 x1 x2 x3 hKd
  have hname : ByteArray.empty.size ≤ maxLen := by
    have := hen _ (List.mem_of_getElem? (nodAt_get hidx))
    rw [hx] at this
    exact this
  have hnmlen : ByteArray.empty.size ≤ 24 := Nat.zero_le _
  have x0 : w.cell? ⟨be, offe + idx * 4, none⟩ = some (.int .i64 op) := x0
  have x1 : w.cell? ⟨be, offe + idx * 4 + 1, none⟩ = some (.int .i64 0) := x1
  have x2 : w.cell? ⟨be, offe + idx * 4 + 2, none⟩ = some (.string ByteArray.empty) := x2
  have x3 : w.cell? ⟨be, offe + idx * 4 + 3, none⟩ = some (.slice K' 2 kc) := x3
  have hKd : RI w pb K' 2 [v0, v1] := hKd
  have p0 : w.cell? ⟨pe, 0, none⟩ = some (.slice (some ⟨be, offe, none⟩) e.length c) := hT.box.cell 0
  obtain ⟨bk, offk, rfl, hbk, gk0⟩ := hKd.at_ (k := 0) (by decide)
  have GK0 : Hid (w.cell? ⟨bk, offk, none⟩ = some (.int .i64 (v0))) := gk0
  have GK1 : Hid (w.cell? ⟨bk, offk + 1, none⟩ = some (.int .i64 (v1))) := hide (by
    obtain ⟨b2, o2, hA2, _, g2⟩ := hKd.at_ (k := 1) (by decide)
    injection hA2 with hA2
    injection hA2 with h1 h2
    rw [h1, h2]
    exact g2)
  clear gk0
  have hB5 : Blk (w.alloc (Obj.cells #[.int .i64 op, .int .i64 0, .string ByteArray.empty, .slice (some ⟨bk, offk, none⟩) 2 kc] 40)) w.heap.size 40 #[.int .i64 op, .int .i64 0, .string ByteArray.empty, .slice (some ⟨bk, offk, none⟩) 2 kc] := Blk.new _ _ _
  have hb5 : Below w.heap.size w (w.alloc (Obj.cells #[.int .i64 op, .int .i64 0, .string ByteArray.empty, .slice (some ⟨bk, offk, none⟩) 2 kc] 40)) := (Below.refl _ _).alloc (Nat.le_refl _) _
  have HV0 := hide hv0
  have HV1 := hide hv1
  clear hT hB hKd IH0 hx hv0 hv1
  have hop : op = 10 ∨ op = 11 ∨ op = 3 ∨ op = 4 ∨ op = 5 ∨ op = 6 := by omega
  go_enter_defers Tryz.func50, Tryz.ntmps50
  go_upto_region 1 with (fail)
  generalize w.alloc (Obj.cells #[.int .i64 op, .int .i64 0, .string ByteArray.empty, .slice (some ⟨bk, offk, none⟩) 2 kc] 40) = w5 at hB5 hb5 ⊢
  have HK5 := hide (KeptB.of_below (pb := pb) hb5 (Nat.le_of_lt hpos))
  have HT5 := hide (HT.out.kept HK5.out)
  have HB5 := hide (HB.out.below hb5)
  have HN5 := hide hB5
  have hql := hB5.lt
  have hqp : w.heap.size ≠ pb := by omega
  have y0 : w5.cell? ⟨w.heap.size, 0, none⟩ = some (.int .i64 op) := hB5.cell 0
  clear x0 x1 x2 x3 p0 hB5 hb5
  generalize w.heap.size = q at HN5 hql hqp y0 hpos hselfl ⊢
  go_wp2_with fail
  refine (strength_any _ w5).mono ?_
  rintro en w' ⟨rfl, rfl⟩
  rw [show strength op = ((2 : Nat) : Int) from by rcases hop1 with rfl | rfl <;> decide]
  have hlp := HT5.out.pos
  clear y0
  by_cases hlt : 2 < m
  · have d1 : decide (((2 : Nat) : Int) < (m : Int)) = true := decide_eq_true (by omega)
    go_wp2_with fail
    refine (txt_write pb bs ⟨#[40]⟩ w5 HB5.out (by show bs.length + 1 ≤ 1000000; omega) (Nat.le_of_lt hlp)).mono ?_
    rintro en w6 ⟨rfl, hb6, hk6⟩
    have HT6 := hide (HT5.out.kept hk6)
    have HB6 : Hid (BuiF pb pb (Lib.byteCells (bs ++ [40])) w6) := hide hb6
    have HK6 := hide (HK5.out.trans hk6)
    have HN6 := hide (hk6.blk HN5.out hqp (by decide))
    obtain ⟨bs0, hbs0⟩ : ∃ bs0, bs0 = bs ++ [40] := ⟨_, rfl⟩
    rw [← hbs0] at HB6
    have hl0 : bs0.length ≤ bs.length + 1 := by rw [hbs0]; simp
    have FIN : Hid (∀ (l : List UInt8) (tm : Array Value) (w' : World), l = a.str 2 ++ (32 :: ((infixT op).data.toList ++ (32 :: b.str 3))) → BuiF pb pb (Lib.byteCells (bs0 ++ l)) w' → KeptB pb w w' → bs0.length + l.length ≤ 200000 →
        Leaves Tryz.prog Tryz.f50 tm (TPost pb bs (parenS 2 m (a.str 2 ++ (32 :: ((infixT op).data.toList ++ (32 :: b.str 3))))) w) [{ target := .fn (.func 52) #[], args := #[.pointer (some ⟨pb, 0, none⟩), .string ⟨#[41]⟩] }] .returning w') := hide (fun l tm w' hl h1 h2 h3 => by
      subst hl
      refine leaves_cons (f := 52) (args := #[.pointer (some ⟨pb, 0, none⟩), .string ⟨#[41]⟩]) (by simp) (by simp [go_sem]) ?_
      refine (txt_writeD .returning pb _ ⟨#[41]⟩ w' h1 (by rw [List.length_append]; show _ + 1 ≤ 1000000; omega) (by have := h2.bel.size; have := HT.out.pos; omega)).mono ?_
      rintro en u' w'' ⟨rfl, rfl, h4, h5⟩
      refine ⟨.tuple #[], by simp [results, Tryz.results50, go_sem], rfl, ?_, h2.trans h5⟩
      have h4 : BuiF pb pb (Lib.byteCells (bs0 ++ (a.str 2 ++ (32 :: ((infixT op).data.toList ++ (32 :: b.str 3)))) ++ [41])) w'' := h4
      rw [hbs0] at h4
      unfold parenS
      rw [if_pos hlt]
      simpa using h4)
    clear hb6 hk6 HB5 HN5 HT5 HK5 hbs0
    go_upto_region 5 with (fail)
    have SD : Hid (w6.drew.cell? ⟨pw, 0, none⟩ = some (.func (.func 50) #[] #[.pointer (some ⟨pe, 0, none⟩), .pointer (some ⟨pb, 0, none⟩), .pointer (some ⟨pw, 0, none⟩)]) ∧ w6.drew.cell? ⟨q, 3, none⟩ = some (.slice (some ⟨bk, offk, none⟩) 2 kc) ∧ w6.drew.cell? ⟨bk, offk, none⟩ = some (.int .i64 (v0))) := ⟨HT6.out.self.cell 0, HN6.out.cell 3, (HK6.out.bel.cell (p := ⟨bk, offk, none⟩) hbk).trans GK0.out⟩
    go_upto_region 25 with (fail)
    go_region_held3 (fun w' => w'.cell? ⟨pw, 0, none⟩ = some (.func (.func 50) #[] #[.pointer (some ⟨pe, 0, none⟩), .pointer (some ⟨pb, 0, none⟩), .pointer (some ⟨pw, 0, none⟩)]) ∧ w'.cell? ⟨q, 3, none⟩ = some (.slice (some ⟨bk, offk, none⟩) 2 kc) ∧ w'.cell? ⟨bk, offk, none⟩ = some (.int .i64 (v0)))
      (first | exact SD.out | exact SK.out)
      (first | (go_at_call 50; rw [HV0.out]; refine (IH.out a ha0 hg0 (Ka) 2 hat0 hke0 (by omega) (by omega) (bs0) w6.drew (by  (try simp only [List.length_append, List.length_cons, List.length_nil]); omega) (HT6.out.kept (KeptB.draw pb w6)) HB6.out.draw).mono ?_; rintro en w7 ⟨rfl, hb, hk⟩; have hk := (KeptB.draw pb w6).trans hk; have HT7 := hide (HT6.out.kept hk); have HB7 := hide hb; have HK7 := hide (HK6.out.trans hk); have HN7 := hide (hk.blk HN6.out hqp (by decide)); have SK : Hid (w7.cell? ⟨pw, 0, none⟩ = some (.func (.func 50) #[] #[.pointer (some ⟨pe, 0, none⟩), .pointer (some ⟨pb, 0, none⟩), .pointer (some ⟨pw, 0, none⟩)]) ∧ w7.cell? ⟨q, 3, none⟩ = some (.slice (some ⟨bk, offk, none⟩) 2 kc) ∧ w7.cell? ⟨bk, offk, none⟩ = some (.int .i64 (v0))) := ⟨HT7.out.self.cell 0, HN7.out.cell 3, (HK7.out.bel.cell (p := ⟨bk, offk, none⟩) hbk).trans GK0.out⟩; clear hb hk))
    clear SD HB6 HT6 HK6 HN6
    have hls0 := str_len a hg0 2
    have SD : Hid (w7.drew.cell? ⟨q, 0, none⟩ = some (.int .i64 op)) := HN7.out.cell 0
    have hpz := HT7.out.pos
    have hql2 := HN7.out.lt
    have hsl := infix_len op
    have hsz : (infixT op).size ≤ 2 := by have := hsl; rw [Array.length_toList] at this; exact this
    have ha1 : ∀ w : World, (Op.stringOp .add ⟨#[32]⟩ (infixT op)).run Tryz.prog w = .ok (.string (⟨#[32]⟩ ++ infixT op)) w := fun w => sp1_run hsz w
    have ha2 : ∀ w : World, (Op.stringOp .add (⟨#[32]⟩ ++ infixT op) ⟨#[32]⟩).run Tryz.prog w = .ok (.string (⟨#[32]⟩ ++ infixT op ++ ⟨#[32]⟩)) w := fun w => sp2_run hsz w
    go_upto_region 26 with (fail)
    go_region_held3 (fun w' => w'.cell? ⟨q, 0, none⟩ = some (.int .i64 op)) (first | exact SD.out | exact SK1.out | exact SK2.out | exact SK3.out)
      (first
        | (go_at_call 54; refine (infix_map w7.drew).mono ?_; rintro en u1 ⟨rfl, p2, b2⟩; have P2 := hide p2; have B2 := hide b2; have SK1 : Hid (u1.cell? ⟨q, 0, none⟩ = some (.int .i64 op)) := (b2.cell (p := ⟨q, 0, none⟩) hql2).trans SD.out; clear p2 b2)
        | (go_at_call 53; refine (infixSym_any _ 6 op u1 P2.out hop).mono ?_; rintro en u2 ⟨rfl, b3⟩; have B3 := hide (B2.out.trans (b3.mono B2.out.size)); have SK2 : Hid (u2.cell? ⟨q, 0, none⟩ = some (.int .i64 op)) := (b3.cell (p := ⟨q, 0, none⟩) (Nat.lt_of_lt_of_le hql2 B2.out.size)).trans SK1.out; clear b3)
        | (go_at_call 52; refine (txt_write pb (bs0 ++ a.str 2) _ u2 (HB7.out.draw.below B3.out) (by rw [sp_size]; (try simp only [List.length_append, List.length_cons, List.length_nil]); omega) (Nat.le_trans (Nat.le_of_lt hpz) B3.out.size)).mono ?_; rintro en w8 ⟨rfl, hb, hk⟩; rw [sp_data] at hb; have hk := ((KeptB.draw pb w7).trans (KeptB.of_below B3.out (Nat.le_of_lt hpz))).trans hk; have HT8 := hide (HT7.out.kept hk); have HB8 := hide hb; have HK8 := hide (HK7.out.trans hk); have HN8 := hide (hk.blk HN7.out hqp (by decide)); have SK3 : Hid (w8.cell? ⟨q, 0, none⟩ = some (.int .i64 op)) := HN8.out.cell 0; clear hb hk))
    clear SD HB7 HT7 HK7 HN7 hpz hql2 ha1 ha2
    have SD : Hid (w8.drew.cell? ⟨pw, 0, none⟩ = some (.func (.func 50) #[] #[.pointer (some ⟨pe, 0, none⟩), .pointer (some ⟨pb, 0, none⟩), .pointer (some ⟨pw, 0, none⟩)]) ∧ w8.drew.cell? ⟨q, 3, none⟩ = some (.slice (some ⟨bk, offk, none⟩) 2 kc) ∧ w8.drew.cell? ⟨bk, offk + 1, none⟩ = some (.int .i64 (v1))) := ⟨HT8.out.self.cell 0, HN8.out.cell 3, (HK8.out.bel.cell (p := ⟨bk, offk + 1, none⟩) hbk).trans GK1.out⟩
    go_upto_region 27 with (fail)
    go_region_held3 (fun w' => w'.cell? ⟨pw, 0, none⟩ = some (.func (.func 50) #[] #[.pointer (some ⟨pe, 0, none⟩), .pointer (some ⟨pb, 0, none⟩), .pointer (some ⟨pw, 0, none⟩)]) ∧ w'.cell? ⟨q, 3, none⟩ = some (.slice (some ⟨bk, offk, none⟩) 2 kc) ∧ w'.cell? ⟨bk, offk + 1, none⟩ = some (.int .i64 (v1)))
      (first | exact SD.out | exact SK.out)
      (first | (go_at_call 50; rw [HV1.out]; refine (IH.out b ha1 hg1 (Kb) 3 hat1 hke1 (by omega) (by omega) (bs0 ++ a.str 2 ++ (32 :: ((infixT op).data.toList ++ [32]))) w8.drew (by  (try simp only [List.length_append, List.length_cons, List.length_nil]); omega) (HT8.out.kept (KeptB.draw pb w8)) HB8.out.draw).mono ?_; rintro en w9 ⟨rfl, hb, hk⟩; have hk := (KeptB.draw pb w8).trans hk; have HT9 := hide (HT8.out.kept hk); have HB9 := hide hb; have HK9 := hide (HK8.out.trans hk); have HN9 := hide (hk.blk HN8.out hqp (by decide)); have SK : Hid (w9.cell? ⟨pw, 0, none⟩ = some (.func (.func 50) #[] #[.pointer (some ⟨pe, 0, none⟩), .pointer (some ⟨pb, 0, none⟩), .pointer (some ⟨pw, 0, none⟩)]) ∧ w9.cell? ⟨q, 3, none⟩ = some (.slice (some ⟨bk, offk, none⟩) 2 kc) ∧ w9.cell? ⟨bk, offk + 1, none⟩ = some (.int .i64 (v1))) := ⟨HT9.out.self.cell 0, HN9.out.cell 3, (HK9.out.bel.cell (p := ⟨bk, offk + 1, none⟩) hbk).trans GK1.out⟩; clear hb hk))
    clear SD HB8 HT8 HK8 HN8
    have hls1 := str_len b hg1 3
    go_wp2
    exact FIN.out _ _ _ rfl (by simpa only [List.append_assoc, List.cons_append, List.nil_append] using HB9.out) HK9.out (by  (try simp only [List.length_append, List.length_cons, List.length_nil]); omega)
  · have d1 : decide (((2 : Nat) : Int) < (m : Int)) = false := decide_eq_false (by omega)
    obtain ⟨w6, hw6⟩ : ∃ w6, w6 = w5 := ⟨_, rfl⟩
    subst hw6
    have HT6 := HT5
    have HB6 := HB5
    have HK6 := HK5
    have HN6 := HN5
    obtain ⟨bs0, hbs0⟩ : ∃ bs0, bs0 = bs := ⟨_, rfl⟩
    rw [← hbs0] at HB6
    have hl0 : bs0.length ≤ bs.length + 1 := by rw [hbs0]; omega
    have FIN : Hid (∀ (l : List UInt8) (tm : Array Value) (w' : World), l = a.str 2 ++ (32 :: ((infixT op).data.toList ++ (32 :: b.str 3))) → BuiF pb pb (Lib.byteCells (bs0 ++ l)) w' → KeptB pb w w' → bs0.length + l.length ≤ 200000 →
        Leaves Tryz.prog Tryz.f50 tm (TPost pb bs (parenS 2 m (a.str 2 ++ (32 :: ((infixT op).data.toList ++ (32 :: b.str 3))))) w) [] .returning w') := hide (fun l tm w' hl h1 h2 h3 => by
      subst hl
      refine ⟨.tuple #[], by simp [results, Tryz.results50, go_sem], rfl, ?_, h2⟩
      rw [hbs0] at h1
      unfold parenS
      rw [if_neg hlt]
      exact h1)
    clear HB5 HN5 HT5 HK5 hbs0
    go_upto_region 5 with (fail)
    have SD : Hid (w6.drew.cell? ⟨pw, 0, none⟩ = some (.func (.func 50) #[] #[.pointer (some ⟨pe, 0, none⟩), .pointer (some ⟨pb, 0, none⟩), .pointer (some ⟨pw, 0, none⟩)]) ∧ w6.drew.cell? ⟨q, 3, none⟩ = some (.slice (some ⟨bk, offk, none⟩) 2 kc) ∧ w6.drew.cell? ⟨bk, offk, none⟩ = some (.int .i64 (v0))) := ⟨HT6.out.self.cell 0, HN6.out.cell 3, (HK6.out.bel.cell (p := ⟨bk, offk, none⟩) hbk).trans GK0.out⟩
    go_upto_region 25 with (fail)
    go_region_held3 (fun w' => w'.cell? ⟨pw, 0, none⟩ = some (.func (.func 50) #[] #[.pointer (some ⟨pe, 0, none⟩), .pointer (some ⟨pb, 0, none⟩), .pointer (some ⟨pw, 0, none⟩)]) ∧ w'.cell? ⟨q, 3, none⟩ = some (.slice (some ⟨bk, offk, none⟩) 2 kc) ∧ w'.cell? ⟨bk, offk, none⟩ = some (.int .i64 (v0)))
      (first | exact SD.out | exact SK.out)
      (first | (go_at_call 50; rw [HV0.out]; refine (IH.out a ha0 hg0 (Ka) 2 hat0 hke0 (by omega) (by omega) (bs0) w6.drew (by  (try simp only [List.length_append, List.length_cons, List.length_nil]); omega) (HT6.out.kept (KeptB.draw pb w6)) HB6.out.draw).mono ?_; rintro en w7 ⟨rfl, hb, hk⟩; have hk := (KeptB.draw pb w6).trans hk; have HT7 := hide (HT6.out.kept hk); have HB7 := hide hb; have HK7 := hide (HK6.out.trans hk); have HN7 := hide (hk.blk HN6.out hqp (by decide)); have SK : Hid (w7.cell? ⟨pw, 0, none⟩ = some (.func (.func 50) #[] #[.pointer (some ⟨pe, 0, none⟩), .pointer (some ⟨pb, 0, none⟩), .pointer (some ⟨pw, 0, none⟩)]) ∧ w7.cell? ⟨q, 3, none⟩ = some (.slice (some ⟨bk, offk, none⟩) 2 kc) ∧ w7.cell? ⟨bk, offk, none⟩ = some (.int .i64 (v0))) := ⟨HT7.out.self.cell 0, HN7.out.cell 3, (HK7.out.bel.cell (p := ⟨bk, offk, none⟩) hbk).trans GK0.out⟩; clear hb hk))
    clear SD HB6 HT6 HK6 HN6
    have hls0 := str_len a hg0 2
    have SD : Hid (w7.drew.cell? ⟨q, 0, none⟩ = some (.int .i64 op)) := HN7.out.cell 0
    have hpz := HT7.out.pos
    have hql2 := HN7.out.lt
    have hsl := infix_len op
    have hsz : (infixT op).size ≤ 2 := by have := hsl; rw [Array.length_toList] at this; exact this
    have ha1 : ∀ w : World, (Op.stringOp .add ⟨#[32]⟩ (infixT op)).run Tryz.prog w = .ok (.string (⟨#[32]⟩ ++ infixT op)) w := fun w => sp1_run hsz w
    have ha2 : ∀ w : World, (Op.stringOp .add (⟨#[32]⟩ ++ infixT op) ⟨#[32]⟩).run Tryz.prog w = .ok (.string (⟨#[32]⟩ ++ infixT op ++ ⟨#[32]⟩)) w := fun w => sp2_run hsz w
    go_upto_region 26 with (fail)
    go_region_held3 (fun w' => w'.cell? ⟨q, 0, none⟩ = some (.int .i64 op)) (first | exact SD.out | exact SK1.out | exact SK2.out | exact SK3.out)
      (first
        | (go_at_call 54; refine (infix_map w7.drew).mono ?_; rintro en u1 ⟨rfl, p2, b2⟩; have P2 := hide p2; have B2 := hide b2; have SK1 : Hid (u1.cell? ⟨q, 0, none⟩ = some (.int .i64 op)) := (b2.cell (p := ⟨q, 0, none⟩) hql2).trans SD.out; clear p2 b2)
        | (go_at_call 53; refine (infixSym_any _ 6 op u1 P2.out hop).mono ?_; rintro en u2 ⟨rfl, b3⟩; have B3 := hide (B2.out.trans (b3.mono B2.out.size)); have SK2 : Hid (u2.cell? ⟨q, 0, none⟩ = some (.int .i64 op)) := (b3.cell (p := ⟨q, 0, none⟩) (Nat.lt_of_lt_of_le hql2 B2.out.size)).trans SK1.out; clear b3)
        | (go_at_call 52; refine (txt_write pb (bs0 ++ a.str 2) _ u2 (HB7.out.draw.below B3.out) (by rw [sp_size]; (try simp only [List.length_append, List.length_cons, List.length_nil]); omega) (Nat.le_trans (Nat.le_of_lt hpz) B3.out.size)).mono ?_; rintro en w8 ⟨rfl, hb, hk⟩; rw [sp_data] at hb; have hk := ((KeptB.draw pb w7).trans (KeptB.of_below B3.out (Nat.le_of_lt hpz))).trans hk; have HT8 := hide (HT7.out.kept hk); have HB8 := hide hb; have HK8 := hide (HK7.out.trans hk); have HN8 := hide (hk.blk HN7.out hqp (by decide)); have SK3 : Hid (w8.cell? ⟨q, 0, none⟩ = some (.int .i64 op)) := HN8.out.cell 0; clear hb hk))
    clear SD HB7 HT7 HK7 HN7 hpz hql2 ha1 ha2
    have SD : Hid (w8.drew.cell? ⟨pw, 0, none⟩ = some (.func (.func 50) #[] #[.pointer (some ⟨pe, 0, none⟩), .pointer (some ⟨pb, 0, none⟩), .pointer (some ⟨pw, 0, none⟩)]) ∧ w8.drew.cell? ⟨q, 3, none⟩ = some (.slice (some ⟨bk, offk, none⟩) 2 kc) ∧ w8.drew.cell? ⟨bk, offk + 1, none⟩ = some (.int .i64 (v1))) := ⟨HT8.out.self.cell 0, HN8.out.cell 3, (HK8.out.bel.cell (p := ⟨bk, offk + 1, none⟩) hbk).trans GK1.out⟩
    go_upto_region 27 with (fail)
    go_region_held3 (fun w' => w'.cell? ⟨pw, 0, none⟩ = some (.func (.func 50) #[] #[.pointer (some ⟨pe, 0, none⟩), .pointer (some ⟨pb, 0, none⟩), .pointer (some ⟨pw, 0, none⟩)]) ∧ w'.cell? ⟨q, 3, none⟩ = some (.slice (some ⟨bk, offk, none⟩) 2 kc) ∧ w'.cell? ⟨bk, offk + 1, none⟩ = some (.int .i64 (v1)))
      (first | exact SD.out | exact SK.out)
      (first | (go_at_call 50; rw [HV1.out]; refine (IH.out b ha1 hg1 (Kb) 3 hat1 hke1 (by omega) (by omega) (bs0 ++ a.str 2 ++ (32 :: ((infixT op).data.toList ++ [32]))) w8.drew (by  (try simp only [List.length_append, List.length_cons, List.length_nil]); omega) (HT8.out.kept (KeptB.draw pb w8)) HB8.out.draw).mono ?_; rintro en w9 ⟨rfl, hb, hk⟩; have hk := (KeptB.draw pb w8).trans hk; have HT9 := hide (HT8.out.kept hk); have HB9 := hide hb; have HK9 := hide (HK8.out.trans hk); have HN9 := hide (hk.blk HN8.out hqp (by decide)); have SK : Hid (w9.cell? ⟨pw, 0, none⟩ = some (.func (.func 50) #[] #[.pointer (some ⟨pe, 0, none⟩), .pointer (some ⟨pb, 0, none⟩), .pointer (some ⟨pw, 0, none⟩)]) ∧ w9.cell? ⟨q, 3, none⟩ = some (.slice (some ⟨bk, offk, none⟩) 2 kc) ∧ w9.cell? ⟨bk, offk + 1, none⟩ = some (.int .i64 (v1))) := ⟨HT9.out.self.cell 0, HN9.out.cell 3, (HK9.out.bel.cell (p := ⟨bk, offk + 1, none⟩) hbk).trans GK1.out⟩; clear hb hk))
    clear SD HB8 HT8 HK8 HN8
    have hls1 := str_len b hg1 3
    go_wp2
    exact FIN.out _ _ _ rfl (by simpa only [List.append_assoc, List.cons_append, List.nil_append] using HB9.out) HK9.out (by  (try simp only [List.length_append, List.length_cons, List.length_nil]); omega)

set_option maxHeartbeats 8000000 in
set_option maxRecDepth 100000 in
theorem txt_prod {N : Nat} (IH0 : TIH pe pb pw A c e N) {op : Int} (hop1 : op = 5 ∨ op = 6) (a : Tr) (ha0 : a.size < N) (hg0 : a.good) {Ka : Nat} (hat0 : AtL e Ka (a.flat Ka)) {v0 : Int} (hv0 : v0 = ((Ka + a.size - 1 : Nat) : Int)) (hke0 : Ka + a.size ≤ e.length) (b : Tr) (ha1 : b.size < N) (hg1 : b.good) {Kb : Nat} (hat1 : AtL e Kb (b.flat Kb)) {v1 : Int} (hv1 : v1 = ((Kb + b.size - 1 : Nat) : Int)) (hke1 : Kb + b.size ≤ e.length) {idx m : Nat} (hx : nodAt e idx = ⟨op, 0, ByteArray.empty, [v0, v1]⟩) (hidx : idx < e.length) (hm1 : 1 ≤ m) (hm5 : m ≤ 5) (hen : ∀ x ∈ e, x.name.size ≤ maxLen) (he3 : e.length ≤ 300) :
    TGo pe pb pw A c e (a.size + b.size + 1) idx m (parenS 3 m (a.str 3 ++ (32 :: ((infixT op).data.toList ++ (32 :: b.str 4))))) := by
  intro bs w hlen hT hB
  have IH := hide IH0
  have hpos := hT.pos
  have hone := hT.one
  have htwo := hT.two
  have hselfl := hT.self.lt
  have HT := hide hT
  have HB := hide hB
  obtain ⟨be, offe, K', kc, rfl, hbe, x0, x1, x2, x3, hKd⟩ := hT.ex.at_ hidx
  rw [hx] at x0 x1 x2 x3 hKd
  have hname : ByteArray.empty.size ≤ maxLen := by
    have := hen _ (List.mem_of_getElem? (nodAt_get hidx))
    rw [hx] at this
    exact this
  have hnmlen : ByteArray.empty.size ≤ 24 := Nat.zero_le _
  have x0 : w.cell? ⟨be, offe + idx * 4, none⟩ = some (.int .i64 op) := x0
  have x1 : w.cell? ⟨be, offe + idx * 4 + 1, none⟩ = some (.int .i64 0) := x1
  have x2 : w.cell? ⟨be, offe + idx * 4 + 2, none⟩ = some (.string ByteArray.empty) := x2
  have x3 : w.cell? ⟨be, offe + idx * 4 + 3, none⟩ = some (.slice K' 2 kc) := x3
  have hKd : RI w pb K' 2 [v0, v1] := hKd
  have p0 : w.cell? ⟨pe, 0, none⟩ = some (.slice (some ⟨be, offe, none⟩) e.length c) := hT.box.cell 0
  obtain ⟨bk, offk, rfl, hbk, gk0⟩ := hKd.at_ (k := 0) (by decide)
  have GK0 : Hid (w.cell? ⟨bk, offk, none⟩ = some (.int .i64 (v0))) := gk0
  have GK1 : Hid (w.cell? ⟨bk, offk + 1, none⟩ = some (.int .i64 (v1))) := hide (by
    obtain ⟨b2, o2, hA2, _, g2⟩ := hKd.at_ (k := 1) (by decide)
    injection hA2 with hA2
    injection hA2 with h1 h2
    rw [h1, h2]
    exact g2)
  clear gk0
  have hB5 : Blk (w.alloc (Obj.cells #[.int .i64 op, .int .i64 0, .string ByteArray.empty, .slice (some ⟨bk, offk, none⟩) 2 kc] 40)) w.heap.size 40 #[.int .i64 op, .int .i64 0, .string ByteArray.empty, .slice (some ⟨bk, offk, none⟩) 2 kc] := Blk.new _ _ _
  have hb5 : Below w.heap.size w (w.alloc (Obj.cells #[.int .i64 op, .int .i64 0, .string ByteArray.empty, .slice (some ⟨bk, offk, none⟩) 2 kc] 40)) := (Below.refl _ _).alloc (Nat.le_refl _) _
  have HV0 := hide hv0
  have HV1 := hide hv1
  clear hT hB hKd IH0 hx hv0 hv1
  have hop : op = 10 ∨ op = 11 ∨ op = 3 ∨ op = 4 ∨ op = 5 ∨ op = 6 := by omega
  go_enter_defers Tryz.func50, Tryz.ntmps50
  go_upto_region 1 with (fail)
  generalize w.alloc (Obj.cells #[.int .i64 op, .int .i64 0, .string ByteArray.empty, .slice (some ⟨bk, offk, none⟩) 2 kc] 40) = w5 at hB5 hb5 ⊢
  have HK5 := hide (KeptB.of_below (pb := pb) hb5 (Nat.le_of_lt hpos))
  have HT5 := hide (HT.out.kept HK5.out)
  have HB5 := hide (HB.out.below hb5)
  have HN5 := hide hB5
  have hql := hB5.lt
  have hqp : w.heap.size ≠ pb := by omega
  have y0 : w5.cell? ⟨w.heap.size, 0, none⟩ = some (.int .i64 op) := hB5.cell 0
  clear x0 x1 x2 x3 p0 hB5 hb5
  generalize w.heap.size = q at HN5 hql hqp y0 hpos hselfl ⊢
  go_wp2_with fail
  refine (strength_any _ w5).mono ?_
  rintro en w' ⟨rfl, rfl⟩
  rw [show strength op = ((3 : Nat) : Int) from by rcases hop1 with rfl | rfl <;> decide]
  have hlp := HT5.out.pos
  clear y0
  by_cases hlt : 3 < m
  · have d1 : decide (((3 : Nat) : Int) < (m : Int)) = true := decide_eq_true (by omega)
    go_wp2_with fail
    refine (txt_write pb bs ⟨#[40]⟩ w5 HB5.out (by show bs.length + 1 ≤ 1000000; omega) (Nat.le_of_lt hlp)).mono ?_
    rintro en w6 ⟨rfl, hb6, hk6⟩
    have HT6 := hide (HT5.out.kept hk6)
    have HB6 : Hid (BuiF pb pb (Lib.byteCells (bs ++ [40])) w6) := hide hb6
    have HK6 := hide (HK5.out.trans hk6)
    have HN6 := hide (hk6.blk HN5.out hqp (by decide))
    obtain ⟨bs0, hbs0⟩ : ∃ bs0, bs0 = bs ++ [40] := ⟨_, rfl⟩
    rw [← hbs0] at HB6
    have hl0 : bs0.length ≤ bs.length + 1 := by rw [hbs0]; simp
    have FIN : Hid (∀ (l : List UInt8) (tm : Array Value) (w' : World), l = a.str 3 ++ (32 :: ((infixT op).data.toList ++ (32 :: b.str 4))) → BuiF pb pb (Lib.byteCells (bs0 ++ l)) w' → KeptB pb w w' → bs0.length + l.length ≤ 200000 →
        Leaves Tryz.prog Tryz.f50 tm (TPost pb bs (parenS 3 m (a.str 3 ++ (32 :: ((infixT op).data.toList ++ (32 :: b.str 4))))) w) [{ target := .fn (.func 52) #[], args := #[.pointer (some ⟨pb, 0, none⟩), .string ⟨#[41]⟩] }] .returning w') := hide (fun l tm w' hl h1 h2 h3 => by
      subst hl
      refine leaves_cons (f := 52) (args := #[.pointer (some ⟨pb, 0, none⟩), .string ⟨#[41]⟩]) (by simp) (by simp [go_sem]) ?_
      refine (txt_writeD .returning pb _ ⟨#[41]⟩ w' h1 (by rw [List.length_append]; show _ + 1 ≤ 1000000; omega) (by have := h2.bel.size; have := HT.out.pos; omega)).mono ?_
      rintro en u' w'' ⟨rfl, rfl, h4, h5⟩
      refine ⟨.tuple #[], by simp [results, Tryz.results50, go_sem], rfl, ?_, h2.trans h5⟩
      have h4 : BuiF pb pb (Lib.byteCells (bs0 ++ (a.str 3 ++ (32 :: ((infixT op).data.toList ++ (32 :: b.str 4)))) ++ [41])) w'' := h4
      rw [hbs0] at h4
      unfold parenS
      rw [if_pos hlt]
      simpa using h4)
    clear hb6 hk6 HB5 HN5 HT5 HK5 hbs0
    go_upto_region 5 with (fail)
    have SD : Hid (w6.drew.cell? ⟨pw, 0, none⟩ = some (.func (.func 50) #[] #[.pointer (some ⟨pe, 0, none⟩), .pointer (some ⟨pb, 0, none⟩), .pointer (some ⟨pw, 0, none⟩)]) ∧ w6.drew.cell? ⟨q, 3, none⟩ = some (.slice (some ⟨bk, offk, none⟩) 2 kc) ∧ w6.drew.cell? ⟨bk, offk, none⟩ = some (.int .i64 (v0))) := ⟨HT6.out.self.cell 0, HN6.out.cell 3, (HK6.out.bel.cell (p := ⟨bk, offk, none⟩) hbk).trans GK0.out⟩
    go_upto_region 25 with (fail)
    go_region_held3 (fun w' => w'.cell? ⟨pw, 0, none⟩ = some (.func (.func 50) #[] #[.pointer (some ⟨pe, 0, none⟩), .pointer (some ⟨pb, 0, none⟩), .pointer (some ⟨pw, 0, none⟩)]) ∧ w'.cell? ⟨q, 3, none⟩ = some (.slice (some ⟨bk, offk, none⟩) 2 kc) ∧ w'.cell? ⟨bk, offk, none⟩ = some (.int .i64 (v0)))
      (first | exact SD.out | exact SK.out)
      (first | (go_at_call 50; rw [HV0.out]; refine (IH.out a ha0 hg0 (Ka) 3 hat0 hke0 (by omega) (by omega) (bs0) w6.drew (by  (try simp only [List.length_append, List.length_cons, List.length_nil]); omega) (HT6.out.kept (KeptB.draw pb w6)) HB6.out.draw).mono ?_; rintro en w7 ⟨rfl, hb, hk⟩; have hk := (KeptB.draw pb w6).trans hk; have HT7 := hide (HT6.out.kept hk); have HB7 := hide hb; have HK7 := hide (HK6.out.trans hk); have HN7 := hide (hk.blk HN6.out hqp (by decide)); have SK : Hid (w7.cell? ⟨pw, 0, none⟩ = some (.func (.func 50) #[] #[.pointer (some ⟨pe, 0, none⟩), .pointer (some ⟨pb, 0, none⟩), .pointer (some ⟨pw, 0, none⟩)]) ∧ w7.cell? ⟨q, 3, none⟩ = some (.slice (some ⟨bk, offk, none⟩) 2 kc) ∧ w7.cell? ⟨bk, offk, none⟩ = some (.int .i64 (v0))) := ⟨HT7.out.self.cell 0, HN7.out.cell 3, (HK7.out.bel.cell (p := ⟨bk, offk, none⟩) hbk).trans GK0.out⟩; clear hb hk))
    clear SD HB6 HT6 HK6 HN6
    have hls0 := str_len a hg0 3
    have SD : Hid (w7.drew.cell? ⟨q, 0, none⟩ = some (.int .i64 op)) := HN7.out.cell 0
    have hpz := HT7.out.pos
    have hql2 := HN7.out.lt
    have hsl := infix_len op
    have hsz : (infixT op).size ≤ 2 := by have := hsl; rw [Array.length_toList] at this; exact this
    have ha1 : ∀ w : World, (Op.stringOp .add ⟨#[32]⟩ (infixT op)).run Tryz.prog w = .ok (.string (⟨#[32]⟩ ++ infixT op)) w := fun w => sp1_run hsz w
    have ha2 : ∀ w : World, (Op.stringOp .add (⟨#[32]⟩ ++ infixT op) ⟨#[32]⟩).run Tryz.prog w = .ok (.string (⟨#[32]⟩ ++ infixT op ++ ⟨#[32]⟩)) w := fun w => sp2_run hsz w
    go_upto_region 26 with (fail)
    go_region_held3 (fun w' => w'.cell? ⟨q, 0, none⟩ = some (.int .i64 op)) (first | exact SD.out | exact SK1.out | exact SK2.out | exact SK3.out)
      (first
        | (go_at_call 54; refine (infix_map w7.drew).mono ?_; rintro en u1 ⟨rfl, p2, b2⟩; have P2 := hide p2; have B2 := hide b2; have SK1 : Hid (u1.cell? ⟨q, 0, none⟩ = some (.int .i64 op)) := (b2.cell (p := ⟨q, 0, none⟩) hql2).trans SD.out; clear p2 b2)
        | (go_at_call 53; refine (infixSym_any _ 6 op u1 P2.out hop).mono ?_; rintro en u2 ⟨rfl, b3⟩; have B3 := hide (B2.out.trans (b3.mono B2.out.size)); have SK2 : Hid (u2.cell? ⟨q, 0, none⟩ = some (.int .i64 op)) := (b3.cell (p := ⟨q, 0, none⟩) (Nat.lt_of_lt_of_le hql2 B2.out.size)).trans SK1.out; clear b3)
        | (go_at_call 52; refine (txt_write pb (bs0 ++ a.str 3) _ u2 (HB7.out.draw.below B3.out) (by rw [sp_size]; (try simp only [List.length_append, List.length_cons, List.length_nil]); omega) (Nat.le_trans (Nat.le_of_lt hpz) B3.out.size)).mono ?_; rintro en w8 ⟨rfl, hb, hk⟩; rw [sp_data] at hb; have hk := ((KeptB.draw pb w7).trans (KeptB.of_below B3.out (Nat.le_of_lt hpz))).trans hk; have HT8 := hide (HT7.out.kept hk); have HB8 := hide hb; have HK8 := hide (HK7.out.trans hk); have HN8 := hide (hk.blk HN7.out hqp (by decide)); have SK3 : Hid (w8.cell? ⟨q, 0, none⟩ = some (.int .i64 op)) := HN8.out.cell 0; clear hb hk))
    clear SD HB7 HT7 HK7 HN7 hpz hql2 ha1 ha2
    have SD : Hid (w8.drew.cell? ⟨pw, 0, none⟩ = some (.func (.func 50) #[] #[.pointer (some ⟨pe, 0, none⟩), .pointer (some ⟨pb, 0, none⟩), .pointer (some ⟨pw, 0, none⟩)]) ∧ w8.drew.cell? ⟨q, 3, none⟩ = some (.slice (some ⟨bk, offk, none⟩) 2 kc) ∧ w8.drew.cell? ⟨bk, offk + 1, none⟩ = some (.int .i64 (v1))) := ⟨HT8.out.self.cell 0, HN8.out.cell 3, (HK8.out.bel.cell (p := ⟨bk, offk + 1, none⟩) hbk).trans GK1.out⟩
    go_upto_region 27 with (fail)
    go_region_held3 (fun w' => w'.cell? ⟨pw, 0, none⟩ = some (.func (.func 50) #[] #[.pointer (some ⟨pe, 0, none⟩), .pointer (some ⟨pb, 0, none⟩), .pointer (some ⟨pw, 0, none⟩)]) ∧ w'.cell? ⟨q, 3, none⟩ = some (.slice (some ⟨bk, offk, none⟩) 2 kc) ∧ w'.cell? ⟨bk, offk + 1, none⟩ = some (.int .i64 (v1)))
      (first | exact SD.out | exact SK.out)
      (first | (go_at_call 50; rw [HV1.out]; refine (IH.out b ha1 hg1 (Kb) 4 hat1 hke1 (by omega) (by omega) (bs0 ++ a.str 3 ++ (32 :: ((infixT op).data.toList ++ [32]))) w8.drew (by  (try simp only [List.length_append, List.length_cons, List.length_nil]); omega) (HT8.out.kept (KeptB.draw pb w8)) HB8.out.draw).mono ?_; rintro en w9 ⟨rfl, hb, hk⟩; have hk := (KeptB.draw pb w8).trans hk; have HT9 := hide (HT8.out.kept hk); have HB9 := hide hb; have HK9 := hide (HK8.out.trans hk); have HN9 := hide (hk.blk HN8.out hqp (by decide)); have SK : Hid (w9.cell? ⟨pw, 0, none⟩ = some (.func (.func 50) #[] #[.pointer (some ⟨pe, 0, none⟩), .pointer (some ⟨pb, 0, none⟩), .pointer (some ⟨pw, 0, none⟩)]) ∧ w9.cell? ⟨q, 3, none⟩ = some (.slice (some ⟨bk, offk, none⟩) 2 kc) ∧ w9.cell? ⟨bk, offk + 1, none⟩ = some (.int .i64 (v1))) := ⟨HT9.out.self.cell 0, HN9.out.cell 3, (HK9.out.bel.cell (p := ⟨bk, offk + 1, none⟩) hbk).trans GK1.out⟩; clear hb hk))
    clear SD HB8 HT8 HK8 HN8
    have hls1 := str_len b hg1 4
    go_wp2
    exact FIN.out _ _ _ rfl (by simpa only [List.append_assoc, List.cons_append, List.nil_append] using HB9.out) HK9.out (by  (try simp only [List.length_append, List.length_cons, List.length_nil]); omega)
  · have d1 : decide (((3 : Nat) : Int) < (m : Int)) = false := decide_eq_false (by omega)
    obtain ⟨w6, hw6⟩ : ∃ w6, w6 = w5 := ⟨_, rfl⟩
    subst hw6
    have HT6 := HT5
    have HB6 := HB5
    have HK6 := HK5
    have HN6 := HN5
    obtain ⟨bs0, hbs0⟩ : ∃ bs0, bs0 = bs := ⟨_, rfl⟩
    rw [← hbs0] at HB6
    have hl0 : bs0.length ≤ bs.length + 1 := by rw [hbs0]; omega
    have FIN : Hid (∀ (l : List UInt8) (tm : Array Value) (w' : World), l = a.str 3 ++ (32 :: ((infixT op).data.toList ++ (32 :: b.str 4))) → BuiF pb pb (Lib.byteCells (bs0 ++ l)) w' → KeptB pb w w' → bs0.length + l.length ≤ 200000 →
        Leaves Tryz.prog Tryz.f50 tm (TPost pb bs (parenS 3 m (a.str 3 ++ (32 :: ((infixT op).data.toList ++ (32 :: b.str 4))))) w) [] .returning w') := hide (fun l tm w' hl h1 h2 h3 => by
      subst hl
      refine ⟨.tuple #[], by simp [results, Tryz.results50, go_sem], rfl, ?_, h2⟩
      rw [hbs0] at h1
      unfold parenS
      rw [if_neg hlt]
      exact h1)
    clear HB5 HN5 HT5 HK5 hbs0
    go_upto_region 5 with (fail)
    have SD : Hid (w6.drew.cell? ⟨pw, 0, none⟩ = some (.func (.func 50) #[] #[.pointer (some ⟨pe, 0, none⟩), .pointer (some ⟨pb, 0, none⟩), .pointer (some ⟨pw, 0, none⟩)]) ∧ w6.drew.cell? ⟨q, 3, none⟩ = some (.slice (some ⟨bk, offk, none⟩) 2 kc) ∧ w6.drew.cell? ⟨bk, offk, none⟩ = some (.int .i64 (v0))) := ⟨HT6.out.self.cell 0, HN6.out.cell 3, (HK6.out.bel.cell (p := ⟨bk, offk, none⟩) hbk).trans GK0.out⟩
    go_upto_region 25 with (fail)
    go_region_held3 (fun w' => w'.cell? ⟨pw, 0, none⟩ = some (.func (.func 50) #[] #[.pointer (some ⟨pe, 0, none⟩), .pointer (some ⟨pb, 0, none⟩), .pointer (some ⟨pw, 0, none⟩)]) ∧ w'.cell? ⟨q, 3, none⟩ = some (.slice (some ⟨bk, offk, none⟩) 2 kc) ∧ w'.cell? ⟨bk, offk, none⟩ = some (.int .i64 (v0)))
      (first | exact SD.out | exact SK.out)
      (first | (go_at_call 50; rw [HV0.out]; refine (IH.out a ha0 hg0 (Ka) 3 hat0 hke0 (by omega) (by omega) (bs0) w6.drew (by  (try simp only [List.length_append, List.length_cons, List.length_nil]); omega) (HT6.out.kept (KeptB.draw pb w6)) HB6.out.draw).mono ?_; rintro en w7 ⟨rfl, hb, hk⟩; have hk := (KeptB.draw pb w6).trans hk; have HT7 := hide (HT6.out.kept hk); have HB7 := hide hb; have HK7 := hide (HK6.out.trans hk); have HN7 := hide (hk.blk HN6.out hqp (by decide)); have SK : Hid (w7.cell? ⟨pw, 0, none⟩ = some (.func (.func 50) #[] #[.pointer (some ⟨pe, 0, none⟩), .pointer (some ⟨pb, 0, none⟩), .pointer (some ⟨pw, 0, none⟩)]) ∧ w7.cell? ⟨q, 3, none⟩ = some (.slice (some ⟨bk, offk, none⟩) 2 kc) ∧ w7.cell? ⟨bk, offk, none⟩ = some (.int .i64 (v0))) := ⟨HT7.out.self.cell 0, HN7.out.cell 3, (HK7.out.bel.cell (p := ⟨bk, offk, none⟩) hbk).trans GK0.out⟩; clear hb hk))
    clear SD HB6 HT6 HK6 HN6
    have hls0 := str_len a hg0 3
    have SD : Hid (w7.drew.cell? ⟨q, 0, none⟩ = some (.int .i64 op)) := HN7.out.cell 0
    have hpz := HT7.out.pos
    have hql2 := HN7.out.lt
    have hsl := infix_len op
    have hsz : (infixT op).size ≤ 2 := by have := hsl; rw [Array.length_toList] at this; exact this
    have ha1 : ∀ w : World, (Op.stringOp .add ⟨#[32]⟩ (infixT op)).run Tryz.prog w = .ok (.string (⟨#[32]⟩ ++ infixT op)) w := fun w => sp1_run hsz w
    have ha2 : ∀ w : World, (Op.stringOp .add (⟨#[32]⟩ ++ infixT op) ⟨#[32]⟩).run Tryz.prog w = .ok (.string (⟨#[32]⟩ ++ infixT op ++ ⟨#[32]⟩)) w := fun w => sp2_run hsz w
    go_upto_region 26 with (fail)
    go_region_held3 (fun w' => w'.cell? ⟨q, 0, none⟩ = some (.int .i64 op)) (first | exact SD.out | exact SK1.out | exact SK2.out | exact SK3.out)
      (first
        | (go_at_call 54; refine (infix_map w7.drew).mono ?_; rintro en u1 ⟨rfl, p2, b2⟩; have P2 := hide p2; have B2 := hide b2; have SK1 : Hid (u1.cell? ⟨q, 0, none⟩ = some (.int .i64 op)) := (b2.cell (p := ⟨q, 0, none⟩) hql2).trans SD.out; clear p2 b2)
        | (go_at_call 53; refine (infixSym_any _ 6 op u1 P2.out hop).mono ?_; rintro en u2 ⟨rfl, b3⟩; have B3 := hide (B2.out.trans (b3.mono B2.out.size)); have SK2 : Hid (u2.cell? ⟨q, 0, none⟩ = some (.int .i64 op)) := (b3.cell (p := ⟨q, 0, none⟩) (Nat.lt_of_lt_of_le hql2 B2.out.size)).trans SK1.out; clear b3)
        | (go_at_call 52; refine (txt_write pb (bs0 ++ a.str 3) _ u2 (HB7.out.draw.below B3.out) (by rw [sp_size]; (try simp only [List.length_append, List.length_cons, List.length_nil]); omega) (Nat.le_trans (Nat.le_of_lt hpz) B3.out.size)).mono ?_; rintro en w8 ⟨rfl, hb, hk⟩; rw [sp_data] at hb; have hk := ((KeptB.draw pb w7).trans (KeptB.of_below B3.out (Nat.le_of_lt hpz))).trans hk; have HT8 := hide (HT7.out.kept hk); have HB8 := hide hb; have HK8 := hide (HK7.out.trans hk); have HN8 := hide (hk.blk HN7.out hqp (by decide)); have SK3 : Hid (w8.cell? ⟨q, 0, none⟩ = some (.int .i64 op)) := HN8.out.cell 0; clear hb hk))
    clear SD HB7 HT7 HK7 HN7 hpz hql2 ha1 ha2
    have SD : Hid (w8.drew.cell? ⟨pw, 0, none⟩ = some (.func (.func 50) #[] #[.pointer (some ⟨pe, 0, none⟩), .pointer (some ⟨pb, 0, none⟩), .pointer (some ⟨pw, 0, none⟩)]) ∧ w8.drew.cell? ⟨q, 3, none⟩ = some (.slice (some ⟨bk, offk, none⟩) 2 kc) ∧ w8.drew.cell? ⟨bk, offk + 1, none⟩ = some (.int .i64 (v1))) := ⟨HT8.out.self.cell 0, HN8.out.cell 3, (HK8.out.bel.cell (p := ⟨bk, offk + 1, none⟩) hbk).trans GK1.out⟩
    go_upto_region 27 with (fail)
    go_region_held3 (fun w' => w'.cell? ⟨pw, 0, none⟩ = some (.func (.func 50) #[] #[.pointer (some ⟨pe, 0, none⟩), .pointer (some ⟨pb, 0, none⟩), .pointer (some ⟨pw, 0, none⟩)]) ∧ w'.cell? ⟨q, 3, none⟩ = some (.slice (some ⟨bk, offk, none⟩) 2 kc) ∧ w'.cell? ⟨bk, offk + 1, none⟩ = some (.int .i64 (v1)))
      (first | exact SD.out | exact SK.out)
      (first | (go_at_call 50; rw [HV1.out]; refine (IH.out b ha1 hg1 (Kb) 4 hat1 hke1 (by omega) (by omega) (bs0 ++ a.str 3 ++ (32 :: ((infixT op).data.toList ++ [32]))) w8.drew (by  (try simp only [List.length_append, List.length_cons, List.length_nil]); omega) (HT8.out.kept (KeptB.draw pb w8)) HB8.out.draw).mono ?_; rintro en w9 ⟨rfl, hb, hk⟩; have hk := (KeptB.draw pb w8).trans hk; have HT9 := hide (HT8.out.kept hk); have HB9 := hide hb; have HK9 := hide (HK8.out.trans hk); have HN9 := hide (hk.blk HN8.out hqp (by decide)); have SK : Hid (w9.cell? ⟨pw, 0, none⟩ = some (.func (.func 50) #[] #[.pointer (some ⟨pe, 0, none⟩), .pointer (some ⟨pb, 0, none⟩), .pointer (some ⟨pw, 0, none⟩)]) ∧ w9.cell? ⟨q, 3, none⟩ = some (.slice (some ⟨bk, offk, none⟩) 2 kc) ∧ w9.cell? ⟨bk, offk + 1, none⟩ = some (.int .i64 (v1))) := ⟨HT9.out.self.cell 0, HN9.out.cell 3, (HK9.out.bel.cell (p := ⟨bk, offk + 1, none⟩) hbk).trans GK1.out⟩; clear hb hk))
    clear SD HB8 HT8 HK8 HN8
    have hls1 := str_len b hg1 4
    go_wp2
    exact FIN.out _ _ _ rfl (by simpa only [List.append_assoc, List.cons_append, List.nil_append] using HB9.out) HK9.out (by  (try simp only [List.length_append, List.length_cons, List.length_nil]); omega)
end
end Go.Proofs.YtkofmiegnfgbjaaGreatDoor
