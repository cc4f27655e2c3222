/-
  expr.Text: the walk of its closure: leaves and functions.
-/
import Derived.Test.YtkofmiegnfgbjaaGreatDoorTxx
import Derived.Lib.ItoaMem
set_option linter.unusedVariables false
set_option linter.unusedSimpArgs false
namespace Go.Proofs.YtkofmiegnfgbjaaGreatDoor
open Go.RowKit Go.Deep Go.Maps
open Go.Lib (itoa decDigits)

section
variable {pe pb pw : Nat} {A : Option Addr} {c : Nat} {e : List Nod}
theorem below_grow (w : World) (k : Nat) (os : Array Obj) : Below w.heap.size w (Sort.grow (w.drewN k) os) := (drewN_below _ _ _).trans ⟨rfl, rfl, rfl, by simp [Sort.grow], fun g hg => by
  have hg : g < w.heap.size := hg
  simp only [Sort.grow]
  exact Array.getElem?_append_left hg⟩
theorem itoa_len {v : Int} (h0 : 0 ≤ v) (h1 : v ≤ 1000000) : (itoa v).length ≤ 8 := by
  rw [itoa_nn h0]
  exact (dec_len v.toNat).2 7 (by omega)


set_option maxHeartbeats 8000000 in
set_option maxRecDepth 100000 in
theorem txt_name {N : Nat} (IH0 : TIH pe pb pw A c e N) {nm : ByteArray} (hnm24 : nm.size ≤ 24) {idx m : Nat} (hx : nodAt e idx = ⟨2, 0, nm, []⟩) (hidx : idx < e.length) (hm1 : 1 ≤ m) (hm5 : m ≤ 5) (hen : ∀ x ∈ e, x.name.size ≤ maxLen) (he3 : e.length ≤ 300) :
    TGo pe pb pw A c e (1) idx m (parenS 5 m (nm.data.toList)) := by
  intro bs w hlen hT hB
  have IH := hide IH0
  have hpos := hT.pos
  have hone := hT.one
  have htwo := hT.two
  have hselfl := hT.self.lt
  have HT := hide hT
  have HB := hide hB
  obtain ⟨be, offe, K', kc, rfl, hbe, x0, x1, x2, x3, hKd⟩ := hT.ex.at_ hidx
  rw [hx] at x0 x1 x2 x3 hKd
  have hname : nm.size ≤ maxLen := by
    have := hen _ (List.mem_of_getElem? (nodAt_get hidx))
    rw [hx] at this
    exact this
  have hnmlen : nm.size ≤ 24 := hnm24
  have x0 : w.cell? ⟨be, offe + idx * 4, none⟩ = some (.int .i64 2) := x0
  have x1 : w.cell? ⟨be, offe + idx * 4 + 1, none⟩ = some (.int .i64 0) := x1
  have x2 : w.cell? ⟨be, offe + idx * 4 + 2, none⟩ = some (.string nm) := x2
  have x3 : w.cell? ⟨be, offe + idx * 4 + 3, none⟩ = some (.slice K' 0 kc) := x3
  have hKd : RI w pb K' 0 [] := hKd
  have p0 : w.cell? ⟨pe, 0, none⟩ = some (.slice (some ⟨be, offe, none⟩) e.length c) := hT.box.cell 0
  have hB5 : Blk (w.alloc (Obj.cells #[.int .i64 2, .int .i64 0, .string nm, .slice K' 0 kc] 40)) w.heap.size 40 #[.int .i64 2, .int .i64 0, .string nm, .slice K' 0 kc] := Blk.new _ _ _
  have hb5 : Below w.heap.size w (w.alloc (Obj.cells #[.int .i64 2, .int .i64 0, .string nm, .slice K' 0 kc] 40)) := (Below.refl _ _).alloc (Nat.le_refl _) _
  clear hT hB hKd IH0 hx 
  go_enter_defers Tryz.func50, Tryz.ntmps50
  go_upto_region 1 with (fail)
  generalize w.alloc (Obj.cells #[.int .i64 2, .int .i64 0, .string nm, .slice K' 0 kc] 40) = w5 at hB5 hb5 ⊢
  have HK5 := hide (KeptB.of_below (pb := pb) hb5 (Nat.le_of_lt hpos))
  have HT5 := hide (HT.out.kept HK5.out)
  have HB5 := hide (HB.out.below hb5)
  have HN5 := hide hB5
  have hql := hB5.lt
  have hqp : w.heap.size ≠ pb := by omega
  have y0 : w5.cell? ⟨w.heap.size, 0, none⟩ = some (.int .i64 2) := hB5.cell 0
  clear x0 x1 x2 x3 p0 hB5 hb5
  generalize w.heap.size = q at HN5 hql hqp y0 hpos hselfl ⊢
  go_wp2_with fail
  refine (strength_any _ w5).mono ?_
  rintro en w' ⟨rfl, rfl⟩
  rw [show strength 2 = ((5 : Nat) : Int) from by decide]
  have hlp := HT5.out.pos
  clear y0
  by_cases hlt : 5 < m
  · exact absurd hlt (by omega)
  · have d1 : decide (((5 : Nat) : Int) < (m : Int)) = false := decide_eq_false (by omega)
    obtain ⟨w6, hw6⟩ : ∃ w6, w6 = w5 := ⟨_, rfl⟩
    subst hw6
    have HT6 := HT5
    have HB6 := HB5
    have HK6 := HK5
    have HN6 := HN5
    obtain ⟨bs0, hbs0⟩ : ∃ bs0, bs0 = bs := ⟨_, rfl⟩
    rw [← hbs0] at HB6
    have hl0 : bs0.length ≤ bs.length + 1 := by rw [hbs0]; omega
    have FIN : Hid (∀ (l : List UInt8) (tm : Array Value) (w' : World), l = nm.data.toList → BuiF pb pb (Lib.byteCells (bs0 ++ l)) w' → KeptB pb w w' → bs0.length + l.length ≤ 200000 →
        Leaves Tryz.prog Tryz.f50 tm (TPost pb bs (parenS 5 m (nm.data.toList)) w) [] .returning w') := hide (fun l tm w' hl h1 h2 h3 => by
      subst hl
      refine ⟨.tuple #[], by simp [results, Tryz.results50, go_sem], rfl, ?_, h2⟩
      rw [hbs0] at h1
      unfold parenS
      rw [if_neg hlt]
      exact h1)
    clear HB5 HN5 HT5 HK5 hbs0
    go_upto_region 5 with (fail)
    have n2 : w6.cell? ⟨q, 2, none⟩ = some (.string nm) := HN6.out.cell 2
    go_wp2_with fail
    refine (txt_write pb (bs0) nm w6 HB6.out (by have := hnmlen; omega) (Nat.le_of_lt HT6.out.pos)).mono ?_
    rintro en w7 ⟨rfl, hb, hk⟩
    have HT7 := hide (HT6.out.kept hk)
    have HB7 : Hid (BuiF pb pb (Lib.byteCells (bs0 ++ nm.data.toList)) w7) := hide hb
    have HK7 := hide (HK6.out.trans hk)
    have HN7 := hide (hk.blk HN6.out hqp (by decide))
    have hnl : nm.data.toList.length = nm.size := Array.length_toList
    have n0 : w7.cell? ⟨q, 0, none⟩ = some (.int .i64 2) := HN7.out.cell 0
    have n1 : w7.cell? ⟨q, 1, none⟩ = some (.int .i64 0) := HN7.out.cell 1
    have n3 := HN7.out.cell 3
    clear hb hk HB6 HT6 HK6 HN6 n2
    go_wp2
    refine wp_loop_rounds 1 ?_
    rw [rounds_succ]
    go_wp2
    exact FIN.out _ _ _ rfl (by simpa only [List.append_assoc, List.cons_append, List.nil_append] using HB7.out) HK7.out (by  (try simp only [List.length_append, List.length_cons, List.length_nil]); omega)

set_option maxHeartbeats 8000000 in
set_option maxRecDepth 100000 in
theorem txt_num {N : Nat} (IH0 : TIH pe pb pw A c e N) {v : Int} (hv0 : 0 ≤ v) (hv1 : v ≤ 1000000) {idx m : Nat} (hx : nodAt e idx = ⟨1, v, ByteArray.empty, []⟩) (hidx : idx < e.length) (hm1 : 1 ≤ m) (hm5 : m ≤ 5) (hen : ∀ x ∈ e, x.name.size ≤ maxLen) (he3 : e.length ≤ 300) :
    TGo pe pb pw A c e (1) idx m (parenS 5 m (itoa v)) := by
  intro bs w hlen hT hB
  have IH := hide IH0
  have hpos := hT.pos
  have hone := hT.one
  have htwo := hT.two
  have hselfl := hT.self.lt
  have HT := hide hT
  have HB := hide hB
  obtain ⟨be, offe, K', kc, rfl, hbe, x0, x1, x2, x3, hKd⟩ := hT.ex.at_ hidx
  rw [hx] at x0 x1 x2 x3 hKd
  have hname : ByteArray.empty.size ≤ maxLen := by
    have := hen _ (List.mem_of_getElem? (nodAt_get hidx))
    rw [hx] at this
    exact this
  have hnmlen : ByteArray.empty.size ≤ 24 := Nat.zero_le _
  have x0 : w.cell? ⟨be, offe + idx * 4, none⟩ = some (.int .i64 1) := x0
  have x1 : w.cell? ⟨be, offe + idx * 4 + 1, none⟩ = some (.int .i64 v) := x1
  have x2 : w.cell? ⟨be, offe + idx * 4 + 2, none⟩ = some (.string ByteArray.empty) := x2
  have x3 : w.cell? ⟨be, offe + idx * 4 + 3, none⟩ = some (.slice K' 0 kc) := x3
  have hKd : RI w pb K' 0 [] := hKd
  have p0 : w.cell? ⟨pe, 0, none⟩ = some (.slice (some ⟨be, offe, none⟩) e.length c) := hT.box.cell 0
  have hB5 : Blk (w.alloc (Obj.cells #[.int .i64 1, .int .i64 v, .string ByteArray.empty, .slice K' 0 kc] 40)) w.heap.size 40 #[.int .i64 1, .int .i64 v, .string ByteArray.empty, .slice K' 0 kc] := Blk.new _ _ _
  have hb5 : Below w.heap.size w (w.alloc (Obj.cells #[.int .i64 1, .int .i64 v, .string ByteArray.empty, .slice K' 0 kc] 40)) := (Below.refl _ _).alloc (Nat.le_refl _) _
  clear hT hB hKd IH0 hx 
  go_enter_defers Tryz.func50, Tryz.ntmps50
  go_upto_region 1 with (fail)
  generalize w.alloc (Obj.cells #[.int .i64 1, .int .i64 v, .string ByteArray.empty, .slice K' 0 kc] 40) = w5 at hB5 hb5 ⊢
  have HK5 := hide (KeptB.of_below (pb := pb) hb5 (Nat.le_of_lt hpos))
  have HT5 := hide (HT.out.kept HK5.out)
  have HB5 := hide (HB.out.below hb5)
  have HN5 := hide hB5
  have hql := hB5.lt
  have hqp : w.heap.size ≠ pb := by omega
  have y0 : w5.cell? ⟨w.heap.size, 0, none⟩ = some (.int .i64 1) := hB5.cell 0
  clear x0 x1 x2 x3 p0 hB5 hb5
  generalize w.heap.size = q at HN5 hql hqp y0 hpos hselfl ⊢
  go_wp2_with fail
  refine (strength_any _ w5).mono ?_
  rintro en w' ⟨rfl, rfl⟩
  rw [show strength 1 = ((5 : Nat) : Int) from by decide]
  have hlp := HT5.out.pos
  clear y0
  by_cases hlt : 5 < m
  · exact absurd hlt (by omega)
  · have d1 : decide (((5 : Nat) : Int) < (m : Int)) = false := decide_eq_false (by omega)
    obtain ⟨w6, hw6⟩ : ∃ w6, w6 = w5 := ⟨_, rfl⟩
    subst hw6
    have HT6 := HT5
    have HB6 := HB5
    have HK6 := HK5
    have HN6 := HN5
    obtain ⟨bs0, hbs0⟩ : ∃ bs0, bs0 = bs := ⟨_, rfl⟩
    rw [← hbs0] at HB6
    have hl0 : bs0.length ≤ bs.length + 1 := by rw [hbs0]; omega
    have FIN : Hid (∀ (l : List UInt8) (tm : Array Value) (w' : World), l = itoa v → BuiF pb pb (Lib.byteCells (bs0 ++ l)) w' → KeptB pb w w' → bs0.length + l.length ≤ 200000 →
        Leaves Tryz.prog Tryz.f50 tm (TPost pb bs (parenS 5 m (itoa v)) w) [] .returning w') := hide (fun l tm w' hl h1 h2 h3 => by
      subst hl
      refine ⟨.tuple #[], by simp [results, Tryz.results50, go_sem], rfl, ?_, h2⟩
      rw [hbs0] at h1
      unfold parenS
      rw [if_neg hlt]
      exact h1)
    clear HB5 HN5 HT5 HK5 hbs0
    go_upto_region 5 with (fail)
    have n2 : w6.cell? ⟨q, 2, none⟩ = some (.string ByteArray.empty) := HN6.out.cell 2
    go_wp2_with fail
    refine (txt_write pb (bs0) ByteArray.empty w6 HB6.out (by have := hnmlen; omega) (Nat.le_of_lt HT6.out.pos)).mono ?_
    rintro en w7 ⟨rfl, hb, hk⟩
    have HT7 := hide (HT6.out.kept hk)
    have HB7 : Hid (BuiF pb pb (Lib.byteCells (bs0)) w7) := hide (by rw [show ByteArray.empty.data.toList = [] from rfl, List.append_nil] at hb; exact hb)
    have HK7 := hide (HK6.out.trans hk)
    have HN7 := hide (hk.blk HN6.out hqp (by decide))
    skip
    have n0 : w7.cell? ⟨q, 0, none⟩ = some (.int .i64 1) := HN7.out.cell 0
    have n1 : w7.cell? ⟨q, 1, none⟩ = some (.int .i64 v) := HN7.out.cell 1
    have n3 := HN7.out.cell 3
    clear hb hk HB6 HT6 HK6 HN6 n2
    go_wp2_with fail
    refine (Tryz.strconv_Itoa v (by omega) (by omega) w7 HT7.out.tab).mono ?_
    rintro en w8 ⟨rfl, k, os, hw⟩
    have hb' : Below w7.heap.size w7 w8 := by rw [hw]; exact below_grow _ _ _
    have hk := KeptB.of_below (pb := pb) hb' (Nat.le_of_lt HT7.out.pos)
    have HT8 := hide (HT7.out.kept hk)
    have HB8 := hide (HB7.out.below hb')
    have HK8 := hide (HK7.out.trans hk)
    have HN8 := hide (hk.blk HN7.out hqp (by decide))
    have hil : (itoa v).length ≤ 8 := itoa_len hv0 hv1
    clear hw hb' hk HB7 HT7 HK7 HN7 n0 n1 n3
    go_wp2_with fail
    refine (txt_write pb (bs0) ⟨(itoa v).toArray⟩ w8 HB8.out (by (try simp only [List.length_append, List.length_cons, List.length_nil]); show _ + (itoa v).toArray.size ≤ _; rw [List.size_toArray]; omega) (Nat.le_of_lt HT8.out.pos)).mono ?_
    rintro en w9 ⟨rfl, hb, hk⟩
    have HT9 := hide (HT8.out.kept hk)
    have HB9 : Hid (BuiF pb pb (Lib.byteCells (bs0 ++ itoa v)) w9) := hide (by simpa using hb)
    have HK9 := hide (HK8.out.trans hk)
    have HN9 := hide (hk.blk HN8.out hqp (by decide))
    have n3 := HN9.out.cell 3
    clear hb hk HB8 HT8 HK8 HN8
    go_wp2
    refine wp_loop_rounds 1 ?_
    rw [rounds_succ]
    go_wp2
    exact FIN.out _ _ _ rfl (by simpa only [List.append_assoc, List.cons_append, List.nil_append] using HB9.out) HK9.out (by  (try simp only [List.length_append, List.length_cons, List.length_nil]); omega)

set_option maxHeartbeats 8000000 in
set_option maxRecDepth 100000 in
theorem txt_fun2 {N : Nat} (IH0 : TIH pe pb pw A c e N) {op : Int} (hop1 : op = 7 ∨ op = 8) (a : Tr) (ha0 : a.size < N) (hg0 : a.good) {Ka : Nat} (hat0 : AtL e Ka (a.flat Ka)) {v0 : Int} (hv0 : v0 = ((Ka + a.size - 1 : Nat) : Int)) (hke0 : Ka + a.size ≤ e.length) (b : Tr) (ha1 : b.size < N) (hg1 : b.good) {Kb : Nat} (hat1 : AtL e Kb (b.flat Kb)) {v1 : Int} (hv1 : v1 = ((Kb + b.size - 1 : Nat) : Int)) (hke1 : Kb + b.size ≤ e.length) {idx m : Nat} (hx : nodAt e idx = ⟨op, 0, ByteArray.empty, [v0, v1]⟩) (hidx : idx < e.length) (hm1 : 1 ≤ m) (hm5 : m ≤ 5) (hen : ∀ x ∈ e, x.name.size ≤ maxLen) (he3 : e.length ≤ 300) :
    TGo pe pb pw A c e (a.size + b.size + 1) idx m (parenS 5 m ((funcT op).data.toList ++ (40 :: (a.str 1 ++ (44 :: 32 :: (b.str 1 ++ [41])))))) := by
  intro bs w hlen hT hB
  have IH := hide IH0
  have hpos := hT.pos
  have hone := hT.one
  have htwo := hT.two
  have hselfl := hT.self.lt
  have HT := hide hT
  have HB := hide hB
  obtain ⟨be, offe, K', kc, rfl, hbe, x0, x1, x2, x3, hKd⟩ := hT.ex.at_ hidx
  rw [hx] at x0 x1 x2 x3 hKd
  have hname : ByteArray.empty.size ≤ maxLen := by
    have := hen _ (List.mem_of_getElem? (nodAt_get hidx))
    rw [hx] at this
    exact this
  have hnmlen : ByteArray.empty.size ≤ 24 := Nat.zero_le _
  have x0 : w.cell? ⟨be, offe + idx * 4, none⟩ = some (.int .i64 op) := x0
  have x1 : w.cell? ⟨be, offe + idx * 4 + 1, none⟩ = some (.int .i64 0) := x1
  have x2 : w.cell? ⟨be, offe + idx * 4 + 2, none⟩ = some (.string ByteArray.empty) := x2
  have x3 : w.cell? ⟨be, offe + idx * 4 + 3, none⟩ = some (.slice K' 2 kc) := x3
  have hKd : RI w pb K' 2 [v0, v1] := hKd
  have p0 : w.cell? ⟨pe, 0, none⟩ = some (.slice (some ⟨be, offe, none⟩) e.length c) := hT.box.cell 0
  obtain ⟨bk, offk, rfl, hbk, gk0⟩ := hKd.at_ (k := 0) (by decide)
  have GK0 : Hid (w.cell? ⟨bk, offk, none⟩ = some (.int .i64 (v0))) := gk0
  have GK1 : Hid (w.cell? ⟨bk, offk + 1, none⟩ = some (.int .i64 (v1))) := hide (by
    obtain ⟨b2, o2, hA2, _, g2⟩ := hKd.at_ (k := 1) (by decide)
    injection hA2 with hA2
    injection hA2 with h1 h2
    rw [h1, h2]
    exact g2)
  clear gk0
  have hB5 : Blk (w.alloc (Obj.cells #[.int .i64 op, .int .i64 0, .string ByteArray.empty, .slice (some ⟨bk, offk, none⟩) 2 kc] 40)) w.heap.size 40 #[.int .i64 op, .int .i64 0, .string ByteArray.empty, .slice (some ⟨bk, offk, none⟩) 2 kc] := Blk.new _ _ _
  have hb5 : Below w.heap.size w (w.alloc (Obj.cells #[.int .i64 op, .int .i64 0, .string ByteArray.empty, .slice (some ⟨bk, offk, none⟩) 2 kc] 40)) := (Below.refl _ _).alloc (Nat.le_refl _) _
  have HV0 := hide hv0
  have HV1 := hide hv1
  clear hT hB hKd IH0 hx hv0 hv1
  have hop : op = 7 ∨ op = 8 ∨ op = 9 := by omega
  go_enter_defers Tryz.func50, Tryz.ntmps50
  go_upto_region 1 with (fail)
  generalize w.alloc (Obj.cells #[.int .i64 op, .int .i64 0, .string ByteArray.empty, .slice (some ⟨bk, offk, none⟩) 2 kc] 40) = w5 at hB5 hb5 ⊢
  have HK5 := hide (KeptB.of_below (pb := pb) hb5 (Nat.le_of_lt hpos))
  have HT5 := hide (HT.out.kept HK5.out)
  have HB5 := hide (HB.out.below hb5)
  have HN5 := hide hB5
  have hql := hB5.lt
  have hqp : w.heap.size ≠ pb := by omega
  have y0 : w5.cell? ⟨w.heap.size, 0, none⟩ = some (.int .i64 op) := hB5.cell 0
  clear x0 x1 x2 x3 p0 hB5 hb5
  generalize w.heap.size = q at HN5 hql hqp y0 hpos hselfl ⊢
  go_wp2_with fail
  refine (strength_any _ w5).mono ?_
  rintro en w' ⟨rfl, rfl⟩
  rw [show strength op = ((5 : Nat) : Int) from by rcases hop1 with rfl | rfl <;> decide]
  have hlp := HT5.out.pos
  clear y0
  by_cases hlt : 5 < m
  · exact absurd hlt (by omega)
  · have d1 : decide (((5 : Nat) : Int) < (m : Int)) = false := decide_eq_false (by omega)
    obtain ⟨w6, hw6⟩ : ∃ w6, w6 = w5 := ⟨_, rfl⟩
    subst hw6
    have HT6 := HT5
    have HB6 := HB5
    have HK6 := HK5
    have HN6 := HN5
    obtain ⟨bs0, hbs0⟩ : ∃ bs0, bs0 = bs := ⟨_, rfl⟩
    rw [← hbs0] at HB6
    have hl0 : bs0.length ≤ bs.length + 1 := by rw [hbs0]; omega
    have FIN : Hid (∀ (l : List UInt8) (tm : Array Value) (w' : World), l = (funcT op).data.toList ++ (40 :: (a.str 1 ++ (44 :: 32 :: (b.str 1 ++ [41])))) → BuiF pb pb (Lib.byteCells (bs0 ++ l)) w' → KeptB pb w w' → bs0.length + l.length ≤ 200000 →
        Leaves Tryz.prog Tryz.f50 tm (TPost pb bs (parenS 5 m ((funcT op).data.toList ++ (40 :: (a.str 1 ++ (44 :: 32 :: (b.str 1 ++ [41])))))) w) [] .returning w') := hide (fun l tm w' hl h1 h2 h3 => by
      subst hl
      refine ⟨.tuple #[], by simp [results, Tryz.results50, go_sem], rfl, ?_, h2⟩
      rw [hbs0] at h1
      unfold parenS
      rw [if_neg hlt]
      exact h1)
    clear HB5 HN5 HT5 HK5 hbs0
    go_upto_region 5 with (fail)
    have n2 : w6.cell? ⟨q, 2, none⟩ = some (.string ByteArray.empty) := HN6.out.cell 2
    go_wp2_with fail
    refine (txt_write pb (bs0) ByteArray.empty w6 HB6.out (by have := hnmlen; omega) (Nat.le_of_lt HT6.out.pos)).mono ?_
    rintro en w7 ⟨rfl, hb, hk⟩
    have HT7 := hide (HT6.out.kept hk)
    have HB7 : Hid (BuiF pb pb (Lib.byteCells (bs0)) w7) := hide (by rw [show ByteArray.empty.data.toList = [] from rfl, List.append_nil] at hb; exact hb)
    have HK7 := hide (HK6.out.trans hk)
    have HN7 := hide (hk.blk HN6.out hqp (by decide))
    skip
    have n0 : w7.cell? ⟨q, 0, none⟩ = some (.int .i64 op) := HN7.out.cell 0
    have n1 : w7.cell? ⟨q, 1, none⟩ = some (.int .i64 0) := HN7.out.cell 1
    have n3 := HN7.out.cell 3
    clear hb hk HB6 HT6 HK6 HN6 n2
    go_wp2
    clear n0 n1
    refine wp_loop_rounds 3 ?_
    rw [rounds_succ]
    have gk : w7.cell? ⟨bk, offk, none⟩ = some (.int .i64 (v0)) := (HK7.out.bel.cell (p := ⟨bk, offk, none⟩) hbk).trans GK0.out
    have SD : Hid (w7.drew.cell? ⟨q, 0, none⟩ = some (.int .i64 op)) := HN7.out.cell 0
    have hpz := HT7.out.pos
    have hql2 := HN7.out.lt
    have hsl := func_len op
    have hsz : (funcT op).size ≤ 3 := by have := hsl; rw [Array.length_toList] at this; exact this
    have ha1 : ∀ w : World, (Op.stringOp .add (funcT op) ⟨#[40]⟩).run Tryz.prog w = .ok (.string (funcT op ++ ⟨#[40]⟩)) w := fun w => par_run hsz w
    clear n3
    go_upto_region 13 with (fail)
    clear gk
    go_region_held3 (fun w' => w'.cell? ⟨q, 0, none⟩ = some (.int .i64 op)) (first | exact SD.out | exact SK1.out | exact SK2.out | exact SK3.out)
      (first
        | (go_at_call 56; refine (functions_map w7.drew).mono ?_; rintro en u1 ⟨rfl, p2, b2⟩; have P2 := hide p2; have B2 := hide b2; have SK1 : Hid (u1.cell? ⟨q, 0, none⟩ = some (.int .i64 op)) := (b2.cell (p := ⟨q, 0, none⟩) hql2).trans SD.out; clear p2 b2)
        | (go_at_call 53; refine (funcSym_any _ 3 op u1 P2.out hop).mono ?_; rintro en u2 ⟨rfl, b3⟩; have B3 := hide (B2.out.trans (b3.mono B2.out.size)); have SK2 : Hid (u2.cell? ⟨q, 0, none⟩ = some (.int .i64 op)) := (b3.cell (p := ⟨q, 0, none⟩) (Nat.lt_of_lt_of_le hql2 B2.out.size)).trans SK1.out; clear b3)
        | (go_at_call 52; refine (txt_write pb (bs0) _ u2 (HB7.out.draw.below B3.out) (by rw [par_size]; (try simp only [List.length_append, List.length_cons, List.length_nil]); omega) (Nat.le_trans (Nat.le_of_lt hpz) B3.out.size)).mono ?_; rintro en w8 ⟨rfl, hb, hk⟩; rw [par_data] at hb; have hk := ((KeptB.draw pb w7).trans (KeptB.of_below B3.out (Nat.le_of_lt hpz))).trans hk; have HT8 := hide (HT7.out.kept hk); have HB8 := hide hb; have HK8 := hide (HK7.out.trans hk); have HN8 := hide (hk.blk HN7.out hqp (by decide)); have SK3 : Hid (w8.cell? ⟨q, 0, none⟩ = some (.int .i64 op)) := HN8.out.cell 0; clear hb hk))
    clear SD HB7 HT7 HK7 HN7 hpz hql2 ha1
    have self := HT8.out.self.cell 0
    go_wp2_with fail
    rw [HV0.out]
    refine (IH.out a ha0 hg0 (Ka) 1 hat0 hke0 (by omega) (by omega) (bs0 ++ ((funcT op).data.toList ++ [40])) w8 (by (try simp only [List.length_append, List.length_cons, List.length_nil]); omega) HT8.out HB8.out).mono ?_
    rintro en w9 ⟨rfl, hb, hk⟩
    have HT9 := hide (HT8.out.kept hk)
    have HB9 := hide hb
    have HK9 := hide (HK8.out.trans hk)
    have HN9 := hide (hk.blk HN8.out hqp (by decide))
    clear hb hk self HB8 HT8 HK8 HN8
    have hls0 := str_len a hg0 1
    go_wp2
    rw [rounds_succ]
    have gk : w9.cell? ⟨bk, offk + 1, none⟩ = some (.int .i64 (v1)) := (HK9.out.bel.cell (p := ⟨bk, offk + 1, none⟩) hbk).trans GK1.out
    go_wp2_with fail
    refine (txt_write pb (bs0 ++ ((funcT op).data.toList ++ [40]) ++ a.str 1) ⟨#[44, 32]⟩ w9 HB9.out (by show _ + 2 ≤ 1000000; (try simp only [List.length_append, List.length_cons, List.length_nil]); omega) (Nat.le_of_lt HT9.out.pos)).mono ?_
    rintro en w10 ⟨rfl, hb, hk⟩
    have HT10 := hide (HT9.out.kept hk)
    have HB10 : Hid (BuiF pb pb (Lib.byteCells (bs0 ++ ((funcT op).data.toList ++ [40]) ++ a.str 1 ++ [44, 32])) w10) := hide hb
    have HK10 := hide (HK9.out.trans hk)
    have HN10 := hide (hk.blk HN9.out hqp (by decide))
    clear hb hk gk HB9 HT9 HK9 HN9
    have self := HT10.out.self.cell 0
    go_wp2_with fail
    rw [HV1.out]
    refine (IH.out b ha1 hg1 (Kb) 1 hat1 hke1 (by omega) (by omega) (bs0 ++ ((funcT op).data.toList ++ [40]) ++ a.str 1 ++ [44, 32]) w10 (by (try simp only [List.length_append, List.length_cons, List.length_nil]); omega) HT10.out HB10.out).mono ?_
    rintro en w11 ⟨rfl, hb, hk⟩
    have HT11 := hide (HT10.out.kept hk)
    have HB11 := hide hb
    have HK11 := hide (HK10.out.trans hk)
    have HN11 := hide (hk.blk HN10.out hqp (by decide))
    clear hb hk self HB10 HT10 HK10 HN10
    have hls1 := str_len b hg1 1
    go_wp2
    rw [rounds_succ]
    have n3 := HN11.out.cell 3
    go_wp2_with fail
    refine (txt_write pb (bs0 ++ ((funcT op).data.toList ++ [40]) ++ a.str 1 ++ [44, 32] ++ b.str 1) ⟨#[41]⟩ w11 HB11.out (by show _ + 1 ≤ 1000000; (try simp only [List.length_append, List.length_cons, List.length_nil]); omega) (Nat.le_of_lt HT11.out.pos)).mono ?_
    rintro en w12 ⟨rfl, hb, hk⟩
    have HT12 := hide (HT11.out.kept hk)
    have HB12 : Hid (BuiF pb pb (Lib.byteCells (bs0 ++ ((funcT op).data.toList ++ [40]) ++ a.str 1 ++ [44, 32] ++ b.str 1 ++ [41])) w12) := hide hb
    have HK12 := hide (HK11.out.trans hk)
    clear hb hk n3 HB11 HT11 HK11 HN11
    go_wp2
    exact FIN.out _ _ _ rfl (by simpa only [List.append_assoc, List.cons_append, List.nil_append] using HB12.out) HK12.out (by  (try simp only [List.length_append, List.length_cons, List.length_nil]); omega)

set_option maxHeartbeats 8000000 in
set_option maxRecDepth 100000 in
theorem txt_fun3 {N : Nat} (IH0 : TIH pe pb pw A c e N) (a : Tr) (ha0 : a.size < N) (hg0 : a.good) {Ka : Nat} (hat0 : AtL e Ka (a.flat Ka)) {v0 : Int} (hv0 : v0 = ((Ka + a.size - 1 : Nat) : Int)) (hke0 : Ka + a.size ≤ e.length) (b : Tr) (ha1 : b.size < N) (hg1 : b.good) {Kb : Nat} (hat1 : AtL e Kb (b.flat Kb)) {v1 : Int} (hv1 : v1 = ((Kb + b.size - 1 : Nat) : Int)) (hke1 : Kb + b.size ≤ e.length) (d : Tr) (ha2 : d.size < N) (hg2 : d.good) {Kd : Nat} (hat2 : AtL e Kd (d.flat Kd)) {v2 : Int} (hv2 : v2 = ((Kd + d.size - 1 : Nat) : Int)) (hke2 : Kd + d.size ≤ e.length) {idx m : Nat} (hx : nodAt e idx = ⟨9, 0, ByteArray.empty, [v0, v1, v2]⟩) (hidx : idx < e.length) (hm1 : 1 ≤ m) (hm5 : m ≤ 5) (hen : ∀ x ∈ e, x.name.size ≤ maxLen) (he3 : e.length ≤ 300) :
    TGo pe pb pw A c e (a.size + b.size + d.size + 1) idx m (parenS 5 m ((funcT 9).data.toList ++ (40 :: (a.str 1 ++ (44 :: 32 :: (b.str 1 ++ (44 :: 32 :: (d.str 1 ++ [41])))))))) := by
  intro bs w hlen hT hB
  have IH := hide IH0
  have hpos := hT.pos
  have hone := hT.one
  have htwo := hT.two
  have hselfl := hT.self.lt
  have HT := hide hT
  have HB := hide hB
  obtain ⟨be, offe, K', kc, rfl, hbe, x0, x1, x2, x3, hKd⟩ := hT.ex.at_ hidx
  rw [hx] at x0 x1 x2 x3 hKd
  have hname : ByteArray.empty.size ≤ maxLen := by
    have := hen _ (List.mem_of_getElem? (nodAt_get hidx))
    rw [hx] at this
    exact this
  have hnmlen : ByteArray.empty.size ≤ 24 := Nat.zero_le _
  have x0 : w.cell? ⟨be, offe + idx * 4, none⟩ = some (.int .i64 9) := x0
  have x1 : w.cell? ⟨be, offe + idx * 4 + 1, none⟩ = some (.int .i64 0) := x1
  have x2 : w.cell? ⟨be, offe + idx * 4 + 2, none⟩ = some (.string ByteArray.empty) := x2
  have x3 : w.cell? ⟨be, offe + idx * 4 + 3, none⟩ = some (.slice K' 3 kc) := x3
  have hKd : RI w pb K' 3 [v0, v1, v2] := hKd
  have p0 : w.cell? ⟨pe, 0, none⟩ = some (.slice (some ⟨be, offe, none⟩) e.length c) := hT.box.cell 0
  obtain ⟨bk, offk, rfl, hbk, gk0⟩ := hKd.at_ (k := 0) (by decide)
  have GK0 : Hid (w.cell? ⟨bk, offk, none⟩ = some (.int .i64 (v0))) := gk0
  have GK1 : Hid (w.cell? ⟨bk, offk + 1, none⟩ = some (.int .i64 (v1))) := hide (by
    obtain ⟨b2, o2, hA2, _, g2⟩ := hKd.at_ (k := 1) (by decide)
    injection hA2 with hA2
    injection hA2 with h1 h2
    rw [h1, h2]
    exact g2)
  have GK2 : Hid (w.cell? ⟨bk, offk + 2, none⟩ = some (.int .i64 (v2))) := hide (by
    obtain ⟨b2, o2, hA2, _, g2⟩ := hKd.at_ (k := 2) (by decide)
    injection hA2 with hA2
    injection hA2 with h1 h2
    rw [h1, h2]
    exact g2)
  clear gk0
  have hB5 : Blk (w.alloc (Obj.cells #[.int .i64 9, .int .i64 0, .string ByteArray.empty, .slice (some ⟨bk, offk, none⟩) 3 kc] 40)) w.heap.size 40 #[.int .i64 9, .int .i64 0, .string ByteArray.empty, .slice (some ⟨bk, offk, none⟩) 3 kc] := Blk.new _ _ _
  have hb5 : Below w.heap.size w (w.alloc (Obj.cells #[.int .i64 9, .int .i64 0, .string ByteArray.empty, .slice (some ⟨bk, offk, none⟩) 3 kc] 40)) := (Below.refl _ _).alloc (Nat.le_refl _) _
  have HV0 := hide hv0
  have HV1 := hide hv1
  have HV2 := hide hv2
  clear hT hB hKd IH0 hx hv0 hv1 hv2
  have hop : (9 : Int) = 7 ∨ (9 : Int) = 8 ∨ (9 : Int) = 9 := by decide
  go_enter_defers Tryz.func50, Tryz.ntmps50
  go_upto_region 1 with (fail)
  generalize w.alloc (Obj.cells #[.int .i64 9, .int .i64 0, .string ByteArray.empty, .slice (some ⟨bk, offk, none⟩) 3 kc] 40) = w5 at hB5 hb5 ⊢
  have HK5 := hide (KeptB.of_below (pb := pb) hb5 (Nat.le_of_lt hpos))
  have HT5 := hide (HT.out.kept HK5.out)
  have HB5 := hide (HB.out.below hb5)
  have HN5 := hide hB5
  have hql := hB5.lt
  have hqp : w.heap.size ≠ pb := by omega
  have y0 : w5.cell? ⟨w.heap.size, 0, none⟩ = some (.int .i64 9) := hB5.cell 0
  clear x0 x1 x2 x3 p0 hB5 hb5
  generalize w.heap.size = q at HN5 hql hqp y0 hpos hselfl ⊢
  go_wp2_with fail
  refine (strength_any _ w5).mono ?_
  rintro en w' ⟨rfl, rfl⟩
  rw [show strength 9 = ((5 : Nat) : Int) from by decide]
  have hlp := HT5.out.pos
  clear y0
  by_cases hlt : 5 < m
  · exact absurd hlt (by omega)
  · have d1 : decide (((5 : Nat) : Int) < (m : Int)) = false := decide_eq_false (by omega)
    obtain ⟨w6, hw6⟩ : ∃ w6, w6 = w5 := ⟨_, rfl⟩
    subst hw6
    have HT6 := HT5
    have HB6 := HB5
    have HK6 := HK5
    have HN6 := HN5
    obtain ⟨bs0, hbs0⟩ : ∃ bs0, bs0 = bs := ⟨_, rfl⟩
    rw [← hbs0] at HB6
    have hl0 : bs0.length ≤ bs.length + 1 := by rw [hbs0]; omega
    have FIN : Hid (∀ (l : List UInt8) (tm : Array Value) (w' : World), l = (funcT 9).data.toList ++ (40 :: (a.str 1 ++ (44 :: 32 :: (b.str 1 ++ (44 :: 32 :: (d.str 1 ++ [41])))))) → BuiF pb pb (Lib.byteCells (bs0 ++ l)) w' → KeptB pb w w' → bs0.length + l.length ≤ 200000 →
        Leaves Tryz.prog Tryz.f50 tm (TPost pb bs (parenS 5 m ((funcT 9).data.toList ++ (40 :: (a.str 1 ++ (44 :: 32 :: (b.str 1 ++ (44 :: 32 :: (d.str 1 ++ [41])))))))) w) [] .returning w') := hide (fun l tm w' hl h1 h2 h3 => by
      subst hl
      refine ⟨.tuple #[], by simp [results, Tryz.results50, go_sem], rfl, ?_, h2⟩
      rw [hbs0] at h1
      unfold parenS
      rw [if_neg hlt]
      exact h1)
    clear HB5 HN5 HT5 HK5 hbs0
    go_upto_region 5 with (fail)
    have n2 : w6.cell? ⟨q, 2, none⟩ = some (.string ByteArray.empty) := HN6.out.cell 2
    go_wp2_with fail
    refine (txt_write pb (bs0) ByteArray.empty w6 HB6.out (by have := hnmlen; omega) (Nat.le_of_lt HT6.out.pos)).mono ?_
    rintro en w7 ⟨rfl, hb, hk⟩
    have HT7 := hide (HT6.out.kept hk)
    have HB7 : Hid (BuiF pb pb (Lib.byteCells (bs0)) w7) := hide (by rw [show ByteArray.empty.data.toList = [] from rfl, List.append_nil] at hb; exact hb)
    have HK7 := hide (HK6.out.trans hk)
    have HN7 := hide (hk.blk HN6.out hqp (by decide))
    skip
    have n0 : w7.cell? ⟨q, 0, none⟩ = some (.int .i64 9) := HN7.out.cell 0
    have n1 : w7.cell? ⟨q, 1, none⟩ = some (.int .i64 0) := HN7.out.cell 1
    have n3 := HN7.out.cell 3
    clear hb hk HB6 HT6 HK6 HN6 n2
    go_wp2
    clear n0 n1
    refine wp_loop_rounds 4 ?_
    rw [rounds_succ]
    have gk : w7.cell? ⟨bk, offk, none⟩ = some (.int .i64 (v0)) := (HK7.out.bel.cell (p := ⟨bk, offk, none⟩) hbk).trans GK0.out
    have SD : Hid (w7.drew.cell? ⟨q, 0, none⟩ = some (.int .i64 9)) := HN7.out.cell 0
    have hpz := HT7.out.pos
    have hql2 := HN7.out.lt
    have hsl := func_len 9
    have hsz : (funcT 9).size ≤ 3 := by have := hsl; rw [Array.length_toList] at this; exact this
    have ha1 : ∀ w : World, (Op.stringOp .add (funcT 9) ⟨#[40]⟩).run Tryz.prog w = .ok (.string (funcT 9 ++ ⟨#[40]⟩)) w := fun w => par_run hsz w
    clear n3
    go_upto_region 13 with (fail)
    clear gk
    go_region_held3 (fun w' => w'.cell? ⟨q, 0, none⟩ = some (.int .i64 9)) (first | exact SD.out | exact SK1.out | exact SK2.out | exact SK3.out)
      (first
        | (go_at_call 56; refine (functions_map w7.drew).mono ?_; rintro en u1 ⟨rfl, p2, b2⟩; have P2 := hide p2; have B2 := hide b2; have SK1 : Hid (u1.cell? ⟨q, 0, none⟩ = some (.int .i64 9)) := (b2.cell (p := ⟨q, 0, none⟩) hql2).trans SD.out; clear p2 b2)
        | (go_at_call 53; refine (funcSym_any _ 3 9 u1 P2.out (by decide)).mono ?_; rintro en u2 ⟨rfl, b3⟩; have B3 := hide (B2.out.trans (b3.mono B2.out.size)); have SK2 : Hid (u2.cell? ⟨q, 0, none⟩ = some (.int .i64 9)) := (b3.cell (p := ⟨q, 0, none⟩) (Nat.lt_of_lt_of_le hql2 B2.out.size)).trans SK1.out; clear b3)
        | (go_at_call 52; refine (txt_write pb (bs0) _ u2 (HB7.out.draw.below B3.out) (by rw [par_size]; (try simp only [List.length_append, List.length_cons, List.length_nil]); omega) (Nat.le_trans (Nat.le_of_lt hpz) B3.out.size)).mono ?_; rintro en w8 ⟨rfl, hb, hk⟩; rw [par_data] at hb; have hk := ((KeptB.draw pb w7).trans (KeptB.of_below B3.out (Nat.le_of_lt hpz))).trans hk; have HT8 := hide (HT7.out.kept hk); have HB8 := hide hb; have HK8 := hide (HK7.out.trans hk); have HN8 := hide (hk.blk HN7.out hqp (by decide)); have SK3 : Hid (w8.cell? ⟨q, 0, none⟩ = some (.int .i64 9)) := HN8.out.cell 0; clear hb hk))
    clear SD HB7 HT7 HK7 HN7 hpz hql2 ha1
    have self := HT8.out.self.cell 0
    go_wp2_with fail
    rw [HV0.out]
    refine (IH.out a ha0 hg0 (Ka) 1 hat0 hke0 (by omega) (by omega) (bs0 ++ ((funcT 9).data.toList ++ [40])) w8 (by (try simp only [List.length_append, List.length_cons, List.length_nil]); omega) HT8.out HB8.out).mono ?_
    rintro en w9 ⟨rfl, hb, hk⟩
    have HT9 := hide (HT8.out.kept hk)
    have HB9 := hide hb
    have HK9 := hide (HK8.out.trans hk)
    have HN9 := hide (hk.blk HN8.out hqp (by decide))
    clear hb hk self HB8 HT8 HK8 HN8
    have hls0 := str_len a hg0 1
    go_wp2
    rw [rounds_succ]
    have gk : w9.cell? ⟨bk, offk + 1, none⟩ = some (.int .i64 (v1)) := (HK9.out.bel.cell (p := ⟨bk, offk + 1, none⟩) hbk).trans GK1.out
    go_wp2_with fail
    refine (txt_write pb (bs0 ++ ((funcT 9).data.toList ++ [40]) ++ a.str 1) ⟨#[44, 32]⟩ w9 HB9.out (by show _ + 2 ≤ 1000000; (try simp only [List.length_append, List.length_cons, List.length_nil]); omega) (Nat.le_of_lt HT9.out.pos)).mono ?_
    rintro en w10 ⟨rfl, hb, hk⟩
    have HT10 := hide (HT9.out.kept hk)
    have HB10 : Hid (BuiF pb pb (Lib.byteCells (bs0 ++ ((funcT 9).data.toList ++ [40]) ++ a.str 1 ++ [44, 32])) w10) := hide hb
    have HK10 := hide (HK9.out.trans hk)
    have HN10 := hide (hk.blk HN9.out hqp (by decide))
    clear hb hk gk HB9 HT9 HK9 HN9
    have self := HT10.out.self.cell 0
    go_wp2_with fail
    rw [HV1.out]
    refine (IH.out b ha1 hg1 (Kb) 1 hat1 hke1 (by omega) (by omega) (bs0 ++ ((funcT 9).data.toList ++ [40]) ++ a.str 1 ++ [44, 32]) w10 (by (try simp only [List.length_append, List.length_cons, List.length_nil]); omega) HT10.out HB10.out).mono ?_
    rintro en w11 ⟨rfl, hb, hk⟩
    have HT11 := hide (HT10.out.kept hk)
    have HB11 := hide hb
    have HK11 := hide (HK10.out.trans hk)
    have HN11 := hide (hk.blk HN10.out hqp (by decide))
    clear hb hk self HB10 HT10 HK10 HN10
    have hls1 := str_len b hg1 1
    go_wp2
    rw [rounds_succ]
    have gk : w11.cell? ⟨bk, offk + 2, none⟩ = some (.int .i64 (v2)) := (HK11.out.bel.cell (p := ⟨bk, offk + 2, none⟩) hbk).trans GK2.out
    go_wp2_with fail
    refine (txt_write pb (bs0 ++ ((funcT 9).data.toList ++ [40]) ++ a.str 1 ++ [44, 32] ++ b.str 1) ⟨#[44, 32]⟩ w11 HB11.out (by show _ + 2 ≤ 1000000; (try simp only [List.length_append, List.length_cons, List.length_nil]); omega) (Nat.le_of_lt HT11.out.pos)).mono ?_
    rintro en w12 ⟨rfl, hb, hk⟩
    have HT12 := hide (HT11.out.kept hk)
    have HB12 : Hid (BuiF pb pb (Lib.byteCells (bs0 ++ ((funcT 9).data.toList ++ [40]) ++ a.str 1 ++ [44, 32] ++ b.str 1 ++ [44, 32])) w12) := hide hb
    have HK12 := hide (HK11.out.trans hk)
    have HN12 := hide (hk.blk HN11.out hqp (by decide))
    clear hb hk gk HB11 HT11 HK11 HN11
    have self := HT12.out.self.cell 0
    go_wp2_with fail
    rw [HV2.out]
    refine (IH.out d ha2 hg2 (Kd) 1 hat2 hke2 (by omega) (by omega) (bs0 ++ ((funcT 9).data.toList ++ [40]) ++ a.str 1 ++ [44, 32] ++ b.str 1 ++ [44, 32]) w12 (by (try simp only [List.length_append, List.length_cons, List.length_nil]); omega) HT12.out HB12.out).mono ?_
    rintro en w13 ⟨rfl, hb, hk⟩
    have HT13 := hide (HT12.out.kept hk)
    have HB13 := hide hb
    have HK13 := hide (HK12.out.trans hk)
    have HN13 := hide (hk.blk HN12.out hqp (by decide))
    clear hb hk self HB12 HT12 HK12 HN12
    have hls2 := str_len d hg2 1
    go_wp2
    rw [rounds_succ]
    have n3 := HN13.out.cell 3
    go_wp2_with fail
    refine (txt_write pb (bs0 ++ ((funcT 9).data.toList ++ [40]) ++ a.str 1 ++ [44, 32] ++ b.str 1 ++ [44, 32] ++ d.str 1) ⟨#[41]⟩ w13 HB13.out (by show _ + 1 ≤ 1000000; (try simp only [List.length_append, List.length_cons, List.length_nil]); omega) (Nat.le_of_lt HT13.out.pos)).mono ?_
    rintro en w14 ⟨rfl, hb, hk⟩
    have HT14 := hide (HT13.out.kept hk)
    have HB14 : Hid (BuiF pb pb (Lib.byteCells (bs0 ++ ((funcT 9).data.toList ++ [40]) ++ a.str 1 ++ [44, 32] ++ b.str 1 ++ [44, 32] ++ d.str 1 ++ [41])) w14) := hide hb
    have HK14 := hide (HK13.out.trans hk)
    clear hb hk n3 HB13 HT13 HK13 HN13
    go_wp2
    exact FIN.out _ _ _ rfl (by simpa only [List.append_assoc, List.cons_append, List.nil_append] using HB14.out) HK14.out (by  (try simp only [List.length_append, List.length_cons, List.length_nil]); omega)
end
theorem bin_own {op : Int} (h : binOp op) : op = 10 ∨ op = 11 ∨ (op = 3 ∨ op = 4) ∨ (op = 5 ∨ op = 6) ∨ op = 7 ∨ op = 8 := by
  unfold binOp at h
  omega
section
variable {pe pb pw : Nat} {A : Option Addr} {c : Nat} {e : List Nod}
theorem txt_all (hen : ∀ x ∈ e, x.name.size ≤ maxLen) (he3 : e.length ≤ 300) : ∀ N, TIH pe pb pw A c e N
  | 0 => fun s hs => absurd hs (Nat.not_lt_zero _)
  | N + 1 => fun s hs hg K m hat hke hm1 hm5 => by
    have IH := txt_all hen he3 N
    cases s with
    | leaf x =>
      have hx : nodAt e K = x := hat.one
      have hk := leaf_kids hg
      have hidx : K < e.length := by simp only [Tr.size] at hke; omega
      show TGo pe pb pw A c e 1 (K + 1 - 1) m (parenS 5 m (if x.op = 1 then itoa x.n else x.name.data.toList))
      rw [Nat.add_sub_cancel]
      have hf := hg.1
      rcases leaf_good hg with ⟨ho, h0, h1⟩ | ⟨ho, hn⟩
      · have hne : x.name = ByteArray.empty := by
          unfold formedL at hf
          rw [if_pos ho] at hf
          simp only [Bool.and_eq_true, decide_eq_true_eq] at hf
          exact hf.2.1.1
        rw [if_pos ho]
        obtain ⟨op, n, nm, ks⟩ := x
        simp only at ho hk hne h0 h1
        subst ho hk hne
        exact txt_num IH h0 h1 hx hidx hm1 hm5 hen he3
      · have hn0 : x.n = 0 := by
          unfold formedL at hf
          rw [if_neg (by omega), if_pos ho] at hf
          simp only [Bool.and_eq_true, decide_eq_true_eq] at hf
          exact hf.2.1.1
        have h24 : x.name.size ≤ 24 := by
          unfold nameB at hn
          simp only [Bool.and_eq_true, decide_eq_true_eq] at hn
          have := hn.1.1.2
          omega
        rw [if_neg (by omega)]
        obtain ⟨op, n, nm, ks⟩ := x
        simp only at ho hk hn0 h24
        subst ho hk hn0
        exact txt_name IH h24 hx hidx hm1 hm5 hen he3
    | un a =>
      have hn := AtL.right hat
      rw [Tr.flat_len] at hn
      have hn := hn.one
      simp only [Tr.size] at hs hke
      have hp := a.size_pos
      show TGo pe pb pw A c e (a.size + 1) (K + (a.size + 1) - 1) m (parenS 4 m (45 :: a.str 4))
      rw [show K + (a.size + 1) - 1 = K + a.size from by omega]
      exact txt_un IH a (by omega) hg hat.left (by omega) (by omega) hn (by omega) hm1 hm5 hen he3
    | bin op a b =>
      have hn := AtL.right hat
      rw [List.length_append, Tr.flat_len, Tr.flat_len, ← Nat.add_assoc] at hn
      have hn := hn.one
      have hl := hat.left.left
      have hr := hat.left.right
      rw [Tr.flat_len] at hr
      simp only [Tr.size] at hs hke
      have hp := a.size_pos
      have hp' := b.size_pos
      obtain ⟨hb, hga, hgb⟩ := hg
      show TGo pe pb pw A c e (a.size + b.size + 1) (K + (a.size + b.size + 1) - 1) m (parenS (ownB op) m (if ownB op = 5 then (funcT op).data.toList ++ (40 :: (a.str 1 ++ (44 :: 32 :: (b.str 1 ++ [41]))))
        else if ownB op = 1 then a.str 2 ++ (32 :: ((infixT op).data.toList ++ (32 :: b.str 2))) else a.str (ownB op) ++ (32 :: ((infixT op).data.toList ++ (32 :: b.str (ownB op + 1))))))
      rw [show K + (a.size + b.size + 1) - 1 = K + a.size + b.size from by omega]
      rcases bin_own hb with h | h | h | h | h
      · have ho : ownB op = 1 := by unfold ownB; rw [if_pos (Or.inl h)]
        rw [ho]
        exact txt_weak IH (Or.inl h) a (by omega) hga hl (by omega) (by omega) b (by omega) hgb hr (by omega) (by omega) hn (by omega) hm1 hm5 hen he3
      · have ho : ownB op = 1 := by unfold ownB; rw [if_pos (Or.inr h)]
        rw [ho]
        exact txt_weak IH (Or.inr h) a (by omega) hga hl (by omega) (by omega) b (by omega) hgb hr (by omega) (by omega) hn (by omega) hm1 hm5 hen he3
      · have ho : ownB op = 2 := by unfold ownB; rw [if_neg (by omega), if_pos h]
        rw [ho]
        exact txt_sum IH h a (by omega) hga hl (by omega) (by omega) b (by omega) hgb hr (by omega) (by omega) hn (by omega) hm1 hm5 hen he3
      · have ho : ownB op = 3 := by unfold ownB; rw [if_neg (by omega), if_neg (by omega), if_pos h]
        rw [ho]
        exact txt_prod IH h a (by omega) hga hl (by omega) (by omega) b (by omega) hgb hr (by omega) (by omega) hn (by omega) hm1 hm5 hen he3
      · have ho : ownB op = 5 := by unfold ownB; rw [if_neg (by omega), if_neg (by omega), if_neg (by omega)]
        rw [ho]
        exact txt_fun2 IH h a (by omega) hga hl (by omega) (by omega) b (by omega) hgb hr (by omega) (by omega) hn (by omega) hm1 hm5 hen he3
    | cond a b d =>
      have hn := AtL.right hat
      rw [List.length_append, List.length_append, Tr.flat_len, Tr.flat_len, Tr.flat_len, ← Nat.add_assoc, ← Nat.add_assoc] at hn
      have hn := hn.one
      have hl := hat.left.left.left
      have hr := hat.left.left.right
      rw [Tr.flat_len] at hr
      have hd := hat.left.right
      rw [List.length_append, Tr.flat_len, Tr.flat_len, ← Nat.add_assoc] at hd
      simp only [Tr.size] at hs hke
      have hp := a.size_pos
      have hp' := b.size_pos
      have hp'' := d.size_pos
      obtain ⟨hga, hgb, hgd⟩ := hg
      show TGo pe pb pw A c e (a.size + b.size + d.size + 1) (K + (a.size + b.size + d.size + 1) - 1) m (parenS 5 m ((funcT 9).data.toList ++ (40 :: (a.str 1 ++ (44 :: 32 :: (b.str 1 ++ (44 :: 32 :: (d.str 1 ++ [41]))))))))
      rw [show K + (a.size + b.size + d.size + 1) - 1 = K + a.size + b.size + d.size from by omega]
      exact txt_fun3 IH a (by omega) hga hl (by omega) (by omega) b (by omega) hgb hr (by omega) (by omega) d (by omega) hgd hd (by omega) (by omega) hn (by omega) hm1 hm5 hen he3
end
theorem Pow.pos {w : World} (h : Pow w) : 0 < w.heap.size := by
  have h : Lib.TabIs Tryz.prog w pow10Name .u64 Lib.pow10Tab := h
  unfold Lib.TabIs World.var? at h
  rw [pow_glob, Option.bind_some] at h
  rcases Nat.eq_zero_or_pos w.heap.size with hz | hz
  · rw [Array.getElem?_eq_none (by omega)] at h
    cases h
  · exact hz
set_option maxHeartbeats 2000000 in
set_option maxRecDepth 100000 in
/-- expr.Text of an expression that is not valid. -/
theorem text_none (A : Option Addr) (c : Nat) (e : List Nod) (w : World) (h : ExprAt w w.heap.size A e) (hn : ∀ x ∈ e, x.name.size ≤ maxLen) (hm : e.length ≤ maxLen) (hv : validL e = false) :
    Calls Tryz.prog 15 #[.slice A e.length c] w fun en w' => en = .returned (.tuple #[.string ⟨#[]⟩, .int .i64 1]) ∧ Below w.heap.size w w' := by
  have hb1 : Below w.heap.size w (w.alloc (Obj.cells #[.slice A e.length c] 23)) := (Below.refl _ _).alloc (Nat.le_refl _) _
  have h1 := h.next hb1
  have HB := hide hb1
  unfold maxLen at hm
  have HM : Hid (e.length ≤ maxLen) := hm
  have HN := hide hn
  clear hb1 hn
  go_enter Tryz.func15, Tryz.ntmps15
  go_wp2_with fail
  refine (valid_any A c e _ h1 HN.out HM.out).mono ?_
  rintro en w2 ⟨rfl, hb2⟩
  have HB2 := hide (HB.out.trans (hb2.mono HB.out.size))
  clear hb2
  rw [hv]
  go_wp2
  go_ret2
  exact ⟨rfl, HB2.out⟩
set_option maxHeartbeats 2000000 in
set_option maxRecDepth 100000 in
/-- expr.Text of a valid expression. -/
theorem text_valid (A : Option Addr) (c : Nat) (e : List Nod) (w : World) (h : ExprAt w w.heap.size A e) (hn : ∀ x ∈ e, x.name.size ≤ maxLen) (ht : Pow w) {t : Tr} (hg : t.good) (he : e = t.flat 0) (hv : validL e = true) :
    Calls Tryz.prog 15 #[.slice A e.length c] w fun en w' => en = .returned (.tuple #[.string ⟨(t.str 1).toArray⟩, .int .i64 0]) ∧ Below w.heap.size w w' := by
  have hmf : ∀ (fn : Fn) (first cap : Array Value) (w : World), (Instr.makeFunc fn first cap).run Tryz.prog w = .ok (.func fn first cap) w := fun _ _ _ _ => rfl
  have hb1 : Below w.heap.size w (w.alloc (Obj.cells #[.slice A e.length c] 23)) := (Below.refl _ _).alloc (Nat.le_refl _) _
  have hB1 : Blk (w.alloc (Obj.cells #[.slice A e.length c] 23)) w.heap.size 23 #[.slice A e.length c] := Blk.new _ _ _
  have h1 := h.next hb1
  have HB := hide hb1
  have HB1 := hide hB1
  have hlen : e.length = t.size := by rw [he, Tr.flat_len]
  have hsz : t.size ≤ 300 := by
    have := tree_valid_iff hg
    rw [← he, hv] at this
    simp only [Bool.true_eq, Bool.and_eq_true, decide_eq_true_eq] at this
    exact this.1
  have hp1 := t.size_pos
  have HM : Hid (e.length ≤ maxLen) := hide (by unfold maxLen; omega)
  have he1 : 1 ≤ (e.length : Int) := by omega
  have he2 : (e.length : Int) ≤ 300 := by omega
  have HN := hide hn
  have HE := hide he
  have HL := hide hlen
  have HT := hide ht
  have H := hide h
  clear hb1 hn he hlen ht h
  have H1 := hide h1
  clear h1 hB1
  go_enter Tryz.func15, Tryz.ntmps15
  go_wp2_with fail
  refine (valid_any A c e _ H1.out HN.out HM.out).mono ?_
  rintro en w2 ⟨rfl, hb2⟩
  have HB2 := hide (HB.out.trans (hb2.mono HB.out.size))
  have HC2 := hide (HB1.out.below hb2 HB1.out.lt)
  have hlt2 := HC2.out.lt
  have c2 := HC2.out.cell 0
  clear hb2 HB HB1 H1
  rw [hv]
  have H2 := hide ((H.out.next (HB2.out)))
  have key : ∀ F : Value, F = .func (.func 50) #[] #[.pointer (some ⟨w.heap.size, 0, none⟩), .pointer (some ⟨w2.heap.size, 0, none⟩), .pointer (some ⟨w2.heap.size + 1, 0, none⟩)] →
      TEnv ((w2.alloc (Obj.cells #[Value.pointer none, Value.slice none 0 0] 92)).alloc (Obj.cells #[F] 93)) w.heap.size w2.heap.size (w2.heap.size + 1) A c e ∧
      BuiF w2.heap.size w2.heap.size (Lib.byteCells []) ((w2.alloc (Obj.cells #[Value.pointer none, Value.slice none 0 0] 92)).alloc (Obj.cells #[F] 93)) ∧
      Below w2.heap.size w2 ((w2.alloc (Obj.cells #[Value.pointer none, Value.slice none 0 0] 92)).alloc (Obj.cells #[F] 93)) := by
    rintro F rfl
    have b34 : ∀ F : Value, Below w2.heap.size w2 ((w2.alloc (Obj.cells #[Value.pointer none, Value.slice none 0 0] 92)).alloc (Obj.cells #[F] 93)) := fun F =>
      ((Below.refl _ _).alloc (Nat.le_refl _) _).alloc (by simp) _
    have n4 := fun F => Blk.new (w2.alloc (Obj.cells #[Value.pointer none, Value.slice none 0 0] 92)) 93 #[F]
    simp only [World.size_alloc] at n4
    have b0 : BuiF w2.heap.size w2.heap.size (Lib.byteCells []) (w2.alloc (Obj.cells #[Value.pointer none, Value.slice none 0 0] 92)) := Lib.IsBuilderF.of (Lib.fresh_isBuilder 92 5 w2)
    exact ⟨⟨HC2.out.below (b34 _) hlt2, n4 _, H2.out.below (b34 _), (HT.out.below HB2.out HT.out.pos).below (b34 _) (Nat.lt_of_le_of_lt (Nat.zero_le _) hlt2), hlt2, Nat.lt_succ_self _⟩, b0.alloc _, b34 _⟩
  have KEY := hide key
  clear key H HC2
  go_wp2_with fail
  obtain ⟨k1, k2, k3⟩ := KEY.out _ rfl
  have K3 := hide (HB2.out.trans (k3.mono HB2.out.size))
  have hat : AtL e 0 (t.flat 0) := by
    have := HE.out
    subst this
    exact atL_self _
  have hq : (e.length : Int) - 1 = ((0 + t.size - 1 : Nat) : Int) := by
    have := HL.out
    omega
  rw [hq]
  have hcall := txt_all (pe := w.heap.size) (pb := w2.heap.size) (pw := w2.heap.size + 1) (A := A) (c := c) (e := e) HN.out (by omega) (t.size + 1) t (Nat.lt_succ_self _) hg 0 1 hat (by have := HL.out; omega) (Nat.le_refl _) (by omega) [] _ (by simp only [List.length_nil]; omega) k1 k2
  refine hcall.mono ?_
  rintro en w5 ⟨rfl, hb, hk⟩
  have HB5 := hide hb
  have HK5 := hide (K3.out.trans (hk.bel.mono HB2.out.size))
  have hps := hk.bel.size
  have hlt5 : w2.heap.size ≤ w5.heap.size := by simp at hps; omega
  clear hb hk k1 k2 k3 hcall KEY hps hat hq
  go_wp2_with fail
  refine (Tryz.Builder_String_any_k w2.heap.size w2.heap.size (t.str 1) w5 HB5.out hlt5).mono ?_
  rintro en w6 ⟨rfl, _, hb6, _⟩
  have HB6 := hide (HK5.out.trans (hb6.mono HB2.out.size))
  clear hb6
  go_wp2
  go_ret2
  exact ⟨rfl, HB6.out⟩
end Go.Proofs.YtkofmiegnfgbjaaGreatDoor

