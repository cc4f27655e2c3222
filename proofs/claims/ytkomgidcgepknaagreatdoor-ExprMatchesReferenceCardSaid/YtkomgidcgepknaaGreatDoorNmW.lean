/-
  expr.Names: the walk.
-/
import Derived.Test.YtkomgidcgepknaaGreatDoorExpG
import Derived.Test.YtkomgidcgepknaaGreatDoorExpL
import Derived.Test.YtkomgidcgepknaaGreatDoorApp
import Derived.Test.YtkomgidcgepknaaGreatDoorNamP
import Derived.Test.YtkomgidcgepknaaGreatDoorShelf
import Derived.Lib.OwnBridge
import Derived.Sort.OwnSorted
set_option linter.unusedVariables false
set_option linter.unusedSimpArgs false
namespace Go.Proofs.YtkomgidcgepknaaGreatDoor
open Go.RowKit Go.Deep Go.Maps
open Go.Lib (compactUpTo)

theorem str_info : (Tryz.prog.info? 9).map (fun i => (i.zero, i.size, i.bytes)) = some (some (.string ⟨#[]⟩), 1, 16) := by kernel_rfl
theorem enc_name (s : ByteArray) : encStr s.data.toList = .string s := by simp [encStr]
theorem raw_step {e : List Nod} {k : Nat} (hk : k < e.length) : namesRaw (e.take (k + 1)) = namesRaw (e.take k) ++ (if (nodAt e k).op = 2 then [(nodAt e k).name.data.toList] else []) := by
  have hg : e[k] = nodAt e k := by
    have := nodAt_get hk
    rw [List.getElem?_eq_getElem hk] at this
    exact Option.some.inj this
  unfold namesRaw
  rw [List.take_succ_eq_append_getElem hk, List.filter_append, List.map_append, hg]
  congr 1
  by_cases h : (nodAt e k).op = 2
  · simp [h]
  · simp [h]
theorem raw_len (e : List Nod) : (namesRaw e).length ≤ e.length := by
  unfold namesRaw
  rw [List.length_map]
  exact List.length_filter_le _ _
theorem compact_le (d : Array (List UInt8)) : ∀ m, (compactUpTo d m).length ≤ m
  | 0 => by simp [compactUpTo]
  | m + 1 => by
    rw [Lib.compactUpTo_succ, List.length_append]
    have := compact_le d m
    split
    · simp; omega
    · simp; omega
/-- What expr.Names leaves. -/
def NamesPost (e : List Nod) (w : World) (en : Ending) (w' : World) : Prop :=
  ∃ A c, en = .returned (.tuple #[.slice A (namesL e).length c, .int .i64 0]) ∧ Reads w' w'.heap.size 1 A (namesL e).length ((namesL e).map encStr) ∧ Below w.heap.size w w'
set_option maxHeartbeats 2000000 in
set_option maxRecDepth 100000 in
theorem names_none (A : Option Addr) (c : Nat) (e : List Nod) (w : World) (h : ExprAt w w.heap.size A e) (hn : ∀ x ∈ e, x.name.size ≤ maxLen) (hm : e.length ≤ maxLen) (hv : validL e = false) :
    Calls Tryz.prog 31 #[.slice A e.length c] w fun en w' => en = .returned (.tuple #[.slice none 0 0, .int .i64 1]) ∧ Below w.heap.size w w' := by
  have HM := hide hm
  unfold maxLen at hm
  go_enter Tryz.func31, Tryz.ntmps31
  go_wp2_with fail
  refine (valid_any A c e w h hn HM.out).mono ?_
  rintro en w2 ⟨rfl, hb2⟩
  rw [hv]
  go_wp2
  go_ret2
  exact ⟨rfl, hb2⟩
set_option maxHeartbeats 4000000 in
set_option maxRecDepth 100000 in
theorem names_any (A : Option Addr) (c : Nat) (e : List Nod) (w : World) (h : ExprAt w w.heap.size A e) (hn : ∀ x ∈ e, x.name.size ≤ maxLen) (hv : validL e = true) :
    Calls Tryz.prog 31 #[.slice A e.length c] w (NamesPost e w) := by
  have h300 : e.length ≤ 300 := by
    obtain ⟨t, hg, hat, hts, _⟩ := valid_tree hv
    rw [hat, Tr.flat_len]
    exact hts
  have HM : Hid (e.length ≤ maxLen) := hide (by unfold maxLen; omega)
  have HN := hide hn
  have H := hide h
  have he2 : (e.length : Int) ≤ 300 := by omega
  clear hn h
  go_enter Tryz.func31, Tryz.ntmps31
  go_wp2_with fail
  refine (valid_any A c e w H.out HN.out HM.out).mono ?_
  rintro en w2 ⟨rfl, hb2⟩
  have HB2 := hide hb2
  have H2 := hide (H.out.next hb2)
  clear hb2
  rw [hv]
  clear hv
  go_wp2
  go_loopw [4, 12] (fun t4 t12 wr => ∃ (k : Nat) (A4 : Option Addr) (c4 : Nat), k ≤ e.length ∧ t12 = .int .i64 k ∧ t4 = .slice A4 (namesRaw (e.take k)).length c4 ∧ Own wr w2.heap.size 9 1 A4 (namesRaw (e.take k)).length c4 ((namesRaw (e.take k)).map encStr) ∧ Below w2.heap.size w2 wr) (fun _ t12 _ => e.length - (intOf t12).toNat)
  case atStart => exact ⟨0, none, 0, Nat.zero_le _, rfl, rfl, Own.nil _ _ _ _, Below.refl _ _⟩
  case round =>
    obtain ⟨k, A4, c4, hk, rfl, rfl, hown, hbr⟩ := hrel
    have HOW := hide hown
    have HBR := hide hbr
    clear hown hbr
    obtain ⟨wo, hwo⟩ : ∃ wo : World, wo = wr := ⟨_, rfl⟩
    subst hwo
    by_cases hlt : k < e.length
    · obtain ⟨be, offe, K, kc, rfl, hbe, x0, x1, x2, x3, hKd⟩ := (H2.out.below HBR.out).at_ hlt
      have hxn : (nodAt e k).name.size ≤ maxLen := HN.out _ (List.mem_of_getElem? (nodAt_get hlt))
      have HST := hide (raw_step hlt)
      have hrl := raw_len (e.take k)
      rw [List.length_take] at hrl
      generalize nodAt e k = x at x0 x1 x2 x3 hKd hxn HST
      clear hKd
      have hB5 : Blk (wo.alloc (Obj.cells #[.int .i64 x.op, .int .i64 x.n, .string x.name, .slice K x.kids.length kc] 56)) wo.heap.size 56 #[.int .i64 x.op, .int .i64 x.n, .string x.name, .slice K x.kids.length kc] := Blk.new _ _ _
      have hb5 : Below wo.heap.size wo (wo.alloc (Obj.cells #[.int .i64 x.op, .int .i64 x.n, .string x.name, .slice K x.kids.length kc] 56)) := (Below.refl _ _).alloc (Nat.le_refl _) _
      have HO5 := hide (HOW.out.alloc (Obj.cells #[.int .i64 x.op, .int .i64 x.n, .string x.name, .slice K x.kids.length kc] 56))
      have HBR5 := hide (HBR.out.trans (hb5.mono HBR.out.size))
      go_upto_region 7 with (fail)
      generalize wo.alloc (Obj.cells #[.int .i64 x.op, .int .i64 x.n, .string x.name, .slice K x.kids.length kc] 56) = w5 at hB5 hb5 HO5 HBR5 ⊢
      have y0 : w5.cell? ⟨wo.heap.size, 0, none⟩ = some (.int .i64 x.op) := hB5.cell 0
      have y2 : w5.cell? ⟨wo.heap.size, 2, none⟩ = some (.string x.name) := hB5.cell 2
      have hq5 := HBR5.out.size
      clear x0 x1 x2 x3 hB5 hb5 HOW HBR
      by_cases ho : x.op = 2
      · have HST2 : Hid (namesRaw (e.take (k + 1)) = namesRaw (e.take k) ++ [x.name.data.toList]) := hide (by rw [HST.out, if_pos ho])
        have hsl : (namesRaw (e.take (k + 1))).length = (namesRaw (e.take k)).length + 1 := by rw [HST2.out]; simp
        have HSL := hide hsl
        clear hsl HST
        rw [ho] at y0
        obtain ⟨nr, hnr⟩ : ∃ nr, nr = (namesRaw (e.take k)).length := ⟨_, rfl⟩
        rw [← hnr] at HO5 HSL hrl ⊢
        have hmx : nr + 1 ≤ maxLen := by unfold maxLen; omega
        have hmb : (nr + 1) * 16 ≤ 140737488355328 := by omega
        have RR : Hid (Reads (w5.alloc (Obj.cells #[.string x.name] 9)) (w5.heap.size + 1) 1 (some ⟨w5.heap.size, 0, none⟩) 1 [.string x.name]) := hide (reads_new w5 #[.string x.name] 9 1 1 rfl)
        have HOA := hide (HO5.out.alloc (Obj.cells #[.string x.name] 9))
        have HBA := hide (HBR5.out.alloc HBR5.out.size (Obj.cells #[.string x.name] 9))
        have hqa : w2.heap.size ≤ (w5.alloc (Obj.cells #[.string x.name] 9)).heap.size := HBA.out.size
        have HQA := hide hqa
        clear hqa
        have FIN : Hid (∀ A9 c9 w9, Own w9 w2.heap.size 9 1 A9 (nr + 1) c9 ((namesRaw (e.take k)).map encStr ++ [.string x.name]) → Own w9 w2.heap.size 9 1 A9 (namesRaw (e.take (k + 1))).length c9 ((namesRaw (e.take (k + 1))).map encStr)) := hide (fun A9 c9 w9 h9 => by
          rw [HSL.out, HST2.out, List.map_append]
          show Own w9 w2.heap.size _ 1 A9 (nr + 1) c9 (_ ++ [encStr x.name.data.toList])
          rw [enc_name]
          exact h9)
        clear hnr HST2
        go_wp2_with (at_builtin; refine wpList_app rfl (.tmp 19) (.tmp 22) 62 rfl w2.heap.size 9 (.string ⟨#[]⟩) 1 16 Tryz.underlying62 str_info rfl (by omega) A4 nr c4 ((namesRaw (e.take k)).map encStr) rfl HOA.out _ _ 1 _ _ rfl RR.out (by simp [Value.oneCell']) hmx hmb HQA.out ?_; intro A7 c7 w7 hown7 hbw7 _; have HO7 := hide (FIN.out _ _ _ hown7); have HB7 := hide (HBA.out.trans hbw7); clear hown7 hbw7)
        rw [← HSL.out]
        go_roundw
        case rel => exact ⟨k + 1, A7, c7, by omega, by go_num, rfl, HO7.out, HB7.out⟩
        case measure => simp [intOf]; omega
      · have HST2 : Hid (namesRaw (e.take (k + 1)) = namesRaw (e.take k)) := hide (by rw [HST.out, if_neg ho, List.append_nil])
        have d2 : decide (x.op = 2) = false := decide_eq_false ho
        have d3 : (x.op == 2) = false := beq_eq_false_iff_ne.2 ho
        go_wp2
        rw [← HST2.out] at HO5 ⊢
        go_roundw
        case rel => exact ⟨k + 1, A4, c4, by omega, by go_num, rfl, HO5.out, HBR5.out⟩
        case measure => simp [intOf]; omega
    · obtain rfl : k = e.length := by omega
      have hrl := raw_len e
      rw [List.take_length] at HOW ⊢
      have HBW := hide (HB2.out.trans (HBR.out.mono HB2.out.size))
      have d1 : decide (e.length < e.length) = false := decide_eq_false (Nat.lt_irrefl _)
      have FINE : Hid (∀ (A9 : Option Addr) (c9 : Nat) (w9 : World), Own w9 w2.heap.size 9 1 A9 (namesL e).length c9 ((namesL e).map encStr) → Below w2.heap.size w2 w9 → NamesPost e w (.returned (.tuple #[.slice A9 (namesL e).length c9, .int .i64 0])) w9) := hide (fun A9 c9 w9 h1 h2 => ⟨A9, c9, rfl, h1.reads, HB2.out.trans (h2.mono HB2.out.size)⟩)
      have hnl : namesL e = compactUpTo ((namesRaw e).mergeSort fun x y => decide (x ≤ y)).toArray (namesRaw e).length := rfl
      have hml : ((namesRaw e).mergeSort fun x y => decide (x ≤ y)).length = (namesRaw e).length := List.length_mergeSort _
      by_cases hz : namesRaw e = []
      · have hn0 : namesL e = [] := by rw [hnl, hz]; rfl
        rw [hz] at HOW ⊢
        rw [hn0] at FINE
        have HO0 : Hid (Own wo w2.heap.size 9 1 A4 0 c4 []) := HOW
        clear HOW hz hnl hml hn0
        go_wp2_with fail
        refine (Tryz.slices_Sort_string_none A4 c4 wo).mono ?_
        rintro en w' ⟨rfl, rfl⟩
        go_wp2_with fail
        refine (Tryz.slices_Compact_string_empty A4 c4 w').mono ?_
        rintro en w'' ⟨rfl, rfl⟩
        go_wp2
        go_ret2
        exact FINE.out A4 c4 _ HO0.out HBR.out
      · have hpos : (namesRaw e).length ≠ 0 := fun h0 => hz (List.eq_nil_of_length_eq_zero h0)
        obtain ⟨g, cap, hv, hg, hgl, hnc, hcm, hzl, hH⟩ := Lib.holds_of_ownsRow (enc := encStr) HOW.out (by intro h0; injection h0 with _ h0 _; exact hpos h0)
        injection hv with e1 _ e3
        subst e1 e3
        obtain ⟨cur, hcur⟩ : ∃ cur, wo.heap[g]? = some (.cells cur 9 (0, 0)) ∧ cur.size = c4 * 1 := by
          rcases HOW.out.2 with ⟨e0, _⟩ | ⟨g', cap', cur, e0, _, hgg, _, _, hs, _⟩
          · cases e0
          · injection e0 with e1 _ e3
            injection e1 with e1
            injection e1 with e1
            subst e1 e3
            exact ⟨cur, hgg, hs⟩
        obtain ⟨srt, hsrt⟩ : ∃ s, s = (namesRaw e).mergeSort fun x y => decide (x ≤ y) := ⟨_, rfl⟩
        have HSR := hide hsrt
        rw [← hsrt] at hnl hml
        obtain ⟨nr, hnr⟩ : ∃ nr, nr = (namesRaw e).length := ⟨_, rfl⟩
        have HNR := hide hnr
        have HH := hide hH
        have HC := hide hcur
        have HML := hide hml
        have HNL := hide hnl
        have hs3 : (namesRaw e).length < 4611686018427387904 := by omega
        have HS3 := hide hs3
        have HNC := hide hnc
        have HCM := hide hcm
        rw [← hnr] at hrl ⊢
        clear hsrt hnr hH hcur hml hnl hs3 hnc hcm hzl hz
        go_wp2_with fail
        rw [HNR.out]
        refine (Tryz.slices_Sort_string g 0 c4 (namesRaw e) wo HH.out hgl HS3.out).mono ?_
        rintro en w6 ⟨rfl, n6, os6, hw6⟩
        rw [← HSR.out] at hw6
        have ho6 : w6.ownsRow w2.heap.size 9 1 (.slice (some ⟨g, 0, none⟩) (namesRaw e).length c4) (namesRaw e).length (srt.map encStr) := by
          rw [hw6]
          exact ownsRow_sorted HML.out hg HC.out.1 HNC.out HCM.out HC.out.2
        have hb6 : Below w2.heap.size w2 w6 := by
          rw [hw6]
          exact HBR.out.grown (grownBy_sorted _) HBR.out.size (fun k hk => by injection hk with hk; omega)
        have HO6 := hide ho6
        have HB6 := hide hb6
        obtain ⟨g', cap', hv', hg', hgl', hnc', hcm', hzl', hH'⟩ := Lib.holds_of_ownsRow (enc := encStr) ho6 (by intro h0; injection h0 with h0; cases h0)
        injection hv' with e1 _ e3
        injection e1 with e1
        injection e1 with e1
        subst e1 e3
        have HH6 := hide hH'
        have hsz : srt.toArray.size = (namesRaw e).length := by rw [List.size_toArray]; exact HML.out
        have HSZ := hide hsz
        clear hw6 ho6 hb6 hH' hsz hnc' hcm' hzl'
        rw [← HNR.out]
        go_wp2_with fail
        rw [HNR.out, ← HSZ.out]
        refine (Tryz.slices_Compact_string_arr g 0 c4 srt.toArray w6 HH6.out (by rw [HSZ.out]; have := HS3.out; omega) (by rw [HSZ.out]; exact HNC.out)).mono ?_
        rintro en w7 ⟨rfl, q7, hw7⟩
        rw [HSZ.out, ← HNL.out] at hw7 ⊢
        have hkl : (namesL e).length ≤ (namesRaw e).length := by
          rw [HNL.out]
          exact compact_le _ _
        have ho7 : Own w7 w2.heap.size 9 1 (some ⟨g, 0, none⟩) (namesL e).length c4 ((namesL e).map encStr) := by
          rw [hw7]
          have := Lib.ownsRow_putRow (enc := encStr) (q := q7) (k := (namesL e).length) (ys := namesL e ++ List.replicate ((namesRaw e).length - (namesL e).length) []) HO6.out (by rw [List.length_append, List.length_replicate]; omega) hkl
          rw [List.take_left] at this
          exact this
        have hb7 : Below w2.heap.size w2 w7 := by
          rw [hw7]
          exact Lib.below_putRow HB6.out hg
        have HO7 := hide ho7
        have HB7 := hide hb7
        clear hw7 ho7 hb7 hkl
        go_wp2
        go_ret2
        exact FINE.out _ c4 _ HO7.out HB7.out
end Go.Proofs.YtkomgidcgepknaaGreatDoor
