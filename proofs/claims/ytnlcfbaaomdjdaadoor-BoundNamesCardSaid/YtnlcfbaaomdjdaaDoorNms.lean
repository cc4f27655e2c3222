/-
  Chapter 22, BoundNames: the walk.
-/
import Derived.Test.YtnlcfbaaomdjdaaDoorNmsP
import Derived.Test.YtnlcfbaaomdjdaaDoorNar
import Derived.Test.YtnlcfbaaomdjdaaDoorApp
set_option linter.unusedVariables false
set_option linter.unusedSimpArgs false
namespace Go.Proofs.YtnlcfbaaomdjdaaDoor
open Go.RowKit Go.Deep Go.Maps

theorem rev_take {l : List Rng} {k : Nat} (h : k < l.length) : l.reverse.take (k + 1) = l.reverse.take k ++ [rngAt l (l.length - 1 - k)] := by
  have h2 : k < l.reverse.length := by rw [List.length_reverse]; exact h
  rw [List.take_succ_eq_append_getElem h2, List.getElem_reverse]
  congr 2
  have := rngAt_get (rs := l) (i := l.length - 1 - k) (by omega)
  rw [List.getElem?_eq_getElem (by omega)] at this
  exact Option.some.inj this
def namedE (e : List Nod) (t : ByteArray) : Bool := e.any fun x => decide (x.name = t)
theorem namedE_not {e : List Nod} {t : ByteArray} (h : namedE e t = false) : ∀ x ∈ e, x.name ≠ t := by
  intro x hx hn
  unfold namedE at h
  rw [List.any_eq_false] at h
  exact h x hx (decide_eq_true hn)

set_option maxHeartbeats 8000000 in
set_option maxRecDepth 20000 in
theorem names_any (A : Option Addr) (c : Nat) (e : List Nod) (A2 : Option Addr) (n2 c2 : Nat) (l : List Rng) (r : Rng) (w : World)
    (he : ExprAt w w.heap.size A e) (hem : e.length ≤ maxLen) (hl : RRg w w.heap.size A2 n2 l) (hln : n2 * 32 ≤ 140737488351232)
    (hen : ∀ x ∈ e, x.name.size ≤ maxLen) (hrn : ∀ r ∈ l, r.name.size ≤ maxLen) (hrr : r.name.size ≤ maxLen) (hkn : ∀ x ∈ e, x.kids.length ≤ maxLen) :
    Calls Tryd.prog 6 #[.slice A e.length c, .slice A2 n2 c2, .agg #[.string r.name, .int .i64 r.low, .int .i64 r.high]] w fun en w' => en = .returned (.bool true) ∧ Below w.heap.size w w' := by
  have HE := hide he
  have HL := hide hl
  have HEN := hide hen
  have HRN := hide hrn
  have HRR := hide hrr
  have HKN := hide hkn
  have HLN := hide hl.len
  have HEM := hide hem
  have HLM : Hid (n2 ≤ maxLen) := hide (by unfold maxLen; omega)
  have HLB := hide hln
  have hn2 : n2 ≤ 4398046510976 := by omega
  unfold maxLen at hem
  have hB0 : Blk (w.alloc (Obj.cells #[.string r.name, .int .i64 r.low, .int .i64 r.high] 34)) w.heap.size 34 #[.string r.name, .int .i64 r.low, .int .i64 r.high] := Blk.new _ _ _
  have hb0 : Below w.heap.size w (w.alloc (Obj.cells #[.string r.name, .int .i64 r.low, .int .i64 r.high] 34)) := (Below.refl _ _).alloc (Nat.le_refl _) _
  clear he hl hen hrn hkn hrr hln
  go_enter Tryd.func6, Tryd.ntmps6
  go_upto_region 1 with (fail)
  generalize w.alloc (Obj.cells #[.string r.name, .int .i64 r.low, .int .i64 r.high] 34) = w0 at hB0 hb0 ⊢
  go_wp2_with fail
  refine (head_any w0).mono ?_
  rintro en w1 ⟨rfl, hb1⟩
  have hB1 := hB0.below hb1 hB0.lt
  have hg := hB1.lt
  have HB1 := hide (hb0.trans (hb1.mono hb0.size))
  have HE1 := hide (HE.out.next HB1.out)
  have HL1 := hide (HL.out.next HB1.out)
  have HK1 := hide hB1
  have y0 : w1.cell? ⟨w.heap.size, 0, none⟩ = some (.string r.name) := hB1.cell 0
  have y1 : w1.cell? ⟨w.heap.size, 1, none⟩ = some (.int .i64 r.low) := hB1.cell 1
  have y2 : w1.cell? ⟨w.heap.size, 2, none⟩ = some (.int .i64 r.high) := hB1.cell 2
  clear hb1 hB0 hb0 hB1
  go_upto_region 3 with (fail)
  have HO3 := hide (Own.of_lit (base := w1.heap.size) (e := 34) (size := 3) w1 #[.string r.name, .int .i64 r.low, .int .i64 r.high] 1 (Nat.le_refl _) (by simp [maxLen]) rfl)
  have HB3 : Hid (Below w1.heap.size w1 (w1.alloc (Obj.cells #[.string r.name, .int .i64 r.low, .int .i64 r.high] 34))) := hide ((Below.refl _ _).alloc (Nat.le_refl _) _)
  generalize w1.alloc (Obj.cells #[.string r.name, .int .i64 r.low, .int .i64 r.high] 34) = w3 at HO3 HB3 ⊢
  clear y0 y1 y2
  go_wp2
  go_loopw [8, 9] (fun v i wr => ∃ (q : Nat) (A4 : Option Addr) (c4 : Nat), q ≤ n2 ∧ i = .int .i64 ((q : Int) - 1) ∧ v = .slice A4 (n2 - q + 1) c4 ∧ Own wr w1.heap.size 34 3 A4 (n2 - q + 1) c4 (cellsR (r :: l.reverse.take (n2 - q))) ∧ Below w1.heap.size w1 wr) (fun _ i _ => (intOf i + 1).toNat)
  case atStart => exact ⟨n2, _, _, Nat.le_refl _, by go_num, by rw [Nat.sub_self], by rw [Nat.sub_self]; exact HO3.out, HB3.out⟩
  case round =>
    obtain ⟨q, A4, c4, hq, rfl, rfl, hown, hbr⟩ := hrel
    have HOW := hide hown
    have HBR := hide hbr
    clear hown hbr HO3 HB3
    by_cases hq0 : q = 0
    · subst hq0
      rw [Nat.sub_zero] at HOW ⊢
      have hz : decide ((0 : Int) ≤ ((0 : Nat) : Int) - 1) = false := by decide
      have hz2 : (((0 : Nat) : Int) - 1) = -1 := by decide
      rw [hz2]
      clear hz hz2
      have htk : l.reverse.take n2 = l.reverse := List.take_of_length_le (by rw [List.length_reverse, HLN.out]; exact Nat.le_refl _)
      rw [htk] at HOW
      have HE4 := hide ((HE1.out.below HBR.out).more HBR.out.size)
      have HL4 := hide ((HL1.out.below HBR.out).more HBR.out.size)
      have HB4 := hide (HB1.out.trans (HBR.out.mono HB1.out.size))
      have HK4 := hide (HK1.out.below HBR.out hg)
      have HR4 : Hid (RRg wr wr.heap.size A4 (n2 + 1) (r :: l.reverse)) := hide (Own.reads HOW.out)
      have HRN4 : Hid (∀ x ∈ r :: l.reverse, x.name.size ≤ maxLen) := hide (fun x hx => by
        rcases List.mem_cons.1 hx with rfl | h
        · exact HRR.out
        · exact HRN.out x (List.mem_reverse.1 h))
      clear htk HOW HBR HE1 HL1 HB1 HK1
      go_wp2_with fail
      refine (few_any A c e A2 n2 c2 l wr HE4.out HEM.out HL4.out HLM.out HEN.out HRN.out HKN.out).mono ?_
      rintro en w5 ⟨rfl, rfl⟩
      cases hfew : fewL e l
      · clear hfew
        go_wp2
        go_ret
        exact ⟨rfl, HB4.out⟩
      · clear hfew
        go_wp2_with fail
        refine (refValid_any A4 (n2 + 1) c4 _ wr HR4.out (by unfold maxLen; omega) HRN4.out).mono ?_
        rintro en w5 ⟨rfl, hb5⟩
        have HB5 := hide (HB4.out.trans (hb5.mono HB4.out.size))
        have HE5 := hide (HE4.out.next hb5)
        have HL5 := hide (HL4.out.next hb5)
        have HR5 := hide (HR4.out.next hb5)
        have HK5 := hide (HK4.out.below hb5 HK4.out.lt)
        clear hb5 HB4 HE4 HL4 HR4 HK4
        cases hval : validRs (r :: l.reverse)
        · clear hval
          go_wp2
          go_ret
          exact ⟨rfl, HB5.out⟩
        · have HVL := hide hval
          clear hval
          go_wp2
          go_loopw [10] (fun i wr => ∃ k : Nat, k ≤ e.length ∧ i = .int .i64 k ∧ (∀ j, j < k → (nodAt e j).name ≠ r.name) ∧ ∃ m, wr = w5.drewN m) (fun i _ => e.length - (intOf i).toNat)
          case atStart => exact ⟨0, Nat.zero_le _, rfl, fun j h => absurd h (by omega), 0, rfl⟩
          case round =>
            obtain ⟨k, hk, rfl, hno, m, hwm⟩ := hrel
            have HNO := hide hno
            have HW := hide hwm
            have HE6 := hide (show ExprAt wr wr.heap.size A e by rw [hwm]; exact HE5.out)
            have HL6 := hide (show RRg wr wr.heap.size A2 n2 l by rw [hwm]; exact HL5.out)
            have HR6 := hide (show RRg wr wr.heap.size A4 (n2 + 1) (r :: l.reverse) by rw [hwm]; exact HR5.out)
            have HB6 := hide (show Below w.heap.size w wr by rw [hwm]; exact below_drewN HB5.out m)
            have HK6 := hide (show Blk wr w.heap.size 34 #[.string r.name, .int .i64 r.low, .int .i64 r.high] by rw [hwm]; exact HK5.out)
            clear hwm hno
            by_cases hlt : k < e.length
            · obtain ⟨b, off, K, kc, rfl, hb, -, -, x2, -, -⟩ := HE6.out.at_ hlt
              have z0 : wr.cell? ⟨w.heap.size, 0, none⟩ = some (.string r.name) := HK6.out.cell 0
              have HNX : Hid ((nodAt e k).name ≠ r.name → ∀ j, j < k + 1 → (nodAt e j).name ≠ r.name) := hide (fun h j hj => by
                by_cases hjk : j < k
                · exact HNO.out j hjk
                · obtain rfl : j = k := by omega
                  exact h)
              generalize nodAt e k = x at x2 HNX
              by_cases hn : x.name = r.name
              · rw [hn] at x2
                go_upto_region 12 with (fail)
                go_quiet (fail)
                go_wp2
                go_ret
                exact ⟨rfl, below_drewN HB6.out nq⟩
              · have hn' := bytes_ne hn
                go_upto_region 12 with (fail)
                go_quiet (fail)
                go_wp2
                go_roundw
                case rel => exact ⟨k + 1, by omega, by go_num, HNX.out hn, m + nq, by rw [HW.out, World.drewN_drewN]⟩
                case measure => simp [intOf]; omega
            · obtain rfl : k = e.length := by omega
              have HEQ := hide (names_plain (e := e) HVL.out (fun x hx => by
                obtain ⟨i, hi, rfl⟩ := List.getElem_of_mem hx
                rw [nodAt_get' hi]
                exact HNO.out i hi))
              go_wp2_with fail
              refine (bounds_any A c e A2 n2 c2 l wr HE6.out HEN.out HEM.out HL6.out HLM.out HRN.out).mono ?_
              rintro en w7 ⟨rfl, hb7⟩
              have HB7 := hide (HB6.out.trans (hb7.mono HB6.out.size))
              have HE7 := hide (HE6.out.next hb7)
              have HR7 := hide (HR6.out.next hb7)
              clear hb7 HB6 HE6 HR6 HL6
              go_wp2_with fail
              refine (bounds_any A c e A4 (n2 + 1) c4 (r :: l.reverse) w7 HE7.out HEN.out HEM.out HR7.out (by unfold maxLen; omega) HRN4.out).mono ?_
              rintro en w8 ⟨rfl, hb8⟩
              have HB8 := hide (HB7.out.trans (hb8.mono HB7.out.size))
              clear hb8
              rw [HEQ.out]
              obtain ⟨lo, hi, err⟩ := boundsL e l
              dsimp only
              go_wp2
              go_ret
              exact ⟨rfl, HB8.out⟩
    · obtain ⟨p, rfl⟩ : ∃ p, q = p + 1 := ⟨q - 1, by omega⟩
      have hi1 : (((p + 1 : Nat) : Int) - 1) = (p : Int) := by omega
      rw [hi1]
      obtain ⟨b, off, rfl, hb, g0, g1, g2⟩ := (HL1.out.below HBR.out).at_ (i := p) (by omega)
      have HTK := hide (rev_take (l := l) (k := n2 - (p + 1)) (by rw [HLN.out]; omega))
      rw [HLN.out, show n2 - 1 - (n2 - (p + 1)) = p from by omega, show n2 - (p + 1) + 1 = n2 - p from by omega] at HTK
      generalize rngAt l p = x at g0 g1 g2 HTK
      obtain ⟨t, ht⟩ : ∃ t, t = n2 - (p + 1) + 1 := ⟨_, rfl⟩
      rw [← ht] at HOW ⊢
      have ht2 : t ≤ n2 := by omega
      have ht3 : n2 - p + 1 = t + 1 := by omega
      have ip : p < n2 := by omega
      clear hi1 ht
      go_upto_region 5 with ((
        at_builtin
        refine wpList_app rfl (.tmp 27) (.tmp 32) _ rfl w1.heap.size 34 _ 3 32 Tryd.underlying24 rng_info rfl (by omega) A4 t c4 _ rfl (HOW.out.alloc _) (wr.heap.size + 1) (some ⟨wr.heap.size, 0, none⟩) 1 1 (cellsR [x]) rfl (reads_new wr #[.string x.name, .int .i64 x.low, .int .i64 x.high] 34 3 1 rfl) (cellsR_one _) (by unfold maxLen; omega) (by omega) (by have := HBR.out.size; rw [World.size_alloc]; omega) ?_
        intro A7 c7 w7 hown7 hbw7 _
        rw [← cellsR_append, List.cons_append, ← HTK.out] at hown7
        have HO7 := hide hown7
        have HB7 := hide ((HBR.out.alloc HBR.out.size _).trans hbw7)
        clear hown7 hbw7))
      go_wp2
      go_roundw
      case rel => exact ⟨p, A7, c7, Nat.le_of_lt ip, by go_num, by rw [ht3], by rw [ht3]; exact HO7.out, HB7.out⟩
      case measure => simp [intOf]
theorem names_walk (A : Option Addr) (c : Nat) (e : List Nod) (A2 : Option Addr) (n2 c2 : Nat) (l : List Rng) (r : Rng) (w : World) (w0 : ExprAt w w.heap.size A e) (m0 : e.length ≤ maxLen)
    (b0 : ∀ x ∈ e, x.name.size ≤ maxLen ∧ x.kids.length ≤ maxLen ∧ (Lit.int .i64 x.op).wf = true ∧ (Lit.int .i64 x.n).wf = true ∧ ∀ k ∈ x.kids, (Lit.int .i64 k).wf = true) (hln : n2 * 32 ≤ 140737488351232) (w1 : RRg w w.heap.size A2 n2 l) (m1 : n2 ≤ maxLen)
    (b1 : ∀ r ∈ l, r.name.size ≤ maxLen ∧ (Lit.int .i64 r.low).wf = true ∧ (Lit.int .i64 r.high).wf = true) (w2 : r.name.size ≤ maxLen) :
    Calls Tryd.prog 6 #[.slice A e.length c, .slice A2 n2 c2, .agg #[.string r.name, .int .i64 r.low, .int .i64 r.high]] w fun en w' => en = .returned (.bool true) ∧ Below w.heap.size w w' :=
  names_any A c e A2 n2 c2 l r w w0 m0 w1 hln (fun x hx => (b0 x hx).1) (fun r hr => (b1 r hr).1) w2 (fun x hx => (b0 x hx).2.1)
end Go.Proofs.YtnlcfbaaomdjdaaDoor
