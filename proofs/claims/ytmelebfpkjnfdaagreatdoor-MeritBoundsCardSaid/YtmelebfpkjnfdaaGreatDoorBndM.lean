/-
  bound.ranges' map: ranges by their names.
-/
import Derived.Test.YtmelebfpkjnfdaaGreatDoorBndW
import Derived.Test.YtmelebfpkjnfdaaGreatDoorExpD
import Derived.Maps.OwnSet
import Derived.Test.YtmelebfpkjnfdaaGreatDoorExpH
set_option linter.unusedVariables false
set_option linter.unusedSimpArgs false
namespace Go.Proofs.YtmelebfpkjnfdaaGreatDoor
open Go.RowKit Go.Deep Go.Maps

/-- No two ranges have one name. -/
def distinctR : List Rng → Bool
  | [] => true
  | r :: l => distinctR l && l.all fun x => decide (x.name ≠ r.name)
theorem valid_split : ∀ l : List Rng, validRs l = (l.all okR && distinctR l)
  | [] => rfl
  | r :: l => by
    have ih := valid_split l
    unfold validRs distinctR
    rw [ih, List.all_cons]
    cases okR r <;> cases l.all okR <;> cases distinctR l <;> simp
def hasR (l : List Rng) (t : ByteArray) : Bool := l.any fun r => decide (r.name = t)
theorem hasR_snoc (l : List Rng) (r : Rng) (t : ByteArray) : hasR (l ++ [r]) t = (hasR l t || decide (r.name = t)) := by simp [hasR]
theorem distinct_snoc (l : List Rng) (r : Rng) : distinctR (l ++ [r]) = (distinctR l && !hasR l r.name) := by
  induction l with
  | nil => rfl
  | cons x l ih =>
    show (distinctR (l ++ [r]) && (l ++ [r]).all fun y => decide (y.name ≠ x.name)) = ((distinctR l && l.all fun y => decide (y.name ≠ x.name)) && !(decide (x.name = r.name) || hasR l r.name))
    rw [ih, List.all_append, List.all_cons, List.all_nil, Bool.and_true]
    have e : decide (r.name ≠ x.name) = !decide (x.name = r.name) := by
      rw [Bool.eq_iff_iff]
      simp only [decide_eq_true_eq, Bool.not_eq_true', decide_eq_false_iff_not, ne_eq]
      exact ⟨fun h e => h e.symm, fun h e => h e.symm⟩
    rw [e]
    cases distinctR l <;> cases hasR l r.name <;> cases (l.all fun y => decide (y.name ≠ x.name)) <;> cases decide (x.name = r.name) <;> rfl
theorem look_has (l : List Rng) (t : ByteArray) : (look l t).isSome = hasR l t := by
  unfold look hasR
  rw [Option.isSome_map]
  induction l with
  | nil => rfl
  | cons x l ih =>
    rw [List.find?_cons, List.any_cons]
    cases decide (x.name = t)
    · exact ih
    · rfl
theorem look_snoc_new (l : List Rng) (r : Rng) (t : ByteArray) : look (l ++ [r]) t = match look l t with | some s => some s | none => if r.name = t then some (r.low, r.high) else none := by
  unfold look
  rw [List.find?_append]
  cases l.find? fun r => decide (r.name = t) with
  | some x => rfl
  | none =>
    simp only [Option.none_or, Option.map_none]
    by_cases h : r.name = t
    · simp [h]
    · simp [h]

/-- Block b is the map of the ranges l. -/
def RM (w : World) (b : Nat) (l : List Rng) : Prop :=
  ∃ D : DataW Value, w.ownsMap Tryz.prog 9 Rv b l.length D ∧ (∀ s kl, keyOf Tryz.prog 9 (.string s) = some kl → has D kl = hasR l s) ∧
    (Maps.size D ≤ l.length ∧ (Maps.size D = l.length ↔ distinctR l = true)) ∧
    (distinctR l = true → ∀ s kl, keyOf Tryz.prog 9 (.string s) = some kl → ∀ zd, D.atKey kl zd = match look l s with | none => zd | some x => .held (spanV x))
theorem RM.made (w : World) : RM (w.alloc (.map #[] 0)) w.heap.size [] := ⟨.map [], World.ownsMap_made _ _ _ _, fun _ _ _ => rfl, ⟨Nat.le_refl _, by simp [Maps.size, distinctR]⟩, fun _ _ _ _ _ => rfl⟩
theorem RM.kept {w w' : World} {b : Nat} {l : List Rng} (h : RM w b l) (hb : w'.heap[b]? = w.heap[b]?) : RM w' b l := by
  obtain ⟨D, ⟨es, clock, h1, h2⟩, hV⟩ := h
  exact ⟨D, ⟨es, clock, hb.trans h1, h2⟩, hV⟩
theorem RM.lt {w : World} {b : Nat} {l : List Rng} (h : RM w b l) : b < w.heap.size := by
  obtain ⟨D, hown, _⟩ := h
  exact hown.lt
theorem zeroSpan (w : World) : (zeroValue 88).run Tryz.prog w = .ok (.agg #[.int .i64 0, .int .i64 0]) w := by kernel_rfl
set_option maxRecDepth 20000 in
theorem RM.put {w : World} {b : Nat} {l : List Rng} (h : RM w b l) (hn : l.length < maxLen) (r : Rng) (hr : r.name.size ≤ maxLen) :
    ∃ w', (Instr.mapUpdate 79 (.map (some b)) (.string r.name) (spanV (r.low, r.high))).run Tryz.prog w = .ok () w' ∧ RM w' b (l ++ [r]) ∧ w.grownBy w' (some b) := by
  obtain ⟨kl, hkl⟩ := Option.isSome_iff_exists.1 (keyS hr)
  obtain ⟨D, hown, hh, ⟨hs1, hs2⟩, hV⟩ := h
  obtain ⟨w', hrun, hown', hgr⟩ := hown.update keyedS Tryz.underlying79 hn hkl (val := spanV (r.low, r.high)) (d := .held (spanV (r.low, r.high))) (ps := []) rfl
  have ht : Tidy D := World.ownsMap.tidy hown keyedS
  have hsz := Maps.size_put (k := kl) ht (.held (spanV (r.low, r.high)))
  rw [hh r.name kl hkl] at hsz
  refine ⟨w', hrun, ⟨D.put kl (.held (spanV (r.low, r.high))), by rw [List.length_append]; exact hown', fun s kj hj => ?_, ⟨?_, ?_⟩, fun hd s kj hj zd => ?_⟩, hgr⟩
  · rw [hasR_snoc]
    by_cases e : s = r.name
    · subst e
      obtain rfl : kj = kl := Option.some.inj (hj.symm.trans hkl)
      rw [has_put_same ht.isMap (keyedS.key hj), decide_eq_true rfl, Bool.or_true]
    · have hne : kj ≠ kl := fun he => e (Value.string.inj (keyedS.inj hj (he ▸ hkl)))
      rw [has_put_other hne, hh s kj hj, decide_eq_false (fun e2 => e e2.symm), Bool.or_false]
  · rw [List.length_append]
    rw [hsz]
    split <;> simp <;> omega
  · rw [distinct_snoc, List.length_append, hsz]
    cases hasR l r.name
    · rw [if_neg (by decide)]
      simp only [List.length_cons, List.length_nil, Nat.add_right_cancel_iff, Nat.zero_add, Bool.not_false, Bool.and_true]
      exact hs2
    · rw [if_pos rfl]
      simp
      omega
  · rw [distinct_snoc] at hd
    obtain ⟨hd1, hd2⟩ := Bool.and_eq_true_iff.1 hd
    rw [look_snoc_new]
    by_cases e : s = r.name
    · subst e
      obtain rfl : kj = kl := Option.some.inj (hj.symm.trans hkl)
      have hl : look l r.name = none := by
        have := look_has l r.name
        cases hl : look l r.name with
        | none => rfl
        | some x =>
          rw [hl] at this
          rw [← this] at hd2
          cases hd2
      rw [hl, if_pos rfl, atKey_put_same hown.isMap (keyedS.key hj)]
    · have hne : kj ≠ kl := fun he => e (Value.string.inj (keyedS.inj hj (he ▸ hkl)))
      rw [atKey_put_other hne, hV hd1 s kj hj zd, if_neg (fun e2 => e e2.symm)]
      cases look l s <;> rfl
set_option maxRecDepth 20000 in
theorem RM.look_ {w : World} {b : Nat} {l : List Rng} (h : RM w b l) (hd : distinctR l = true) {t : ByteArray} (ht : t.size ≤ maxLen) :
    (Instr.lookup 79 (.map (some b)) (.string t) true).run Tryz.prog w = .ok (.tuple #[spanV ((look l t).getD (0, 0)), .bool (look l t).isSome]) w := by
  obtain ⟨kl, hkl⟩ := Option.isSome_iff_exists.1 (keyS ht)
  obtain ⟨D, hown, hh, _, hV⟩ := h
  obtain ⟨v, ps, hrun, hv⟩ := hown.look_ok keyedS Tryz.underlying79 (zeroSpan w) (zd := .held (.agg #[.int .i64 0, .int .i64 0])) (zp := []) rfl hkl
  rw [hV hd t kl hkl] at hv
  rw [hh t kl hkl, ← look_has] at hrun
  rw [hrun]
  cases hl : look l t with
  | none =>
    rw [hl] at hv
    injection hv with hv
    injection hv with hv _
    injection hv with hv
    rw [hv]; rfl
  | some x =>
    rw [hl] at hv
    injection hv with hv
    injection hv with hv _
    injection hv with hv
    rw [hv]; rfl
theorem RM.len {w : World} {b : Nat} {l : List Rng} (h : RM w b l) (ty : TypeId) : ∃ n : Nat, (Builtin.len_ #[79] ty #[.map (some b)]).run Tryz.prog w = .ok (.int .i64 n) w ∧ (n = l.length ↔ distinctR l = true) := by
  obtain ⟨D, hown, _, ⟨_, hs⟩, _⟩ := h
  exact ⟨_, hown.len Tryz.underlying79 ty, hs⟩
end Go.Proofs.YtmelebfpkjnfdaaGreatDoor

/-
  bound.ranges.
-/
namespace Go.Proofs.YtmelebfpkjnfdaaGreatDoor
open Go.RowKit Go.Deep Go.Maps

/-- The cells of ranges. -/
def cellsR (rs : List Rng) : List Value := rs.flatMap fun r => [.string r.name, .int .i64 r.low, .int .i64 r.high]
theorem cellsR_len : ∀ rs : List Rng, (cellsR rs).length = rs.length * 3
  | [] => rfl
  | r :: rs => by
    have := cellsR_len rs
    unfold cellsR at this ⊢
    rw [List.flatMap_cons, List.length_append, this]
    simp
    omega
theorem cellsR_get {r : Rng} : ∀ (rs : List Rng) (i : Nat), rs[i]? = some r → (cellsR rs)[i * 3]? = some (.string r.name) ∧ (cellsR rs)[i * 3 + 1]? = some (.int .i64 r.low) ∧ (cellsR rs)[i * 3 + 2]? = some (.int .i64 r.high)
  | [], i, h => by simp at h
  | y :: rs, 0, h => by
    simp only [List.getElem?_cons_zero, Option.some.injEq] at h
    subst h
    exact ⟨rfl, rfl, rfl⟩
  | y :: rs, i + 1, h => by
    have := cellsR_get rs i (by simpa using h)
    rw [show (i + 1) * 3 = (i * 3) + 1 + 1 + 1 from by omega]
    unfold cellsR at this ⊢
    simpa only [List.flatMap_cons, List.cons_append, List.nil_append, List.getElem?_cons_succ] using this
theorem cellsR_one : ∀ (rs : List Rng), ∀ u ∈ cellsR rs, u.oneCell' = true := by
  intro rs u hu
  unfold cellsR at hu
  obtain ⟨s, _, hs⟩ := List.mem_flatMap.1 hu
  simp only [List.mem_cons, List.not_mem_nil, or_false] at hs
  rcases hs with rfl | rfl | rfl <;> rfl
theorem cellsR_append (rs ss : List Rng) : cellsR (rs ++ ss) = cellsR rs ++ cellsR ss := by simp [cellsR]
/-- '.slice A n c' reads as the ranges rs, below block B. -/
def RRg (w : World) (B : Nat) (A : Option Addr) (n : Nat) (rs : List Rng) : Prop := Reads w B 3 A n (cellsR rs)
def Rng.none_ : Rng := ⟨ByteArray.empty, 0, 0⟩
def rngAt (rs : List Rng) (i : Nat) : Rng := rs.getD i Rng.none_
theorem rngAt_get {rs : List Rng} {i : Nat} (h : i < rs.length) : rs[i]? = some (rngAt rs i) := by
  unfold rngAt
  rw [List.getD_eq_getElem?_getD, List.getElem?_eq_getElem h]
  rfl
theorem rng_take {rs : List Rng} {i : Nat} (h : i < rs.length) : rs.take (i + 1) = rs.take i ++ [rngAt rs i] := take_snoc rs i Rng.none_ h
section
variable {w w' : World} {B B' : Nat} {A : Option Addr} {n : Nat} {rs : List Rng}
theorem RRg.len (h : RRg w B A n rs) : rs.length = n := by
  have := h.1
  rw [cellsR_len] at this
  omega
theorem RRg.at_ (h : RRg w B A n rs) {i : Nat} (hi : i < n) : ∃ b off, A = some ⟨b, off, none⟩ ∧ b < B ∧
    w.cell? ⟨b, off + i * 3, none⟩ = some (.string (rngAt rs i).name) ∧ w.cell? ⟨b, off + i * 3 + 1, none⟩ = some (.int .i64 (rngAt rs i).low) ∧ w.cell? ⟨b, off + i * 3 + 2, none⟩ = some (.int .i64 (rngAt rs i).high) := by
  have hl := h.len
  have h0 := (cellsR_get rs 0 (rngAt_get (by omega))).1
  obtain ⟨b, off, hA, hb, hc⟩ := Reads.atN (A := A) (w := w) (B := B) (xs := cellsR rs) (n := n) h (by omega) h0
  obtain ⟨g0, g1, g2⟩ := cellsR_get rs i (rngAt_get (by omega))
  exact ⟨b, off, hA, hb, hc _ _ g0, by have := hc _ _ g1; rwa [← Nat.add_assoc] at this, by have := hc _ _ g2; rwa [← Nat.add_assoc] at this⟩
theorem RRg.below (h : RRg w B A n rs) (hb : Below B w w') : RRg w' B A n rs := Reads.below h hb
theorem RRg.more (h : RRg w B A n rs) (hB : B ≤ B') : RRg w B' A n rs := Reads.more h hB
theorem RRg.next (h : RRg w w.heap.size A n rs) (hb : Below w.heap.size w w') : RRg w' w'.heap.size A n rs := (h.below hb).more hb.size
end

theorem valid_false {rs : List Rng} {k : Nat} {r : Rng} (h : rs.take (k + 1) = rs.take k ++ [r]) (hr : okR r = false) : validRs rs = false := by
  have hmem : r ∈ rs := List.mem_of_mem_take (i := k + 1) (by rw [h]; simp)
  rw [valid_split]
  cases ha : rs.all okR
  · rfl
  · have := List.all_eq_true.1 ha r hmem
    rw [hr] at this
    cases this
theorem wpList_len_rm {w : World} {ops : Array Oper} {rest : List Oper} {o : Oper} {a : Act} {Q : Exit → Act → World → Prop} (hg : o.guard = none) (m : Operand) (hop : o.op = Op.call { callee := Callee.builtin Builtin.len, args := #[m], argTypes := #[79] })
    (b : Nat) (l : List Rng) (hm : a.eval m = .map (some b)) (h : RM w b l) (hK : ∀ n : Nat, (n = l.length ↔ distinctR l = true) → wpList Tryz.prog ops Q rest (a.put o.dst (.int .i64 n)) w) : wpList Tryz.prog ops Q (o :: rest) a w := by
  refine wpList_plain hg fun K' hK' => ?_
  obtain ⟨n, hrun, hn⟩ := h.len o.type
  unfold Oper.wp execOp
  simp only [hop, resolve, invoke, builtin, Sem.run_bind, Sem.run_pure, Result.andThen_ok, List.map_toArray, List.map_cons, List.map_nil, hm, hrun]
  exact hK' _ _ (hK n hn)

theorem beyond_is (n : Int) (w : World) (b : Bool) (h : beyondL n = b) : Calls Tryz.prog 54 #[.int .i64 n] w fun e w' => e = .returned (.bool b) ∧ w = w' := by
  have := beyond_any n w
  rw [h] at this
  exact this

/-- What ranges leaves: the map is told where the list is valid. -/
def RngPost (w : World) (rs : List Rng) (e : Ending) (w' : World) : Prop :=
  ∃ m, e = .returned (.tuple #[.map m, .bool (validRs rs)]) ∧ Below w.heap.size w w' ∧ (validRs rs = true → ∃ b, m = some b ∧ w.heap.size ≤ b ∧ RM w' b rs)

set_option maxHeartbeats 4000000 in
set_option maxRecDepth 20000 in
theorem ranges_any (A : Option Addr) (n c : Nat) (rs : List Rng) (w : World) (h : RRg w w.heap.size A n rs) (hn : n ≤ maxLen) (hm : ∀ r ∈ rs, r.name.size ≤ maxLen) :
    Calls Tryz.prog 43 #[.slice A n c] w (RngPost w rs) := by
  have HN := hide hn
  unfold maxLen at hn
  have hmm := @run_makeMap Tryz.prog
  have H := hide h
  have hlen := h.len
  have HLN := hide hlen
  have m0 := RM.made w
  have b0 : Below w.heap.size w (w.alloc (.map #[] 0)) := (Below.refl _ _).alloc (Nat.le_refl _) _
  clear h hlen
  go_enter Tryz.func43, Tryz.ntmps43
  go_wp2
  go_loopw [13] (fun i wr => ∃ k : Nat, k ≤ n ∧ i = .int .i64 k ∧ RM wr w.heap.size (rs.take k) ∧ (rs.take k).all okR = true ∧ Below w.heap.size w wr) (fun i _ => n - (intOf i).toNat)
  case atStart => exact ⟨0, Nat.zero_le _, rfl, m0, rfl, b0⟩
  case round =>
    clear m0 b0
    obtain ⟨k, hk, rfl, hR, hall, hbr⟩ := hrel
    have HR := hide hR
    have HA := hide hall
    have lR := hR.lt
    clear hR hall
    by_cases hlt : k < n
    · obtain ⟨b, off, rfl, hb, g0, g1, g2⟩ := H.out.at_ hlt
      have e0 : wr.cell? ⟨b, off + k * 3, none⟩ = some (.string (rngAt rs k).name) := (hbr.cell (p := ⟨b, off + k * 3, none⟩) hb).trans g0
      have e1 : wr.cell? ⟨b, off + k * 3 + 1, none⟩ = some (.int .i64 (rngAt rs k).low) := (hbr.cell (p := ⟨b, off + k * 3 + 1, none⟩) hb).trans g1
      have e2 : wr.cell? ⟨b, off + k * 3 + 2, none⟩ = some (.int .i64 (rngAt rs k).high) := (hbr.cell (p := ⟨b, off + k * 3 + 2, none⟩) hb).trans g2
      have HT := hide (rng_take (rs := rs) (i := k) (by rw [HLN.out]; exact hlt))
      have hnm : (rngAt rs k).name.size ≤ maxLen := hm _ (List.mem_of_getElem? (rngAt_get (by rw [HLN.out]; exact hlt)))
      clear g0 g1 g2
      generalize rngAt rs k = r at e0 e1 e2 HT hnm
      have hB1 : Blk (wr.alloc (Obj.cells #[.string r.name, .int .i64 r.low, .int .i64 r.high] 38)) wr.heap.size 38 #[.string r.name, .int .i64 r.low, .int .i64 r.high] := Blk.new _ _ _
      have hb1 : Below wr.heap.size wr (wr.alloc (Obj.cells #[.string r.name, .int .i64 r.low, .int .i64 r.high] 38)) := (Below.refl _ _).alloc (Nat.le_refl _) _
      go_upto_region 5 with (fail)
      generalize wr.alloc (Obj.cells #[.string r.name, .int .i64 r.low, .int .i64 r.high] 38) = w1 at hB1 hb1 ⊢
      have c0 : w1.cell? ⟨wr.heap.size, 0, none⟩ = some (.string r.name) := hB1.cell 0
      have hl1 := hB1.lt
      clear e0 e1 e2
      go_wp2_with fail
      refine (lex_any r.name w1 hnm).mono ?_
      rintro e w2 ⟨⟨v, rfl, A2, c2, rfl, hown⟩, hb2⟩
      have hB2 := hB1.below hb2 hl1
      have hbw := hb1.trans (hb2.mono hb1.size)
      have d0 : w2.cell? ⟨wr.heap.size, 0, none⟩ = some (.string r.name) := hB2.cell 0
      have d1 : w2.cell? ⟨wr.heap.size, 1, none⟩ = some (.int .i64 r.low) := hB2.cell 1
      have d2 : w2.cell? ⟨wr.heap.size, 2, none⟩ = some (.int .i64 r.high) := hB2.cell 2
      have HLX : Hid (nameB r.name = ((lexL r.name).err == 0 && (match (lexL r.name).toks with | [t] => t.kind == 1 && decide (t.text = r.name) | _ => false))) := by
        show _ = _
        rw [← lexName_eq]
        rfl
      have HB2 := hide (hbr.trans (hbw.mono hbr.size))
      have HRM := hide (HR.out.kept (hbw.block w.heap.size lR))
      clear c0 hB1 hb1 hb2 hB2 hl1 HR hbr hbw
      generalize lexL r.name = lr at hown HLX ⊢
      obtain ⟨toks, err, off'⟩ := lr
      dsimp only at hown HLX ⊢
      by_cases he : err = 0
      · subst he
        by_cases hl : toks.length = 1
        · obtain ⟨t, rfl⟩ : ∃ t, toks = [t] := List.length_eq_one_iff.1 hl
          obtain ⟨g, cap, hv, hgb, hlt2⟩ := World.ownsRow.form hown (by simp)
          injection hv with hA2 _ hc2
          subst hA2
          have hcell := (World.ownsRow.cells hown (g := g) rfl)
          have k0 : w2.cell? ⟨g, 0, none⟩ = some (.int .i64 t.kind) := hcell 0 _ rfl
          have k1 : w2.cell? ⟨g, 1, none⟩ = some (.string t.text) := hcell 1 _ rfl
          have HLY : Hid (nameB r.name = (t.kind == 1 && decide (t.text = r.name))) := HLX
          clear hcell hown hl HLX
          by_cases hkd : t.kind = 1
          · rw [hkd] at k0
            by_cases htx : t.text = r.name
            · rw [htx] at k1
              have HNB : Hid (nameB r.name = true) := by
                show _ = _
                rw [HLY.out, hkd, decide_eq_true htx]
                rfl
              clear HLY hkd htx
              cases hb1 : beyondL r.low
              · cases hb2 : beyondL r.high
                · by_cases hlh : r.low ≤ r.high
                  · have hlh' : decide (r.high < r.low) = false := decide_eq_false (by omega)
                    have HL := hide hb1
                    have HH := hide hb2
                    have HOK : Hid (okR r = true) := by
                      show okR r = true
                      unfold okR
                      rw [HNB.out, hb1, hb2, decide_eq_true hlh]
                      rfl
                    clear hb1 hb2
                    go_upto_region 6 with (fail)
                    go_quiet ((go_at_call 54; first | exact quiet_left (beyond_is _ _ _ HL.out) | exact quiet_left (beyond_is _ _ _ HH.out)))
                    have q0 : (w2.drewN nq).cell? ⟨wr.heap.size, 0, none⟩ = some (.string r.name) := d0
                    have q1 : (w2.drewN nq).cell? ⟨wr.heap.size, 1, none⟩ = some (.int .i64 r.low) := d1
                    have q2 : (w2.drewN nq).cell? ⟨wr.heap.size, 2, none⟩ = some (.int .i64 r.high) := d2
                    have HBQ : Hid (Below w.heap.size w (w2.drewN nq)) := hide (below_drewN HB2.out nq)
                    have HRQ : Hid (RM (w2.drewN nq) w.heap.size (rs.take k)) := hide (HRM.out.kept rfl)
                    clear d0 d1 d2 HB2 HRM k0 k1
                    generalize w2.drewN nq = w3 at q0 q1 q2 HBQ HRQ ⊢
                    obtain ⟨w4, hrun, hR4, hg4⟩ := HRQ.out.put (by have := HN.out; have := HLN.out; rw [List.length_take]; omega) r hnm
                    have HB4 : Hid (Below w.heap.size w w4) := hide (HBQ.out.trans ((Below.refl _ _).grown hg4 HBQ.out.size (fun g hg => by injection hg with hg; omega)))
                    have HR4 := hide hR4
                    clear hR4 hg4
                    go_wp2
                    go_roundw
                    case rel => exact ⟨k + 1, by omega, by go_num, by rw [HT.out]; exact HR4.out, by rw [HT.out, List.all_append, HA.out, List.all_cons, HOK.out]; rfl, HB4.out⟩
                    case measure => simp [intOf]; omega
                  · have hlh' : decide (r.high < r.low) = true := decide_eq_true (by omega)
                    have HL := hide hb1
                    have HH := hide hb2
                    have HV : Hid (validRs rs = false) := hide (valid_false HT.out (by unfold okR; rw [HNB.out, hb1, hb2, decide_eq_false hlh]; rfl))
                    clear hb1 hb2
                    go_upto_region 6 with (fail)
                    go_quiet ((go_at_call 54; first | exact quiet_left (beyond_is _ _ _ HL.out) | exact quiet_left (beyond_is _ _ _ HH.out)))
                    go_wp2
                    go_ret2
                    refine ⟨none, by rw [HV.out]; rfl, below_drewN HB2.out _, fun hh => ?_⟩
                    rw [HV.out] at hh
                    cases hh
                · have HL := hide hb1
                  have HH := hide hb2
                  have HV : Hid (validRs rs = false) := hide (valid_false HT.out (by unfold okR; rw [hb2]; cases nameB r.name <;> cases (!beyondL r.low) <;> rfl))
                  clear hb1 hb2
                  go_upto_region 6 with (fail)
                  go_quiet ((go_at_call 54; first | exact quiet_left (beyond_is _ _ _ HL.out) | exact quiet_left (beyond_is _ _ _ HH.out)))
                  go_wp2
                  go_ret2
                  refine ⟨none, by rw [HV.out]; rfl, below_drewN HB2.out _, fun hh => ?_⟩
                  rw [HV.out] at hh
                  cases hh
              · have HL := hide hb1
                have HV : Hid (validRs rs = false) := hide (valid_false HT.out (by unfold okR; rw [hb1]; cases nameB r.name <;> rfl))
                clear hb1
                go_upto_region 6 with (fail)
                go_quiet ((go_at_call 54; first | exact quiet_left (beyond_is _ _ _ HL.out) | exact quiet_left (beyond_is _ _ _ HH.out)))
                go_wp2
                go_ret2
                refine ⟨none, by rw [HV.out]; rfl, below_drewN HB2.out _, fun hh => ?_⟩
                rw [HV.out] at hh
                cases hh
            · have htx' := bytes_ne htx
              have HV : Hid (validRs rs = false) := hide (valid_false HT.out (by unfold okR; rw [HLY.out, decide_eq_false htx, Bool.and_false]; rfl))
              go_upto_region 6 with (fail)
              go_quiet ((go_at_call 54; first | exact quiet_left (beyond_is _ _ _ HL.out) | exact quiet_left (beyond_is _ _ _ HH.out)))
              go_wp2
              go_ret2
              refine ⟨none, by rw [HV.out]; rfl, below_drewN HB2.out _, fun hh => ?_⟩
              rw [HV.out] at hh
              cases hh
          · have hkd' : (t.kind != 1) = true := bne_iff_ne.2 hkd
            have HV : Hid (validRs rs = false) := hide (valid_false HT.out (by unfold okR; rw [HLY.out, beq_eq_false_iff_ne.2 hkd]; rfl))
            go_upto_region 6 with (fail)
            go_quiet ((go_at_call 54; first | exact quiet_left (beyond_is _ _ _ HL.out) | exact quiet_left (beyond_is _ _ _ HH.out)))
            go_wp2
            go_ret2
            refine ⟨none, by rw [HV.out]; rfl, below_drewN HB2.out _, fun hh => ?_⟩
            rw [HV.out] at hh
            cases hh
        · have hl' : (((toks.length : Nat) : Int) != 1) = true := bne_iff_ne.2 (by omega)
          have HNB : Hid (nameB r.name = false) := by
            show _ = _
            rw [HLX.out]
            rcases toks with _ | ⟨t, _ | ⟨t2, ts⟩⟩
            · rfl
            · exact absurd rfl hl
            · rfl
          clear hown HLX
          have HV : Hid (validRs rs = false) := hide (valid_false HT.out (by unfold okR; rw [HNB.out]; rfl))
          go_upto_region 6 with (fail)
          go_quiet ((go_at_call 54; first | exact quiet_left (beyond_is _ _ _ HL.out) | exact quiet_left (beyond_is _ _ _ HH.out)))
          go_wp2
          go_ret2
          refine ⟨none, by rw [HV.out]; rfl, below_drewN HB2.out _, fun hh => ?_⟩
          rw [HV.out] at hh
          cases hh
      · have he' : (err != 0) = true := bne_iff_ne.2 he
        have HNB : Hid (nameB r.name = false) := by
          show _ = _
          rw [HLX.out, beq_eq_false_iff_ne.2 he]
          rfl
        clear hown HLX
        have HV : Hid (validRs rs = false) := hide (valid_false HT.out (by unfold okR; rw [HNB.out]; rfl))
        go_upto_region 6 with (fail)
        go_quiet ((go_at_call 54; first | exact quiet_left (beyond_is _ _ _ HL.out) | exact quiet_left (beyond_is _ _ _ HH.out)))
        go_wp2
        go_ret2
        refine ⟨none, by rw [HV.out]; rfl, below_drewN HB2.out _, fun hh => ?_⟩
        rw [HV.out] at hh
        cases hh
    · obtain rfl : k = n := by omega
      have htk : rs.take k = rs := List.take_of_length_le (by rw [HLN.out]; exact Nat.le_refl _)
      have HTK := hide htk
      have hR2 : RM wr w.heap.size rs := by have := HR.out; rw [htk] at this; exact this
      have HR2 := hide hR2
      have HAA : Hid (validRs rs = distinctR rs) := by
        show _ = _
        have := HA.out
        rw [htk] at this
        rw [valid_split, this, Bool.true_and]
      clear htk hR2 HR
      go_wp2_with (refine wpList_len_rm rfl (.tmp 74) rfl w.heap.size rs rfl HR2.out ?_; intro n' hn'; have HNN := hide hn'; clear hn')
      go_ret2
      have hb : (((n' : Nat) : Int) == ((k : Nat) : Int)) = validRs rs := by
        rw [HAA.out]
        have h1 := HNN.out
        rw [HLN.out] at h1
        cases hd : distinctR rs
        · refine beq_eq_false_iff_ne.2 (fun e => ?_)
          have := h1.1 (by omega)
          rw [hd] at this
          cases this
        · exact beq_iff_eq.2 (by have := h1.2 hd; omega)
      exact ⟨some w.heap.size, by rw [← hb]; rfl, hbr, fun _ => ⟨_, rfl, Nat.le_refl _, HR2.out⟩⟩
end Go.Proofs.YtmelebfpkjnfdaaGreatDoor
