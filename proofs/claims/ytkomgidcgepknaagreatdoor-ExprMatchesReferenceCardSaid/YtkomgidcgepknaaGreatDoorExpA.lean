/-
  expr's small functions.
-/
import Derived.Test.YtkomgidcgepknaaGreatDoorLexW
import Derived.Test.YtkomgidcgepknaaGreatDoorParP
import Derived.Carry
import Derived.Maps.RangeWalk
import Derived.StringKeys
set_option linter.unusedVariables false
set_option linter.unusedSimpArgs false
namespace Go.Proofs.YtkomgidcgepknaaGreatDoor
open Go.RowKit Go.Deep

set_option maxHeartbeats 1000000 in
theorem strength_any (op : Int) (w : World) : Calls Tryz.prog 72 #[.int .i64 op] w fun e w' => e = .returned (.int .i64 (strength op)) ∧ w = w' := by
  have H : ∀ v, (if op = 10 ∨ op = 11 then 1 else if op = 3 ∨ op = 4 then 2 else if op = 5 ∨ op = 6 then 3 else if op = 12 then 4 else 5) = v → strength op = v := fun v h => h
  have HH := hide H
  clear H
  go_enter Tryz.func72, Tryz.ntmps72
  go_wp2
  all_goals go_ret
  all_goals refine ⟨ret_int (HH.out _ ?_).symm, rfl⟩
  all_goals simp_all

end Go.Proofs.YtkomgidcgepknaaGreatDoor

/-
  expr's maps: infix, functions.
-/
namespace Go.Proofs.YtkomgidcgepknaaGreatDoor
open Go.RowKit Go.Deep Go.Maps

theorem wpList_insert_is {ι : Type} {ky : ι → Value} {w : World} {P : Program} {k : TypeId} {z : Value} {b n : Nat} {V : ι → Value} [DecidableEq ι] {ops : Array Oper} {rest : List Oper} {o : Oper} {a : Act} {Q : Exit → Act → World → Prop}
    (hg : o.guard = none) (m x v : Operand) (t : TypeId) (hop : o.op = Op.insert t m x v) (e : TypeId) (K : Keyed P k) (ht : P.underlying t = some (.map k e))
    (h : MapIs ky w P k z b n V) (hn : n < maxLen) (hinj : ∀ i j, ky i = ky j → i = j) (hm : a.eval m = .map (some b)) (i : ι) (hx : a.eval x = ky i) (hkey : (keyOf P k (ky i)).isSome = true)
    (val : Value) (hv : a.eval v = val)
    (hK : ∀ w', MapIs ky w' P k z b (n + 1) (upd V i val) → w.grownBy w' (some b) → wpList P ops Q rest (a.put o.dst undef) w') : wpList P ops Q (o :: rest) a w := by
  obtain ⟨kl, hkl⟩ := Option.isSome_iff_exists.1 hkey
  refine wpList_plain hg fun K' hK' => ?_
  obtain ⟨w', hrun, r1, r2⟩ := h.update K ht hn hinj i val hkl
  unfold Oper.wp
  simp [execOp, hop, hm, hx, hv, hrun, Result.andThen]
  exact hK' _ _ (hK w' r1 r2)

theorem keyedS : Keyed Tryz.prog 9 := string_keyed Tryz.underlying9
theorem keyS {s : ByteArray} (h : s.size ≤ maxLen) : (keyOf Tryz.prog 9 (.string s)).isSome = true := by
  rw [WideMaps.keyOf_string_mk Tryz.underlying9 h]
  rfl
theorem wpList_makeMap {w : World} {P : Program} {ops : Array Oper} {rest : List Oper} {o : Oper} {a : Act} {Q : Exit → Act → World → Prop} (hg : o.guard = none) (t : TypeId) (hop : o.op = Op.makeMap t none)
    (h : wpList P ops Q rest (a.put o.dst (.map (some w.heap.size))) (w.alloc (.map #[] 0))) : wpList P ops Q (o :: rest) a w := by
  refine wpList_plain hg fun K' hK' => ?_
  unfold Oper.wp
  simp [execOp, hop, run_makeMap, Result.andThen]
  exact hK' _ _ h
/-- A map from strings to numbers. -/
def SM (w : World) (b n : Nat) (V : ByteArray → Value) : Prop := MapIs Value.string w Tryz.prog 9 (.int .i64 0) b n V
theorem SM.made (w : World) : SM (w.alloc (.map #[] 0)) w.heap.size 0 (fun _ => .int .i64 0) := MapIs.made _ _ _ _ _

section
variable {w : World} {b n : Nat} {V : ByteArray → Option Int}
/-- Block b is a map from strings to numbers: 'V t' is what lies at t, none where nothing does. -/
def PM (w : World) (b n : Nat) (V : ByteArray → Option Int) : Prop :=
  ∃ D : DataW Value, w.ownsMap Tryz.prog 9 Rv b n D ∧ ∀ s kl, keyOf Tryz.prog 9 (.string s) = some kl → ∀ zd, D.atKey kl zd = match V s with | none => zd | some x => .held (.int .i64 x)
theorem PM.made (w : World) : PM (w.alloc (.map #[] 0)) w.heap.size 0 (fun _ => none) := ⟨.map [], World.ownsMap_made _ _ _ _, fun _ _ _ _ => rfl⟩
theorem PM.is (h : PM w b n V) : SM w b n (fun t => .int .i64 ((V t).getD 0)) := by
  obtain ⟨D, hown, hV⟩ := h
  refine ⟨D, hown, fun s kl hk => ?_⟩
  rw [hV s kl hk]
  show _ = DataW.held (Value.int .i64 ((V s).getD 0))
  cases V s <;> rfl
theorem PM.ext {V' : ByteArray → Option Int} (h : PM w b n V) (e : ∀ t, V t = V' t) : PM w b n V' := by
  obtain rfl : V = V' := funext e
  exact h
theorem PM.kept {w' : World} (h : PM w b n V) (hb : w'.heap[b]? = w.heap[b]?) : PM w' b n V := by
  obtain ⟨D, ⟨es, clock, h1, h2⟩, hV⟩ := h
  exact ⟨D, ⟨es, clock, hb.trans h1, h2⟩, hV⟩
theorem PM.lt (h : PM w b n V) : b < w.heap.size := by
  obtain ⟨D, hown, _⟩ := h
  exact hown.lt
theorem wpList_insert_pm {ops : Array Oper} {rest : List Oper} {o : Oper} {a : Act} {Q : Exit → Act → World → Prop}
    (hg : o.guard = none) (m x v : Operand) (hop : o.op = Op.insert 94 m x v) (h : PM w b n V) (hn : n < maxLen) (hm : a.eval m = .map (some b)) (i : ByteArray) (hi : i.size ≤ maxLen) (hx : a.eval x = .string i)
    (val : Int) (hv : a.eval v = .int .i64 val)
    (hK : ∀ w', PM w' b (n + 1) (upd V i (some val)) → w.grownBy w' (some b) → wpList Tryz.prog ops Q rest (a.put o.dst undef) w') : wpList Tryz.prog ops Q (o :: rest) a w := by
  obtain ⟨kl, hkl⟩ := Option.isSome_iff_exists.1 (keyS hi)
  obtain ⟨D, hown, hV⟩ := h
  refine wpList_plain hg fun K' hK' => ?_
  obtain ⟨w', hrun, hown', hgr⟩ := hown.update keyedS Tryz.underlying94 hn hkl (val := .int .i64 val) (d := .held (.int .i64 val)) (ps := []) rfl
  unfold Oper.wp
  simp [execOp, hop, hm, hx, hv, hrun, Result.andThen]
  refine hK' _ _ (hK w' ⟨_, hown', fun j kj hj zd => ?_⟩ hgr)
  by_cases e : j = i
  · subst e
    obtain rfl : kj = kl := Option.some.inj (hj.symm.trans hkl)
    rw [upd_same]
    exact atKey_put_same hown.isMap (keyedS.key hj) _ _
  · rw [upd_other _ _ _ _ e]
    have hne : kj ≠ kl := fun he => e (Value.string.inj (keyedS.inj hj (he ▸ hkl)))
    rw [atKey_put_other hne]
    exact hV j kj hj zd
end
def infixO (t : ByteArray) : Option Int := if infixOp t = 0 then none else some (infixOp t)
def funcO (t : ByteArray) : Option Int := if funcOp t = 0 then none else some (funcOp t)
theorem infix_map (w : World) : Calls Tryz.prog 75 #[] w fun e w' => e = .returned (.map (some w.heap.size)) ∧ PM w' w.heap.size 6 infixO ∧ Below w.heap.size w w' := by
  have hmm := @run_makeMap Tryz.prog
  have m0 := PM.made w
  have b0 : Below w.heap.size w (w.alloc (.map #[] 0)) := (Below.refl _ _).alloc (Nat.le_refl _) _
  have hinj : ∀ i j : ByteArray, Value.string i = Value.string j → i = j := fun i j h => by injection h
  go_enter Tryz.func75, Tryz.ntmps75
  go_upto_region 1 with (fail)
  refine wp_region_lit ?_
  refine wpList_makeMap rfl 94 rfl ?_
  generalize w.alloc (.map #[] 0) = w0 at m0 b0 ⊢
  refine wpList_insert_pm rfl (.tmp 1) (.const (.string { data := #[60] })) (.const (.int .i64 10)) rfl m0 (by unfold maxLen; omega) rfl { data := #[60] } (by decide) rfl 10 rfl ?_
  intro w1 m1 g1
  have b1 := b0.grown g1 b0.size (by simp)
  clear m0 b0 g1
  refine wpList_insert_pm rfl (.tmp 1) (.const (.string { data := #[61, 61] })) (.const (.int .i64 11)) rfl m1 (by unfold maxLen; omega) rfl { data := #[61, 61] } (by decide) rfl 11 rfl ?_
  intro w2 m2 g2
  have b2 := b1.grown g2 b1.size (by simp)
  clear m1 b1 g2
  refine wpList_insert_pm rfl (.tmp 1) (.const (.string { data := #[43] })) (.const (.int .i64 3)) rfl m2 (by unfold maxLen; omega) rfl { data := #[43] } (by decide) rfl 3 rfl ?_
  intro w3 m3 g3
  have b3 := b2.grown g3 b2.size (by simp)
  clear m2 b2 g3
  refine wpList_insert_pm rfl (.tmp 1) (.const (.string { data := #[45] })) (.const (.int .i64 4)) rfl m3 (by unfold maxLen; omega) rfl { data := #[45] } (by decide) rfl 4 rfl ?_
  intro w4 m4 g4
  have b4 := b3.grown g4 b3.size (by simp)
  clear m3 b3 g4
  refine wpList_insert_pm rfl (.tmp 1) (.const (.string { data := #[42] })) (.const (.int .i64 5)) rfl m4 (by unfold maxLen; omega) rfl { data := #[42] } (by decide) rfl 5 rfl ?_
  intro w5 m5 g5
  have b5 := b4.grown g5 b4.size (by simp)
  clear m4 b4 g5
  refine wpList_insert_pm rfl (.tmp 1) (.const (.string { data := #[47] })) (.const (.int .i64 6)) rfl m5 (by unfold maxLen; omega) rfl { data := #[47] } (by decide) rfl 6 rfl ?_
  intro w6 m6 g6
  have b6 := b5.grown g6 b5.size (by simp)
  clear m5 b5 g6
  go_wp2
  go_ret
  refine ⟨rfl, m6.ext fun t => ?_, b6⟩
  simp only [upd, infixO, infixOp]
  repeat' split
  all_goals first | rfl | (subst_vars; simp_all; done) | (exfalso; subst_vars; simp_all; done)
theorem functions_map (w : World) : Calls Tryz.prog 77 #[] w fun e w' => e = .returned (.map (some w.heap.size)) ∧ PM w' w.heap.size 3 funcO ∧ Below w.heap.size w w' := by
  have hmm := @run_makeMap Tryz.prog
  have m0 := PM.made w
  have b0 : Below w.heap.size w (w.alloc (.map #[] 0)) := (Below.refl _ _).alloc (Nat.le_refl _) _
  have hinj : ∀ i j : ByteArray, Value.string i = Value.string j → i = j := fun i j h => by injection h
  go_enter Tryz.func77, Tryz.ntmps77
  go_upto_region 1 with (fail)
  refine wp_region_lit ?_
  refine wpList_makeMap rfl 94 rfl ?_
  generalize w.alloc (.map #[] 0) = w0 at m0 b0 ⊢
  refine wpList_insert_pm rfl (.tmp 1) (.const (.string { data := #[109, 105, 110] })) (.const (.int .i64 7)) rfl m0 (by unfold maxLen; omega) rfl { data := #[109, 105, 110] } (by decide) rfl 7 rfl ?_
  intro w1 m1 g1
  have b1 := b0.grown g1 b0.size (by simp)
  clear m0 b0 g1
  refine wpList_insert_pm rfl (.tmp 1) (.const (.string { data := #[109, 97, 120] })) (.const (.int .i64 8)) rfl m1 (by unfold maxLen; omega) rfl { data := #[109, 97, 120] } (by decide) rfl 8 rfl ?_
  intro w2 m2 g2
  have b2 := b1.grown g2 b1.size (by simp)
  clear m1 b1 g2
  refine wpList_insert_pm rfl (.tmp 1) (.const (.string { data := #[105, 102] })) (.const (.int .i64 9)) rfl m2 (by unfold maxLen; omega) rfl { data := #[105, 102] } (by decide) rfl 9 rfl ?_
  intro w3 m3 g3
  have b3 := b2.grown g3 b2.size (by simp)
  clear m2 b2 g3
  go_wp2
  go_ret
  refine ⟨rfl, m3.ext fun t => ?_, b3⟩
  simp only [upd, funcO, funcOp]
  repeat' split
  all_goals first | rfl | (subst_vars; simp_all; done) | (exfalso; subst_vars; simp_all; done)
end Go.Proofs.YtkomgidcgepknaaGreatDoor

/-
  expr.symbol: the key of a map that has a value.
-/
namespace Go.Proofs.YtkomgidcgepknaaGreatDoor
open Go.RowKit Go.Deep Go.Maps

set_option maxHeartbeats 1000000 in
set_option maxRecDepth 20000 in
theorem symbol_any (b n : Nat) (V : ByteArray → Option Int) (op : Int) (w : World) (h : PM w b n V) :
    Calls Tryz.prog 74 #[.map (some b), .int .i64 op] w fun e w' => Below w.heap.size w w' ∧ ∃ t : ByteArray, e = .returned (.string t) ∧ (V t = some op ∨ (t = ByteArray.empty ∧ ∀ u : ByteArray, u.size ≤ maxLen → V u ≠ some op)) := by
  obtain ⟨D, hown, hV⟩ := h
  have HV := hide hV
  clear hV
  go_enter Tryz.func74, Tryz.ntmps74
  go_upto_region 1 with (fail)
  go_wp2_with (refine wpList_range_own w rfl (.tmp 7) 94 rfl 9 3 keyedS Tryz.underlying94 Rv b n D rfl hown (fun w1 hr hg hsz => ?_))
  have hb1 : Below w.heap.size w w1 := (Below.refl _ _).grown hg (Nat.le_refl _) (by simp)
  have h0 : ∀ (u : ByteArray) (kl : Lit), keyOf Tryz.prog 9 (.string u) = some kl → has D kl = false → V u ≠ some op := by
    intro u kl hk hh e
    have := HV.out u kl hk (.held (.int .i64 (op + 1)))
    rw [e, atKey_of_not_has hh] at this
    have h3 : DataW.held (Value.int .i64 (op + 1)) = DataW.held (Value.int .i64 op) := this
    injection h3 with h3
    injection h3 with _ h3
    omega
  have H0 := hide h0
  clear h0 hg hsz
  change Code.wp _ _ _ { tmps := #[Value.map (some b), .int .i64 op, undef, undef, .string ⟨#[]⟩, undef, undef, .map (some b), .pointer (some ⟨w.heap.size, 0, none⟩), undef, undef, undef, undef, undef, undef, undef, undef, undef], defers := [] } _
  go_loopw [5, 6] (fun _ _ wr => ∃ (left : Lit → Bool) (cnt : Nat), wr.ranges Tryz.prog 9 Rv b w.heap.size n D left cnt ∧ Below w.heap.size w wr ∧ Hid (∀ (u : ByteArray) (kl : Lit), keyOf Tryz.prog 9 (.string u) = some kl → left kl = false → V u ≠ some op)) (fun _ _ wr => wr.rangeLeft b w.heap.size)
  case atStart => exact ⟨_, _, hr, hb1, H0⟩
  case round =>
    clear hr hb1 H0
    obtain ⟨left, cnt, hr, hbr, HL⟩ := hrel
    have hcnt := hr.left_eq
    go_upto_region 2 with (fail)
    refine wp_region_lit ?_
    refine wpList_next_ranges wr rfl (.tmp 8) rfl 9 keyedS Rv Value.string (fun v : Value => v) (fun key kl hk => by obtain ⟨s, rfl, _, _⟩ := WideMaps.string_of_keyOf Tryz.underlying9 hk; exact ⟨s, rfl⟩) (fun v y _ => ⟨v, rfl⟩) b w.heap.size n D left cnt rfl hr ?_ ?_
    · intro h0 hl
      have HE : Hid (∀ u : ByteArray, u.size ≤ maxLen → V u ≠ some op) := by
        intro u hu
        obtain ⟨kl, hkl⟩ := Option.isSome_iff_exists.1 (keyS hu)
        exact HL.out u kl hkl (hl kl)
      clear hl
      go_wp2
      go_ret
      exact ⟨hbr, ByteArray.empty, rfl, .inr ⟨rfl, HE.out⟩⟩
    · intro x c kl y w' cnt' hk hlk hy hat hrg' hlt hgr hsz hen
      obtain ⟨v, hv, rfl⟩ : ∃ v, V x = some v ∧ c = .int .i64 v := by
        have e1 := (HV.out x kl hk (.held (.int .i64 0))).symm.trans (hat _)
        have e2 := (HV.out x kl hk (.held (.int .i64 1))).symm.trans (hat _)
        cases hvx : V x with
        | none =>
          rw [hvx] at e1 e2
          have := e1.trans e2.symm
          simp at this
        | some v =>
          rw [hvx] at e1
          refine ⟨v, rfl, ?_⟩
          simp only [Rv, Option.some.injEq] at hy
          subst hy
          simpa using e1.symm
      have hb' := hbr.grown hgr hbr.size (by simp)
      by_cases ho : v = op
      · subst ho
        have HVX := hide hv
        clear hat hy hv HL
        go_wp2
        go_ret
        exact ⟨hb', x, rfl, .inl HVX.out⟩
      · have HN : Hid (∀ (u : ByteArray) (k2 : Lit), keyOf Tryz.prog 9 (.string u) = some k2 → (left k2 && !k2.sameKey kl) = false → V u ≠ some op) := by
          intro u k2 hk2 hf e
          by_cases hq : k2 = kl
          · subst hq
            have : u = x := Value.string.inj (keyedS.inj hk2 hk)
            subst this
            rw [hv] at e
            injection e with e
            exact ho e
          · rw [sameKey_ne hq] at hf
            exact HL.out u k2 hk2 (by simpa using hf) e
        have hcnt' := hrg'.left_eq
        clear hat hy hv HL
        go_wp2
        go_roundw
        case rel => exact ⟨_, cnt', hrg', hb', HN⟩
        case measure => rw [hcnt, hcnt']; exact hlt
end Go.Proofs.YtkomgidcgepknaaGreatDoor
