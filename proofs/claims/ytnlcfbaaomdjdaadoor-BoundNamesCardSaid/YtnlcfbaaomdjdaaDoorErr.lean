/-
  Chapter 22, BoundErrors: the plain law and the walk.
-/
import Derived.Test.YtnlcfbaaomdjdaaDoorFew
set_option linter.unusedVariables false
set_option linter.unusedSimpArgs false
namespace Go.Proofs.YtnlcfbaaomdjdaaDoor
open Go.RowKit Go.Deep Go.Maps

def unkB (l : List Rng) (x : Nod) : Bool := decide (x.op = 2) && !hasR l x.name
def namedL (e : List Nod) (l : List Rng) : Bool := e.any (unkB l)
theorem step_err {l : List Rng} {all : List (Int × Int)} {x : Nod} {r : Int} (h : stepB l all x = .error r) : (r = 7 ∧ unkB l x = true) ∨ r = 9 := by
  unfold stepB at h
  by_cases h1 : x.op = 1
  · rw [if_pos h1] at h; cases h
  · rw [if_neg h1] at h
    by_cases h2 : x.op = 2
    · rw [if_pos h2] at h
      have hl := look_has l x.name
      cases hk : look l x.name with
      | some s => rw [hk] at h; cases h
      | none =>
        rw [hk] at h hl
        injection h with h
        refine .inl ⟨h.symm, ?_⟩
        unfold unkB
        rw [← hl, decide_eq_true h2]
        rfl
    · rw [if_neg h2] at h
      by_cases h3 : (beyondL (nodeB x.op (spanAt all (kidAt x 0)) (spanAt all (kidAt x 1)) (spanAt all (kidAt x 2))).1 || beyondL (nodeB x.op (spanAt all (kidAt x 0)) (spanAt all (kidAt x 1)) (spanAt all (kidAt x 2))).2) = true
      · rw [if_pos h3] at h
        injection h with h
        exact .inr h.symm
      · rw [if_neg h3] at h; cases h
theorem step_okn {l : List Rng} {all : List (Int × Int)} {x : Nod} {s : Int × Int} (h : stepB l all x = .ok s) : unkB l x = false := by
  unfold stepB at h
  unfold unkB
  by_cases h1 : x.op = 1
  · rw [decide_eq_false (by omega)]; rfl
  · rw [if_neg h1] at h
    by_cases h2 : x.op = 2
    · rw [if_pos h2] at h
      have hl := look_has l x.name
      cases hk : look l x.name with
      | some s => rw [hk] at hl; rw [← hl]; simp
      | none => rw [hk] at h; cases h
    · rw [decide_eq_false h2]; rfl
theorem goB_err {l : List Rng} : ∀ (e : List Nod) (all : List (Int × Int)) {r : Int}, goB l all e = .error r → (r = 7 ∧ namedL e l = true) ∨ r = 9
  | [], all, r, h => by cases h
  | x :: e, all, r, h => by
    have h' : (match stepB l all x with | Except.error r => Except.error r | Except.ok s => goB l (all ++ [s]) e) = .error r := h
    cases hs : stepB l all x with
    | error r' =>
      rw [hs] at h'
      injection h' with h'
      subst h'
      rcases step_err hs with ⟨h1, h2⟩ | h1
      · exact .inl ⟨h1, by unfold namedL; rw [List.any_cons, h2]; rfl⟩
      · exact .inr h1
    | ok s =>
      rw [hs] at h'
      rcases goB_err e _ h' with ⟨h1, h2⟩ | h1
      · exact .inl ⟨h1, by unfold namedL at h2 ⊢; rw [List.any_cons, h2, Bool.or_true]⟩
      · exact .inr h1
theorem goB_okn {l : List Rng} : ∀ (e : List Nod) (all : List (Int × Int)) {all' : List (Int × Int)}, goB l all e = .ok all' → namedL e l = false
  | [], all, _, h => rfl
  | x :: e, all, all', h => by
    have h' : (match stepB l all x with | Except.error r => Except.error r | Except.ok s => goB l (all ++ [s]) e) = .ok all' := h
    cases hs : stepB l all x with
    | error r' => rw [hs] at h'; cases h'
    | ok s =>
      rw [hs] at h'
      have := goB_okn e _ h'
      unfold namedL at this ⊢
      rw [List.any_cons, this, step_okn hs]
      rfl
theorem errors_plain (e : List Nod) (l : List Rng) : ((validL e && validRs l) = false ∧ (boundsL e l).2.2 = 1) ∨ (validL e = true ∧ validRs l = true ∧ (((boundsL e l).2.2 = 0 ∧ namedL e l = false) ∨ ((boundsL e l).2.2 = 7 ∧ namedL e l = true) ∨ (boundsL e l).2.2 = 9)) := by
  unfold boundsL
  by_cases hv : validRs l = false ∨ validL e = false
  · rw [if_pos hv]
    left
    rcases hv with h | h <;> rw [h] <;> simp
  · rw [if_neg hv]
    right
    have h1 : validRs l = true := by cases h : validRs l <;> simp_all
    have h2 : validL e = true := by cases h : validL e <;> simp_all
    refine ⟨h2, h1, ?_⟩
    cases hg : goB l [] e with
    | error r =>
      rcases goB_err e _ hg with ⟨h1, h2⟩ | h1
      · exact .inr (.inl ⟨h1, h2⟩)
      · exact .inr (.inr h1)
    | ok all => exact .inl ⟨rfl, goB_okn e _ hg⟩
theorem named_next {e : List Nod} {l : List Rng} {k : Nat} {x : Nod} (h : e.take (k + 1) = e.take k ++ [x]) : namedL (e.take (k + 1)) l = (namedL (e.take k) l || unkB l x) := by
  rw [h]
  unfold namedL
  rw [List.any_append, List.any_cons, List.any_nil, Bool.or_false]
theorem has_next {l : List Rng} {k : Nat} {r : Rng} {t : ByteArray} (h : l.take (k + 1) = l.take k ++ [r]) : hasR (l.take (k + 1)) t = (hasR (l.take k) t || decide (r.name = t)) := by
  rw [h, hasR_snoc]

set_option maxHeartbeats 8000000 in
set_option maxRecDepth 20000 in
theorem errors_any (A : Option Addr) (c : Nat) (e : List Nod) (A2 : Option Addr) (n2 c2 : Nat) (l : List Rng) (w : World) (he : ExprAt w w.heap.size A e) (hem : e.length ≤ maxLen) (hl : RRg w w.heap.size A2 n2 l) (hln : n2 ≤ maxLen)
    (hen : ∀ x ∈ e, x.name.size ≤ maxLen) (hrn : ∀ r ∈ l, r.name.size ≤ maxLen) (hkn : ∀ x ∈ e, x.kids.length ≤ maxLen) :
    Calls Tryd.prog 7 #[.slice A e.length c, .slice A2 n2 c2] w fun en w' => en = .returned (.bool true) ∧ Below w.heap.size w w' := by
  have HE := hide he
  have HL := hide hl
  have HEN := hide hen
  have HRN := hide hrn
  have HKN := hide hkn
  have HLN := hide hl.len
  have HEM := hide hem
  have HLM := hide hln
  unfold maxLen at hem hln
  clear he hl hen hrn hkn
  go_enter Tryd.func7, Tryd.ntmps7
  go_wp2_with fail
  refine (head_any w).mono ?_
  rintro en w1 ⟨rfl, hb1⟩
  have HE1 := hide (HE.out.next hb1)
  have HL1 := hide (HL.out.next hb1)
  go_wp2_with fail
  refine (few_any A c e A2 n2 c2 l w1 HE1.out HEM.out HL1.out HLM.out HEN.out HRN.out HKN.out).mono ?_
  rintro en w2 ⟨rfl, rfl⟩
  cases hfew : fewL e l
  · have HB1 := hide hb1
    clear hb1
    go_wp2
    go_ret
    exact ⟨rfl, HB1.out⟩
  · go_wp2_with fail
    refine (bounds_any A c e A2 n2 c2 l w1 HE1.out HEN.out HEM.out HL1.out HLM.out HRN.out).mono ?_
    rintro en w2 ⟨rfl, hb2⟩
    have HE2 := hide (HE1.out.next hb2)
    have HL2 := hide (HL1.out.next hb2)
    have HB2 := hide (hb1.trans (hb2.mono hb1.size))
    have HP := hide (errors_plain e l)
    clear hb1 hb2 HE1 HL1 HE HL hfew
    generalize boundsL e l = res at HP ⊢
    obtain ⟨lo, hi, err⟩ := res
    dsimp only at HP ⊢
    go_wp2
    go_loopw [9, 10] (fun nm i wr => ∃ k : Nat, k ≤ e.length ∧ i = .int .i64 k ∧ nm = .bool (namedL (e.take k) l) ∧ ∃ m, wr = w2.drewN m) (fun _ i _ => e.length - (intOf i).toNat)
    case atStart => exact ⟨0, Nat.zero_le _, rfl, rfl, 0, rfl⟩
    case round =>
      obtain ⟨k, hk, rfl, rfl, m, hwm⟩ := hrel
      have HW := hide hwm
      have HE3 := hide (show ExprAt wr wr.heap.size A e by rw [hwm]; exact HE2.out)
      have HL3 := hide (show RRg wr wr.heap.size A2 n2 l by rw [hwm]; exact HL2.out)
      have HB3 := hide (show Below w.heap.size w wr by rw [hwm]; exact below_drewN HB2.out m)
      clear hwm
      obtain ⟨wo, hwo⟩ : ∃ wo : World, wo = wr := ⟨_, rfl⟩
      subst hwo
      by_cases hlt : k < e.length
      · obtain ⟨b, off, K, kc, rfl, hb, x0, x1, x2, x3, hK⟩ := HE3.out.at_ hlt
        have HT := hide (named_next (l := l) (nod_take (e := e) (i := k) hlt))
        generalize nodAt e k = x at x0 x1 x2 x3 hK HT
        clear hK x1 x3
        have HU : Hid (unkB l x = !(!decide (x.op = 2) || hasR l x.name)) := by
          show _ = _
          unfold unkB
          cases decide (x.op = 2) <;> cases hasR l x.name <;> rfl
        obtain ⟨nm, hnm⟩ : ∃ b, b = namedL (e.take k) l := ⟨_, rfl⟩
        rw [← hnm] at HT ⊢
        clear hnm
        have HO : Hid ((x.op != 2) = !decide (x.op = 2)) := by
          show _ = _
          cases h : decide (x.op = 2)
          · exact bne_iff_ne.2 (of_decide_eq_false h)
          · rw [of_decide_eq_true h]; rfl
        go_upto_region 12 with (fail)
        go_loopw [11, 12] (fun f j wr => ∃ q : Nat, q ≤ n2 ∧ j = .int .i64 q ∧ f = .bool (!decide (x.op = 2) || hasR (l.take q) x.name) ∧ ∃ m, wr = wo.drewN m) (fun _ j _ => n2 - (intOf j).toNat)
        case atStart => exact ⟨0, Nat.zero_le _, rfl, by show Value.bool _ = _; rw [HO.out]; simp [hasR], 0, rfl⟩
        case round =>
          obtain ⟨q, hq, rfl, rfl, m2, hwm2⟩ := hrel
          have HW2 := hide hwm2
          have y2 : wr.cell? ⟨b, off + k * 4 + 2, none⟩ = some (.string x.name) := by rw [hwm2]; exact x2
          have HL4 := hide (show RRg wr wr.heap.size A2 n2 l by rw [hwm2]; exact HL3.out)
          clear hwm2 x0 x2
          by_cases hq2 : q < n2
          · have hql : q < l.length := by rw [HLN.out]; exact hq2
            obtain ⟨b', off', rfl, hb', z0, -, -⟩ := HL4.out.at_ hq2
            have HT2 := hide (has_next (t := x.name) (rng_take (rs := l) (i := q) hql))
            generalize rngAt l q = r at z0 HT2
            obtain ⟨f, hf⟩ : ∃ f, f = hasR (l.take q) x.name := ⟨_, rfl⟩
            rw [← hf] at HT2 ⊢
            clear hf
            obtain ⟨f2, hf2⟩ : ∃ f2, f2 = (!decide (x.op = 2) || f) := ⟨_, rfl⟩
            have HF2 := hide hf2
            rw [← hf2]
            clear hf2
            cases f2
            · by_cases hn : r.name = x.name
              · rw [hn] at z0
                go_upto_region 13 with (fail)
                go_quiet (fail)
                go_wp2
                go_roundw
                case rel => exact ⟨q + 1, by omega, by go_num, by rw [HT2.out, hn]; simp, m2 + nq, by rw [HW2.out, World.drewN_drewN]⟩
                case measure => simp [intOf]; omega
              · have hn' := bytes_ne hn
                go_upto_region 13 with (fail)
                go_quiet (fail)
                go_wp2
                go_roundw
                case rel => exact ⟨q + 1, by omega, by go_num, by rw [HT2.out, decide_eq_false hn, Bool.or_false, ← HF2.out], m2 + nq, by rw [HW2.out, World.drewN_drewN]⟩
                case measure => simp [intOf]; omega
            · go_upto_region 13 with (fail)
              go_quiet (fail)
              go_wp2
              go_roundw
              case rel => exact ⟨q + 1, by omega, by go_num, by rw [HT2.out, ← Bool.or_assoc, ← HF2.out]; simp, m2 + nq, by rw [HW2.out, World.drewN_drewN]⟩
              case measure => simp [intOf]; omega
          · obtain rfl : q = n2 := by omega
            have HH : Hid (hasR (l.take q) x.name = hasR l x.name) := by
              show _ = _
              rw [List.take_of_length_le (by rw [HLN.out]; omega)]
            rw [HH.out]
            obtain ⟨f2, hf2⟩ : ∃ f2, f2 = (!decide (x.op = 2) || hasR l x.name) := ⟨_, rfl⟩
            have HF2 := hide hf2
            rw [← hf2]
            clear hf2
            cases nm
            all_goals
              cases f2
              all_goals
                go_wp2
                go_roundw
                case rel => exact ⟨k + 1, by omega, by go_num, by rw [HT.out, HU.out, ← HF2.out]; rfl, m + m2, by rw [HW2.out, HW.out, World.drewN_drewN]⟩
                case measure => simp [intOf]; omega
      · obtain rfl : k = e.length := by omega
        have HH : Hid (namedL (e.take e.length) l = namedL e l) := by
          show _ = _
          rw [List.take_length]
        rw [HH.out]
        have HE1 := hide (valid_any A c e wo HE3.out HEN.out HEM.out)
        rcases HP.out with ⟨hv, rfl⟩ | ⟨hv1, hv2, ⟨rfl, hn⟩ | ⟨rfl, hn⟩ | rfl⟩
        · cases hv1 : validL e
          · rw [hv1] at HE1
            cases namedL e l
            all_goals
              go_wp2_with fail
              refine HE1.out.mono ?_
              rintro en w4 ⟨rfl, hb4⟩
              have HB4 := hide (HB3.out.trans (hb4.mono HB3.out.size))
              clear hb4
              go_wp2
              go_ret
              exact ⟨rfl, HB4.out⟩
          · rw [hv1] at HE1 hv
            have hv2 : validRs l = false := hv
            cases namedL e l
            all_goals
              go_wp2_with fail
              refine HE1.out.mono ?_
              rintro en w4 ⟨rfl, hb4⟩
              have HB4 := hide (HB3.out.trans (hb4.mono HB3.out.size))
              have HL4 := hide (HL3.out.next hb4)
              clear hb4
              go_wp2_with fail
              refine (refValid_any A2 n2 c2 l w4 HL4.out HLM.out HRN.out).mono ?_
              rintro en w5 ⟨rfl, hb5⟩
              have HB5 := hide (HB4.out.trans (hb5.mono HB4.out.size))
              clear hb5
              rw [hv2]
              go_wp2
              go_ret
              exact ⟨rfl, HB5.out⟩
        · rw [hv1] at HE1
          rw [hn]
          go_wp2_with fail
          refine HE1.out.mono ?_
          rintro en w4 ⟨rfl, hb4⟩
          have HB4 := hide (HB3.out.trans (hb4.mono HB3.out.size))
          have HL4 := hide (HL3.out.next hb4)
          clear hb4
          go_wp2_with fail
          refine (refValid_any A2 n2 c2 l w4 HL4.out HLM.out HRN.out).mono ?_
          rintro en w5 ⟨rfl, hb5⟩
          have HB5 := hide (HB4.out.trans (hb5.mono HB4.out.size))
          clear hb5
          rw [hv2]
          go_wp2
          go_ret
          exact ⟨rfl, HB5.out⟩
        · rw [hv1] at HE1
          rw [hn]
          go_wp2_with fail
          refine HE1.out.mono ?_
          rintro en w4 ⟨rfl, hb4⟩
          have HB4 := hide (HB3.out.trans (hb4.mono HB3.out.size))
          have HL4 := hide (HL3.out.next hb4)
          clear hb4
          go_wp2_with fail
          refine (refValid_any A2 n2 c2 l w4 HL4.out HLM.out HRN.out).mono ?_
          rintro en w5 ⟨rfl, hb5⟩
          have HB5 := hide (HB4.out.trans (hb5.mono HB4.out.size))
          clear hb5
          rw [hv2]
          go_wp2
          go_ret
          exact ⟨rfl, HB5.out⟩
        · rw [hv1] at HE1
          cases namedL e l
          all_goals
            go_wp2_with fail
            refine HE1.out.mono ?_
            rintro en w4 ⟨rfl, hb4⟩
            have HB4 := hide (HB3.out.trans (hb4.mono HB3.out.size))
            have HL4 := hide (HL3.out.next hb4)
            clear hb4
            go_wp2_with fail
            refine (refValid_any A2 n2 c2 l w4 HL4.out HLM.out HRN.out).mono ?_
            rintro en w5 ⟨rfl, hb5⟩
            have HB5 := hide (HB4.out.trans (hb5.mono HB4.out.size))
            clear hb5
            rw [hv2]
            go_wp2
            go_ret
            exact ⟨rfl, HB5.out⟩
theorem errors_walk (A : Option Addr) (c : Nat) (e : List Nod) (A2 : Option Addr) (n2 c2 : Nat) (l : List Rng) (w : World) (w0 : ExprAt w w.heap.size A e) (m0 : e.length ≤ maxLen)
    (b0 : ∀ x ∈ e, x.name.size ≤ maxLen ∧ x.kids.length ≤ maxLen ∧ (Lit.int .i64 x.op).wf = true ∧ (Lit.int .i64 x.n).wf = true ∧ ∀ k ∈ x.kids, (Lit.int .i64 k).wf = true) (w1 : RRg w w.heap.size A2 n2 l) (m1 : n2 ≤ maxLen)
    (b1 : ∀ r ∈ l, r.name.size ≤ maxLen ∧ (Lit.int .i64 r.low).wf = true ∧ (Lit.int .i64 r.high).wf = true) :
    Calls Tryd.prog 7 #[.slice A e.length c, .slice A2 n2 c2] w fun en w' => en = .returned (.bool true) ∧ Below w.heap.size w w' :=
  errors_any A c e A2 n2 c2 l w w0 m0 w1 m1 (fun x hx => (b0 x hx).1) (fun r hr => (b1 r hr).1) (fun x hx => (b0 x hx).2.1)
end Go.Proofs.YtnlcfbaaomdjdaaDoor
