/-
  Chapter 22: without quotients and tests for equality, and with each name once, both bounds are values for ends of the ranges. No program.
-/
import Derived.Test.YtnlcfbaaomdjdaaDoorBndP
set_option linter.unusedVariables false
set_option linter.unusedSimpArgs false
namespace Go.Proofs.YtnlcfbaaomdjdaaDoor

/-- An end of a range: the greater one for true. -/
def en (w : Bool) (s : Int × Int) : Int := if w = true then s.2 else s.1
theorem en_f (s : Int × Int) : en false s = s.1 := rfl
theorem en_t (s : Int × Int) : en true s = s.2 := rfl
theorem ends5 (x y : Int × Int) (w : Bool) (h1 : beyondL (hullL [timesL x.1 y.1, timesL x.1 y.2, timesL x.2 y.1, timesL x.2 y.2]).1 = false)
    (h2 : beyondL (hullL [timesL x.1 y.1, timesL x.1 y.2, timesL x.2 y.1, timesL x.2 y.2]).2 = false) :
    ∃ a b, en a x * en b y = en w (hullL [timesL x.1 y.1, timesL x.1 y.2, timesL x.2 y.1, timesL x.2 y.2]) := by
  obtain ⟨m1, m2⟩ := hull_mem (l := [timesL x.1 y.1, timesL x.1 y.2, timesL x.2 y.1, timesL x.2 y.2]) (by simp)
  have k : ∀ n, n ∈ [timesL x.1 y.1, timesL x.1 y.2, timesL x.2 y.1, timesL x.2 y.2] → beyondL n = false → ∃ a b, en a x * en b y = n := by
    intro n hn hb
    have nb : ¬ beyondL n = true := by rw [hb]; exact Bool.false_ne_true
    simp only [List.mem_cons, List.not_mem_nil, or_false] at hn
    rcases hn with rfl | rfl | rfl | rfl
    · exact ⟨false, false, by rw [en_f, en_f]; exact (times_in nb).symm⟩
    · exact ⟨false, true, by rw [en_f, en_t]; exact (times_in nb).symm⟩
    · exact ⟨true, false, by rw [en_t, en_f]; exact (times_in nb).symm⟩
    · exact ⟨true, true, by rw [en_t, en_t]; exact (times_in nb).symm⟩
  cases w
  · rw [en_f]; exact k _ m1 h1
  · rw [en_t]; exact k _ m2 h2
theorem ends9 (x y z : Int × Int) (w : Bool) : ∃ a b c, (if 0 < en a x then en b y else en c z) = en w (if 0 < x.1 then y else if x.2 ≤ 0 then z else hullL [y.1, y.2, z.1, z.2]) := by
  by_cases g1 : 0 < x.1
  · rw [if_pos g1]
    exact ⟨false, w, w, if_pos g1⟩
  · rw [if_neg g1]
    by_cases g2 : x.2 ≤ 0
    · rw [if_pos g2]
      exact ⟨false, w, w, if_neg g1⟩
    · rw [if_neg g2]
      have g3 : 0 < x.2 := by omega
      obtain ⟨m1, m2⟩ := hull_mem (l := [y.1, y.2, z.1, z.2]) (by simp)
      have key : ∀ n, n ∈ [y.1, y.2, z.1, z.2] → ∃ a b c, (if 0 < en a x then en b y else en c z) = n := by
        intro n hn
        simp only [List.mem_cons, List.not_mem_nil, or_false] at hn
        rcases hn with rfl | rfl | rfl | rfl
        · exact ⟨true, false, false, if_pos g3⟩
        · exact ⟨true, true, false, if_pos g3⟩
        · exact ⟨false, false, false, if_neg g1⟩
        · exact ⟨false, false, true, if_neg g1⟩
      cases w
      · exact key _ m1
      · exact key _ m2
theorem ends10 (x y : Int × Int) (hx : x.1 ≤ x.2) (hy : y.1 ≤ y.2) (w : Bool) : ∃ a b, (if en a x < en b y then (1 : Int) else 0) = en w (flagsL (decide (x.1 < y.2)) (decide (y.1 ≤ x.2))) := by
  unfold flagsL
  simp only [decide_eq_false_iff_not]
  by_cases m : x.1 < y.2
  · rw [if_neg (by simpa using m)]
    have v1 : (if x.1 < y.2 then (1 : Int) else 0) = 1 := if_pos m
    by_cases k : y.1 ≤ x.2
    · rw [if_neg (by simpa using k)]
      have v2 : (if x.2 < y.1 then (1 : Int) else 0) = 0 := if_neg (by omega)
      cases w
      · exact ⟨true, false, v2⟩
      · exact ⟨false, true, v1⟩
    · rw [if_pos k]
      exact ⟨false, true, by cases w <;> exact v1⟩
  · rw [if_pos m]
    have v : (if x.1 < y.1 then (1 : Int) else 0) = 0 := if_neg (by omega)
    exact ⟨false, false, by cases w <;> exact v⟩
theorem en_pair (w : Bool) (a b : Int) : en w (a, b) = if w = true then b else a := rfl
theorem node_ends {op : Int} {x y z : Int × Int} (hx : x.1 ≤ x.2) (hy : y.1 ≤ y.2) (hop : 3 ≤ op ∧ op ≤ 12) (h6 : op ≠ 6) (h11 : op ≠ 11)
    (h1 : beyondL (nodeB op x y z).1 = false) (h2 : beyondL (nodeB op x y z).2 = false) (w : Bool) : ∃ a b c, opV op (en a x) (en b y) (en c z) = en w (nodeB op x y z) := by
  have hc : op = 3 ∨ op = 4 ∨ op = 5 ∨ op = 7 ∨ op = 8 ∨ op = 9 ∨ op = 10 ∨ op = 12 := by omega
  unfold nodeB at h1 h2 ⊢
  unfold opV
  rcases hc with rfl | rfl | rfl | rfl | rfl | rfl | rfl | rfl <;> simp only [Int.reduceEq, if_true, if_false] at h1 h2 ⊢
  · exact ⟨w, w, w, by cases w <;> simp [en]⟩
  · exact ⟨w, !w, w, by cases w <;> simp [en]⟩
  · obtain ⟨a, b, h⟩ := ends5 x y w h1 h2
    exact ⟨a, b, false, h⟩
  · exact ⟨w, w, w, by cases w <;> simp [en]⟩
  · exact ⟨w, w, w, by cases w <;> simp [en]⟩
  · exact ends9 x y z w
  · obtain ⟨a, b, h⟩ := ends10 x y hx hy w
    exact ⟨a, b, false, h⟩
  · exact ⟨!w, w, w, by cases w <;> simp [en]⟩

/-- The value of a node, with an end for each node that is a name. -/
def valI (l : List Rng) (β : Nat → Bool) (n : Nat) (vs : List Int) (x : Nod) : Int :=
  if x.op = 1 then x.n else if x.op = 2 then en (β n) ((look l x.name).getD (0, 0)) else opV x.op (valAt vs (kidAt x 0)) (valAt vs (kidAt x 1)) (valAt vs (kidAt x 2))
/-- The values of the first n nodes. -/
def valsI (l : List Rng) (e : List Nod) (β : Nat → Bool) : Nat → List Int
  | 0 => []
  | n + 1 => valsI l e β n ++ [valI l β n (valsI l e β n) (nodAt e n)]
theorem valsI_len (l : List Rng) (e : List Nod) (β : Nat → Bool) : ∀ n, (valsI l e β n).length = n
  | 0 => rfl
  | n + 1 => by simp [valsI, valsI_len l e β n]
theorem valsI_get (l : List Rng) (e : List Nod) (β : Nat → Bool) (i : Nat) : ∀ n, i < n → (valsI l e β n).getD i 0 = valI l β i (valsI l e β i) (nodAt e i)
  | 0, h => by omega
  | n + 1, h => by
    simp only [valsI, List.getD_eq_getElem?_getD]
    by_cases hi : i < n
    · rw [List.getElem?_append_left (by rw [valsI_len]; exact hi)]
      have := valsI_get l e β i n hi
      rwa [List.getD_eq_getElem?_getD] at this
    · have : i = n := by omega
      subst this
      rw [List.getElem?_append_right (by rw [valsI_len]; exact Nat.le_refl _), valsI_len]
      simp
/-- Node r has both its bounds as values, whatever the ends of names outside lo .. r. -/
def Sol (l : List Rng) (e : List Nod) (all : List (Int × Int)) (lo r : Nat) : Prop :=
  ∀ w : Bool, ∃ σ : Nat → Bool, ∀ τ : Nat → Bool, (∀ i, lo ≤ i → i ≤ r → τ i = σ i) → valI l τ r (valsI l e τ r) (nodAt e r) = en w (all.getD r (0, 0))
def lowOf : List (Nat × Nat) → Nat
  | [] => 0
  | y :: _ => y.1 + 1
def Good (l : List Rng) (e : List Nod) (all : List (Int × Int)) : List (Nat × Nat) → Prop
  | [] => True
  | x :: os => Sol l e all (lowOf os) x.1 ∧ lowOf os ≤ x.1 ∧ Good l e all os

theorem valAt_kid (l : List Rng) (e : List Nod) (τ : Nat → Bool) (n r : Nat) (k : Int) (hk : k = r) (hr : r < n) : valAt (valsI l e τ n) k = valI l τ r (valsI l e τ r) (nodAt e r) := by
  unfold valAt
  rw [hk, Int.toNat_natCast, valsI_get l e τ r n hr]
theorem exact_scan (l : List Rng) (e : List Nod) (all : List (Int × Int)) (hg : goB l [] e = .ok all) (hlo : ∀ i : Nat, (all.getD i (0, 0)).1 ≤ (all.getD i (0, 0)).2)
    (hno : ∀ x ∈ e, x.op ≠ 6 ∧ x.op ≠ 11) (hstep : ∀ n, n < e.length → stepB l (all.take n) (nodAt e n) = .ok (all.getD n (0, 0))) :
    ∀ (n : Nat) (os : List (Nat × Nat)), n ≤ e.length → scanN e n = some os → Good l e all os ∧ (∀ x ∈ os, x.1 < n) ∧ (n = lowOf os)
  | 0, os, _, h => by injection h with h; subst h; exact ⟨trivial, fun x hx => by (cases hx), rfl⟩
  | n + 1, os, hn, h => by
    have h' : (match scanN e n with
      | none => none
      | some os => if formedL (nodAt e n) = true ∧ (nodAt e n).kids.length ≤ os.length ∧ (nodAt e n).kids.reverse = (os.take (nodAt e n).kids.length).map (fun x => (x.1 : Int))
        then some ((n, deepest (os.take (nodAt e n).kids.length) + 1) :: os.drop (nodAt e n).kids.length) else none) = some os := h
    cases hs : scanN e n with
    | none => rw [hs] at h'; cases h'
    | some os0 =>
      rw [hs] at h'
      simp only at h'
      split at h'
      · rename_i hc
        obtain ⟨hf, hkl, hkr⟩ := hc
        injection h' with h'
        obtain ⟨g0, b0, t0⟩ := exact_scan l e all hg hlo hno hstep n os0 (by omega) hs
        have hx := hstep n (by omega)
        have hxm : nodAt e n ∈ e := by
          unfold nodAt
          rw [List.getD_eq_getElem?_getD, List.getElem?_eq_getElem (by omega : n < e.length)]
          exact List.getElem_mem _
        have hok := formed_ok hf
        obtain ⟨no6, no11⟩ := hno _ hxm
        have hform := hf
        unfold formedL at hform
        rw [Bool.and_eq_true, decide_eq_true_eq] at hform
        have hops := hform.1
        obtain ⟨x, hxe⟩ : ∃ x, x = nodAt e n := ⟨_, rfl⟩
        rw [← hxe] at hf hkl hkr h' hx hxm hok no6 no11 hops
        obtain ⟨kids, hkk⟩ : ∃ kids, kids = x.kids := ⟨_, rfl⟩
        rw [← hkk] at hkl hkr h' hops
        have hkid : ∀ j, kidAt x j = kids.getD j 0 := fun j => by unfold kidAt; rw [hkk]
        have fin : ∀ rest, os = (n, deepest (os0.take kids.length) + 1) :: rest → Good l e all rest → (∀ y ∈ rest, y.1 < n) → Sol l e all (lowOf rest) n → lowOf rest ≤ n → Good l e all os ∧ (∀ y ∈ os, y.1 < n + 1) ∧ (n + 1 = lowOf os) := by
          intro rest he hgr hbr hsol hle
          subst he
          refine ⟨⟨hsol, hle, hgr⟩, fun y hy => ?_, rfl⟩
          rcases List.mem_cons.1 hy with rfl | hy
          · exact Nat.lt_succ_self _
          · have := hbr y hy; omega
        by_cases e1 : x.op = 1
        · have hk0 : kids = [] := by
            have : operands x.op = 0 := by unfold operands; rw [if_pos (.inl e1)]
            rw [this] at hops
            exact List.eq_nil_of_length_eq_zero (by omega)
          rw [hk0] at h'
          refine fin os0 (by rw [← h', hk0]; rfl) g0 b0 ?_ (by omega)
          intro w
          refine ⟨fun _ => false, fun τ _ => ?_⟩
          unfold stepB at hx
          rw [if_pos e1] at hx
          injection hx with hx
          unfold valI
          rw [← hxe, if_pos e1, ← hx]
          cases w <;> simp [en]
        · by_cases e2 : x.op = 2
          · have hk0 : kids = [] := by
              have : operands x.op = 0 := by unfold operands; rw [if_pos (.inr e2)]
              rw [this] at hops
              exact List.eq_nil_of_length_eq_zero (by omega)
            rw [hk0] at h'
            refine fin os0 (by rw [← h', hk0]; rfl) g0 b0 ?_ (by omega)
            intro w
            refine ⟨fun _ => w, fun τ hτ => ?_⟩
            unfold stepB at hx
            rw [if_neg e1, if_pos e2] at hx
            cases hl : look l x.name with
            | none => rw [hl] at hx; cases hx
            | some s =>
              rw [hl] at hx
              injection hx with hx
              unfold valI
              rw [← hxe, if_neg e1, if_pos e2, hτ n (by omega) (Nat.le_refl _), hl, ← hx]
              rfl
          · -- an operator: its operands are the top of the stack
            unfold stepB at hx
            rw [if_neg e1, if_neg e2] at hx
            split at hx
            · cases hx
            · rename_i hb
              injection hx with hx
              rw [Bool.not_eq_true, Bool.or_eq_false_iff] at hb
              have hsp : ∀ r : Nat, r < n → (all.take n).getD r (0, 0) = all.getD r (0, 0) := fun r hr => by
                simp only [List.getD_eq_getElem?_getD, List.getElem?_take, hr, if_true]
              have hspan : ∀ (k : Int) (r : Nat), k = r → r < n → spanAt (all.take n) k = all.getD r (0, 0) := fun k r hk hr => by
                unfold spanAt
                rw [hk, Int.toNat_natCast, hsp r hr]
              have hV : ∀ τ : Nat → Bool, valI l τ n (valsI l e τ n) (nodAt e n) = opV x.op (valAt (valsI l e τ n) (kidAt x 0)) (valAt (valsI l e τ n) (kidAt x 1)) (valAt (valsI l e τ n) (kidAt x 2)) := fun τ => by
                unfold valI
                rw [← hxe, if_neg e1, if_neg e2]
              have hlo' : ∀ k : Int, (spanAt (all.take n) k).1 ≤ (spanAt (all.take n) k).2 := fun k => by
                unfold spanAt
                by_cases hr : k.toNat < n
                · rw [hsp _ hr]; exact hlo _
                · have : (all.take n)[k.toNat]? = none := by rw [List.getElem?_take, if_neg hr]
                  rw [List.getD_eq_getElem?_getD, this]
                  exact Int.le_refl _
              have ends := fun w => node_ends (hlo' (kidAt x 0)) (hlo' (kidAt x 1)) (by have := hok.1; have := hok.2.1; omega) no6 no11 hb.1 hb.2 w
              rw [hx] at ends
              -- one, two or three operands
              have hn3 : kids.length = 1 ∨ kids.length = 2 ∨ kids.length = 3 := by
                have h3 : 3 ≤ x.op ∧ x.op ≤ 12 := by have := hok.1; have := hok.2.1; omega
                unfold operands at hops
                rw [if_neg (by omega)] at hops
                split at hops
                · omega
                · split at hops
                  · omega
                  · rw [if_pos (by omega)] at hops
                    omega
              -- the operands that an operator has not are read nowhere else
              match kids, os0, hn3, hkl, hkr, h', hkid, fin, g0, b0, t0, hops with
              | [k0], x0 :: rest, _, _, hkr, h', hkid, fin, g0, b0, t0, hops =>
                have k0e : k0 = (x0.1 : Int) := by simpa using hkr
                refine fin rest h'.symm g0.2.2 (fun y hy => b0 y (List.mem_cons_of_mem _ hy)) ?_ (by have := g0.2.1; have := b0 x0 (by simp); omega)
                have r0 : x0.1 < n := b0 x0 (by simp)
                have op12 : x.op = 12 := by
                  have hops' : operands x.op = 1 := hops
                  unfold operands at hops'
                  rw [if_neg (by omega)] at hops'
                  split at hops'
                  · assumption
                  · split at hops'
                    · omega
                    · split at hops' <;> omega
                intro w
                obtain ⟨wa, wb, wc, he⟩ := ends w
                obtain ⟨σ, hσ⟩ := g0.1 wa
                refine ⟨σ, fun τ hτ => ?_⟩
                have v0 := hσ τ (fun i h1 h2 => hτ i h1 (by omega))
                rw [hV, hkid 0]
                rw [hkid 0] at he
                have s0 : spanAt (all.take n) k0 = all.getD x0.1 (0, 0) := hspan k0 x0.1 k0e r0
                have u0 : valAt (valsI l e τ n) k0 = en wa (all.getD x0.1 (0, 0)) := (valAt_kid l e τ n x0.1 k0 k0e r0).trans v0
                show opV x.op (valAt (valsI l e τ n) k0) _ _ = _
                have he' : opV x.op (en wa (spanAt (all.take n) k0)) (en wb (spanAt (all.take n) (kidAt x 1))) (en wc (spanAt (all.take n) (kidAt x 2))) = en w (all.getD n (0, 0)) := he
                rw [s0] at he'
                rw [u0]
                have neg : ∀ a b c, opV x.op a b c = -a := fun a b c => by rw [op12]; rfl
                rw [neg] at he' ⊢
                exact he'
              | [k0, k1], x1 :: x0 :: rest, _, _, hkr, h', hkid, fin, g0, b0, t0, hops =>
                have ks : k1 = (x1.1 : Int) ∧ k0 = (x0.1 : Int) := by simpa using hkr
                refine fin rest h'.symm g0.2.2.2.2 (fun y hy => b0 y (by simp [hy])) ?_ (by have := g0.2.1; have := g0.2.2.2.1; have := b0 x0 (by simp); omega)
                have r1 : x1.1 < n := b0 x1 (by simp)
                have l1 : x0.1 + 1 ≤ x1.1 := g0.2.1
                have l0 : lowOf rest ≤ x0.1 := g0.2.2.2.1
                have r0 : x0.1 < n := by omega
                have op2 : ∀ a b c c', opV x.op a b c = opV x.op a b c' := by
                  intro a b c c'
                  have hops' : operands x.op = 2 := hops
                  have : x.op ≠ 9 := by
                    intro e9
                    rw [e9] at hops'
                    exact absurd hops' (by decide)
                  unfold opV
                  rw [if_neg this, if_neg this]
                intro w
                obtain ⟨wa, wb, wc, he⟩ := ends w
                obtain ⟨σ0, h0⟩ := g0.2.2.1 wa
                obtain ⟨σ1, h1⟩ := g0.1 wb
                refine ⟨fun i => if i ≤ x0.1 then σ0 i else σ1 i, fun τ hτ => ?_⟩
                have v0 := h0 τ (fun i a1 a2 => (hτ i a1 (by omega)).trans (if_pos a2))
                have v1 := h1 τ (fun i a1 a2 => by
                  have a1' : x0.1 + 1 ≤ i := a1
                  exact (hτ i (by omega) (by omega)).trans (if_neg (by omega)))
                rw [hV, hkid 0, hkid 1]
                rw [hkid 0, hkid 1] at he
                have he' : opV x.op (en wa (spanAt (all.take n) k0)) (en wb (spanAt (all.take n) k1)) (en wc (spanAt (all.take n) (kidAt x 2))) = en w (all.getD n (0, 0)) := he
                rw [hspan k0 x0.1 ks.2 r0, hspan k1 x1.1 ks.1 r1] at he'
                show opV x.op (valAt (valsI l e τ n) k0) (valAt (valsI l e τ n) k1) _ = _
                rw [valAt_kid l e τ n x0.1 k0 ks.2 r0, valAt_kid l e τ n x1.1 k1 ks.1 r1, v0, v1, op2 _ _ _ (en wc (spanAt (all.take n) (kidAt x 2)))]
                exact he'
              | [k0, k1, k2], x2 :: x1 :: x0 :: rest, _, _, hkr, h', hkid, fin, g0, b0, t0, hops =>
                have ks : k2 = (x2.1 : Int) ∧ k1 = (x1.1 : Int) ∧ k0 = (x0.1 : Int) := by simpa using hkr
                refine fin rest h'.symm g0.2.2.2.2.2.2 (fun y hy => b0 y (by simp [hy])) ?_ (by have := g0.2.1; have := g0.2.2.2.1; have := g0.2.2.2.2.2.1; have := b0 x0 (by simp); omega)
                have r2 : x2.1 < n := b0 x2 (by simp)
                have l2 : x1.1 + 1 ≤ x2.1 := g0.2.1
                have l1 : x0.1 + 1 ≤ x1.1 := g0.2.2.2.1
                have l0 : lowOf rest ≤ x0.1 := g0.2.2.2.2.2.1
                have r1 : x1.1 < n := by omega
                have r0 : x0.1 < n := by omega
                intro w
                obtain ⟨wa, wb, wc, he⟩ := ends w
                obtain ⟨σ0, h0⟩ := g0.2.2.2.2.1 wa
                obtain ⟨σ1, h1⟩ := g0.2.2.1 wb
                obtain ⟨σ2, h2⟩ := g0.1 wc
                refine ⟨fun i => if i ≤ x0.1 then σ0 i else if i ≤ x1.1 then σ1 i else σ2 i, fun τ hτ => ?_⟩
                have v0 := h0 τ (fun i a1 a2 => (hτ i a1 (by omega)).trans (if_pos a2))
                have v1 := h1 τ (fun i a1 a2 => by
                  have a1' : x0.1 + 1 ≤ i := a1
                  exact (hτ i (by omega) (by omega)).trans ((if_neg (by omega)).trans (if_pos a2)))
                have v2 := h2 τ (fun i a1 a2 => by
                  have a1' : x1.1 + 1 ≤ i := a1
                  exact (hτ i (by omega) (by omega)).trans ((if_neg (by omega)).trans (if_neg (by omega))))
                rw [hV, hkid 0, hkid 1, hkid 2]
                rw [hkid 0, hkid 1, hkid 2] at he
                have he' : opV x.op (en wa (spanAt (all.take n) k0)) (en wb (spanAt (all.take n) k1)) (en wc (spanAt (all.take n) k2)) = en w (all.getD n (0, 0)) := he
                rw [hspan k0 x0.1 ks.2.2 r0, hspan k1 x1.1 ks.2.1 r1, hspan k2 x2.1 ks.1 r2] at he'
                show opV x.op (valAt (valsI l e τ n) k0) (valAt (valsI l e τ n) k1) (valAt (valsI l e τ n) k2) = _
                rw [valAt_kid l e τ n x0.1 k0 ks.2.2 r0, valAt_kid l e τ n x1.1 k1 ks.2.1 r1, valAt_kid l e τ n x2.1 k2 ks.1 r2, v0, v1, v2]
                exact he'
      · cases h'
end Go.Proofs.YtnlcfbaaomdjdaaDoor
