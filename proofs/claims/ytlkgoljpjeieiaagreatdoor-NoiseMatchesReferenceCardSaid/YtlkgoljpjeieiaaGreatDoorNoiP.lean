/-
  Chapter 17: the sums of n offsets of a tape. No program.
-/
import Derived.Test.YtlkgoljpjeieiaaGreatDoorBase
set_option linter.unusedVariables false
set_option linter.unusedSimpArgs false
namespace Go.Proofs.YtlkgoljpjeieiaaGreatDoor

/-- All sums of n offsets. -/
def sums17 (tape : List Int) : Nat → List Int
  | 0 => [0]
  | n + 1 => (sums17 tape n).flatMap fun s => tape.map (s + ·)
theorem flat_len {α β : Type} (f : α → List β) (k : Nat) : ∀ l : List α, (∀ x ∈ l, (f x).length = k) → (l.flatMap f).length = l.length * k
  | [], _ => by simp
  | x :: l, h => by
    have := flat_len f k l fun y hy => h y (List.mem_cons_of_mem _ hy)
    rw [List.flatMap_cons, List.length_append, this, h x List.mem_cons_self, List.length_cons, Nat.add_mul]
    omega
theorem sums17_len (tape : List Int) : ∀ n, (sums17 tape n).length = tape.length ^ n
  | 0 => rfl
  | n + 1 => by
    unfold sums17
    rw [flat_len _ tape.length _ fun x _ => List.length_map _, sums17_len tape n, Nat.pow_succ]
theorem sums17_mem {tape : List Int} {n : Nat} {v : Int} : v ∈ sums17 tape (n + 1) ↔ ∃ s ∈ sums17 tape n, ∃ t ∈ tape, s + t = v := by
  show v ∈ (sums17 tape n).flatMap (fun s => tape.map (s + ·)) ↔ _
  simp only [List.mem_flatMap, List.mem_map]
theorem sums17_bd {tape : List Int} {lo hi : Int} (h : ∀ t ∈ tape, lo ≤ t ∧ t ≤ hi) : ∀ n : Nat, ∀ s ∈ sums17 tape n, (n : Int) * lo ≤ s ∧ s ≤ (n : Int) * hi
  | 0, s, hs => by
    have : s = 0 := by simpa [sums17] using hs
    subst this
    simp
  | n + 1, s, hs => by
    obtain ⟨x, hx, t, ht, rfl⟩ := sums17_mem.1 hs
    have h1 := sums17_bd h n x hx
    have h2 := h t ht
    rw [show ((n + 1 : Nat) : Int) = (n : Int) + 1 from rfl, Int.add_mul, Int.add_mul, Int.one_mul, Int.one_mul]
    omega
theorem sums17_same {tape : List Int} {t : Int} (ht : t ∈ tape) : ∀ n : Nat, (n : Int) * t ∈ sums17 tape n
  | 0 => by simp [sums17]
  | n + 1 => sums17_mem.2 ⟨_, sums17_same ht n, t, ht, by rw [show ((n + 1 : Nat) : Int) = (n : Int) + 1 from rfl, Int.add_mul, Int.one_mul]⟩
theorem sums17_ne {tape : List Int} (h : tape ≠ []) (n : Nat) : sums17 tape n ≠ [] := by
  obtain ⟨t, ht⟩ := List.exists_mem_of_ne_nil tape h
  exact List.ne_nil_of_mem (sums17_same ht n)
/-- A sum over one element of a list without repetitions. -/
theorem one_of {f : Int → Nat} {s : Int} : ∀ L : List Int, L.Nodup → (L.map fun k => if s = k then f k else 0).sum = if s ∈ L then f s else 0
  | [], _ => by simp
  | x :: L, h => by
    rw [List.nodup_cons] at h
    have := one_of (f := f) (s := s) L h.2
    rw [List.map_cons, List.sum_cons, this]
    by_cases e : s = x
    · subst e
      rw [if_pos rfl, if_neg h.1, if_pos List.mem_cons_self]
      omega
    · rw [if_neg e, Nat.zero_add]
      by_cases e2 : s ∈ L
      · rw [if_pos e2, if_pos (List.mem_cons_of_mem _ e2)]
      · rw [if_neg e2, if_neg (fun h => by rcases List.mem_cons.1 h with h | h; exact e h; exact e2 h)]
theorem sum_add2 {f g : Int → Nat} : ∀ L : List Int, (L.map fun k => f k + g k).sum = (L.map f).sum + (L.map g).sum
  | [] => rfl
  | x :: L => by
    have := sum_add2 (f := f) (g := g) L
    simp only [List.map_cons, List.sum_cons, this]
    omega
theorem sum_zero {f : Int → Nat} : ∀ L : List Int, (∀ k ∈ L, f k = 0) → (L.map f).sum = 0
  | [], _ => rfl
  | x :: L, h => by
    rw [List.map_cons, List.sum_cons, h x List.mem_cons_self, sum_zero L fun k hk => h k (List.mem_cons_of_mem _ hk)]
theorem sum_le {f g : Int → Nat} : ∀ L : List Int, (∀ k ∈ L, f k ≤ g k) → (L.map f).sum ≤ (L.map g).sum
  | [], _ => Nat.le_refl _
  | x :: L, h => by
    rw [List.map_cons, List.sum_cons, List.map_cons, List.sum_cons]
    have := sum_le L fun k hk => h k (List.mem_cons_of_mem _ hk)
    have := h x List.mem_cons_self
    omega
/-- A sum over a list, its equal elements together. -/
theorem group_sum {f : Int → Nat} {L : List Int} (hL : L.Nodup) : ∀ l : List Int, (∀ s ∈ l, s ∈ L) → (l.map f).sum = (L.map fun k => l.count k * f k).sum
  | [], _ => by rw [List.map_nil, List.sum_nil, sum_zero]; intro k hk; rw [List.count_nil, Nat.zero_mul]
  | s :: l, h => by
    have h1 := group_sum (f := f) hL l fun x hx => h x (List.mem_cons_of_mem _ hx)
    have h2 := one_of (f := f) (s := s) L hL
    rw [if_pos (h s List.mem_cons_self)] at h2
    rw [List.map_cons, List.sum_cons, h1, ← h2, Nat.add_comm, ← sum_add2]
    congr 1
    refine List.map_congr_left fun k hk => ?_
    rw [List.count_cons]
    by_cases e : s = k
    · subst e
      rw [if_pos rfl, if_pos (beq_self_eq_true _), Nat.add_mul, Nat.one_mul]
    · rw [if_neg e, if_neg (by simpa using e)]
      simp
theorem count_shift (l : List Int) (s v : Int) : (l.map (s + ·)).count v = l.count (v - s) := by
  induction l with
  | nil => simp
  | cons x l ih =>
    rw [List.map_cons, List.count_cons, List.count_cons, ih]
    congr 1
    by_cases e : s + x = v
    · have e2 : x = v - s := by omega
      rw [if_pos (by simpa using e), if_pos (by simpa using e2)]
    · have e2 : ¬ x = v - s := by omega
      rw [if_neg (by simpa using e), if_neg (by simpa using e2)]
theorem count_flat (f : Int → List Int) (v : Int) : ∀ l : List Int, (l.flatMap f).count v = (l.map fun s => (f s).count v).sum
  | [] => by simp
  | x :: l => by rw [List.flatMap_cons, List.count_append, count_flat f v l, List.map_cons, List.sum_cons]
/-- How often a value is a sum of n + 1 offsets. -/
theorem count_succ (tape : List Int) (n : Nat) (v : Int) {L : List Int} (hL : L.Nodup) (hm : ∀ s ∈ sums17 tape n, s ∈ L) :
    (sums17 tape (n + 1)).count v = (L.map fun k => (sums17 tape n).count k * tape.count (v - k)).sum := by
  show ((sums17 tape n).flatMap fun s => tape.map (s + ·)).count v = _
  rw [count_flat, ← group_sum hL _ hm]
  congr 1
  exact List.map_congr_left fun k _ => count_shift tape k v
theorem sums17_add (tape : List Int) (n : Nat) : ∀ m : Nat, sums17 tape (n + m) = (sums17 tape n).flatMap fun s => (sums17 tape m).map (s + ·)
  | 0 => by
    show sums17 tape n = _
    simp [sums17]
  | m + 1 => by
    show (sums17 tape (n + m)).flatMap (fun s => tape.map (s + ·)) = (sums17 tape n).flatMap fun s => ((sums17 tape m).flatMap fun x => tape.map (x + ·)).map (s + ·)
    rw [sums17_add tape n m, List.flatMap_assoc]
    congr 1
    funext s
    rw [List.flatMap_map, List.map_flatMap]
    congr 1
    funext x
    rw [List.map_map]
    refine List.map_congr_left fun t _ => ?_
    show s + x + t = s + (x + t)
    omega
theorem count_add (tape : List Int) (n m : Nat) (v : Int) {L : List Int} (hL : L.Nodup) (hm : ∀ s ∈ sums17 tape n, s ∈ L) :
    (sums17 tape (n + m)).count v = (L.map fun k => (sums17 tape n).count k * (sums17 tape m).count (v - k)).sum := by
  rw [sums17_add, count_flat, ← group_sum hL _ hm]
  congr 1
  exact List.map_congr_left fun k _ => count_shift _ k v
theorem sums17_shift (tape : List Int) (z : Int) : ∀ n : Nat, sums17 (tape.map (· + z)) n = (sums17 tape n).map (· + (n : Int) * z)
  | 0 => by simp [sums17]
  | n + 1 => by
    unfold sums17
    rw [sums17_shift tape z n, List.flatMap_map, List.map_flatMap]
    congr 1
    funext s
    rw [List.map_map, List.map_map]
    refine List.map_congr_left fun t _ => ?_
    show s + (n : Int) * z + (t + z) = s + t + ((n + 1 : Nat) : Int) * z
    rw [show ((n + 1 : Nat) : Int) = (n : Int) + 1 from rfl, Int.add_mul, Int.one_mul]
    omega
theorem sums17_neg (tape : List Int) : ∀ n : Nat, sums17 (tape.map (- ·)) n = (sums17 tape n).map (- ·)
  | 0 => by simp [sums17]
  | n + 1 => by
    unfold sums17
    rw [sums17_neg tape n, List.flatMap_map, List.map_flatMap]
    congr 1
    funext s
    rw [List.map_map, List.map_map]
    refine List.map_congr_left fun t _ => ?_
    show -s + -t = -(s + t)
    omega
theorem flat_perm {α β : Type} {f g : α → List β} : ∀ {l m : List α}, l.Perm m → (∀ x, (f x).Perm (g x)) → (l.flatMap f).Perm (m.flatMap g) := by
  intro l m h hf
  refine (h.flatMap_right f).trans ?_
  clear h
  induction m with
  | nil => simp
  | cons x m ih => rw [List.flatMap_cons, List.flatMap_cons]; exact (hf x).append ih
theorem sums17_perm {a b : List Int} (h : a.Perm b) : ∀ n : Nat, (sums17 a n).Perm (sums17 b n)
  | 0 => List.Perm.refl _
  | n + 1 => flat_perm (sums17_perm h n) fun x => h.map _
/-- The sum of the offsets that a case names, the last digit first. -/
def dig17 (tape : List Int) : Nat → Nat → Int
  | 0, _ => 0
  | n + 1, c => nth tape (c % tape.length) + dig17 tape n (c / tape.length)
theorem range_mul (a k : Nat) : List.range (a * k) = (List.range a).flatMap fun q => (List.range k).map fun r => q * k + r := by
  induction a with
  | zero => simp
  | succ a ih =>
    rw [Nat.add_mul, Nat.one_mul, List.range_add, ih, List.range_succ, List.flatMap_append]
    simp
theorem range_nth (tape : List Int) : (List.range tape.length).map (nth tape) = tape := by
  refine List.ext_getElem (by simp) fun i h1 h2 => ?_
  rw [List.getElem_map, List.getElem_range, nth_eq h2]
theorem cases17 (tape : List Int) : ∀ n : Nat, (List.range (tape.length ^ n)).map (dig17 tape n) = sums17 tape n
  | 0 => by simp [sums17, dig17]
  | n + 1 => by
    rw [Nat.pow_succ, range_mul, List.map_flatMap]
    unfold sums17
    rw [← cases17 tape n, List.flatMap_map]
    congr 1
    funext q
    have e : tape.map (dig17 tape n q + ·) = ((List.range tape.length).map (nth tape)).map (dig17 tape n q + ·) := by rw [range_nth]
    rw [e, List.map_map, List.map_map]
    refine List.map_congr_left fun r hr => ?_
    have hr := List.mem_range.1 hr
    show nth tape ((q * tape.length + r) % tape.length) + dig17 tape n ((q * tape.length + r) / tape.length) = dig17 tape n q + nth tape r
    rw [Nat.mul_add_mod', Nat.mod_eq_of_lt hr, Nat.mul_comm q, Nat.mul_add_div (by omega), Nat.div_eq_of_lt hr, Nat.add_zero]
    omega
theorem count_range (f : Nat → Int) (v : Int) (k : Nat) : ((List.range k).map f).count v = ((List.range k).filter fun c => decide (f c = v)).length := by
  induction k with
  | zero => simp
  | succ k ih =>
    rw [List.range_succ, List.map_append, List.count_append, ih, List.filter_append, List.length_append]
    congr 1
    by_cases e : f k = v <;> simp [e]

/-- The values of the sums, in order. -/
def supp17 (tape : List Int) (n : Nat) : List Int := ((List.range (100 * n + 1)).map fun i : Nat => (i : Int) - 50 * n).filter fun v => decide (v ∈ sums17 tape n)
theorem supp17_incr (tape : List Int) (n : Nat) : (supp17 tape n).Pairwise (· < ·) := by
  refine List.Pairwise.filter _ ?_
  rw [List.pairwise_map]
  exact List.pairwise_lt_range.imp fun h => by omega
theorem incr_nodup {l : List Int} (h : l.Pairwise (· < ·)) : l.Nodup := h.imp fun h => by omega
theorem supp17_mem {tape : List Int} (h : ∀ t ∈ tape, -50 ≤ t ∧ t ≤ 50) {n : Nat} {v : Int} : v ∈ supp17 tape n ↔ v ∈ sums17 tape n := by
  unfold supp17
  rw [List.mem_filter]
  constructor
  · rintro ⟨_, h2⟩
    simpa using h2
  · intro hv
    refine ⟨?_, by simpa using hv⟩
    have := sums17_bd h n v hv
    rw [List.mem_map]
    exact ⟨(v + 50 * n).toNat, by rw [List.mem_range]; omega, by omega⟩
theorem incr17_same : ∀ {l m : List Int}, l.Pairwise (· < ·) → m.Pairwise (· < ·) → (∀ x, x ∈ l ↔ x ∈ m) → l = m
  | [], [], _, _, _ => rfl
  | [], y :: m, _, _, h => absurd ((h y).2 List.mem_cons_self) (by simp)
  | x :: l, [], _, _, h => absurd ((h x).1 List.mem_cons_self) (by simp)
  | x :: l, y :: m, hl, hm, h => by
    rw [List.pairwise_cons] at hl hm
    have e : x = y := by
      rcases List.mem_cons.1 ((h x).1 List.mem_cons_self) with e | e
      · exact e
      · rcases List.mem_cons.1 ((h y).2 List.mem_cons_self) with e' | e'
        · exact e'.symm
        · have h1 := hm.1 x e
          have h2 := hl.1 y e'
          omega
    subst e
    congr 1
    refine incr17_same hl.2 hm.2 fun z => ⟨fun hz => ?_, fun hz => ?_⟩
    · rcases List.mem_cons.1 ((h z).1 (List.mem_cons_of_mem _ hz)) with e | e
      · have := hl.1 z hz
        omega
      · exact e
    · rcases List.mem_cons.1 ((h z).2 (List.mem_cons_of_mem _ hz)) with e | e
      · have := hm.1 z hz
        omega
      · exact e
/-- The distribution. -/
def dist17 (tape : List Int) (n : Nat) : List (Int × Nat) := (supp17 tape n).map fun v => (v, (sums17 tape n).count v)
def valid17 (tape : List Int) : Bool := decide (1 ≤ tape.length) && decide (tape.length ≤ 9) && tape.all fun t => decide (-50 ≤ t) && decide (t ≤ 50)
theorem valid17_ok {tape : List Int} (h : valid17 tape = true) : 1 ≤ tape.length ∧ tape.length ≤ 9 ∧ ∀ t ∈ tape, -50 ≤ t ∧ t ≤ 50 := by
  unfold valid17 at h
  simp only [Bool.and_eq_true, decide_eq_true_eq, List.all_eq_true] at h
  exact ⟨h.1.1, h.1.2, h.2⟩
theorem total17 {tape : List Int} (h : ∀ t ∈ tape, -50 ≤ t ∧ t ≤ 50) (n : Nat) : ((dist17 tape n).map (·.2)).sum = tape.length ^ n := by
  have := group_sum (f := fun _ => 1) (incr_nodup (supp17_incr tape n)) (sums17 tape n) fun s hs => (supp17_mem h).2 hs
  simp only [Nat.mul_one] at this
  unfold dist17
  rw [List.map_map]
  show ((supp17 tape n).map fun v => (sums17 tape n).count v).sum = _
  rw [← this, ← sums17_len]
  have h2 : ∀ l : List Int, (l.map fun _ => 1).sum = l.length := fun l => by
    induction l with
    | nil => rfl
    | cons x l ih => rw [List.map_cons, List.sum_cons, ih, List.length_cons]; omega
  exact h2 _
theorem incr_first {l : List Int} (h : l.Pairwise (· < ·)) {x : Int} (hx : x ∈ l) (hle : ∀ y ∈ l, x ≤ y) : nth l 0 = x := by
  cases l with
  | nil => simp at hx
  | cons y l =>
    rw [List.pairwise_cons] at h
    show y = x
    rcases List.mem_cons.1 hx with e | e
    · exact e.symm
    · have := h.1 x e
      have := hle y List.mem_cons_self
      omega
theorem incr_last {l : List Int} (h : l.Pairwise (· < ·)) {x : Int} (hx : x ∈ l) (hle : ∀ y ∈ l, y ≤ x) : nth l (l.length - 1) = x := by
  have hp : 0 < l.length := List.length_pos_of_mem hx
  obtain ⟨i, hi, rfl⟩ := List.getElem_of_mem hx
  rw [nth_eq (by omega)]
  by_cases e : i = l.length - 1
  · subst e
    rfl
  · have h1 := List.pairwise_iff_getElem.1 h i (l.length - 1) hi (by omega) (by omega)
    have h2 := hle _ (List.getElem_mem (show l.length - 1 < l.length by omega))
    omega
theorem supp17_shift {tape : List Int} {z : Int} (h : ∀ t ∈ tape, -50 ≤ t ∧ t ≤ 50) (h' : ∀ t ∈ tape.map (· + z), -50 ≤ t ∧ t ≤ 50) (n : Nat) : supp17 (tape.map (· + z)) n = (supp17 tape n).map (· + (n : Int) * z) := by
  refine incr17_same (supp17_incr _ _) ?_ fun x => ?_
  · rw [List.pairwise_map]
    exact (supp17_incr tape n).imp fun h => by omega
  · rw [supp17_mem h', sums17_shift]
    simp only [List.mem_map, supp17_mem h]
theorem count_inj {f : Int → Int} (hf : ∀ x y, f x = f y → x = y) (l : List Int) (v : Int) : (l.map f).count (f v) = l.count v := by
  induction l with
  | nil => simp
  | cons x l ih =>
    rw [List.map_cons, List.count_cons, List.count_cons, ih]
    congr 1
    by_cases e : x = v
    · subst e; simp
    · rw [if_neg (by simpa using fun h => e (hf _ _ h)), if_neg (by simpa using e)]
theorem dist17_shift {tape : List Int} {z : Int} (h : ∀ t ∈ tape, -50 ≤ t ∧ t ≤ 50) (h' : ∀ t ∈ tape.map (· + z), -50 ≤ t ∧ t ≤ 50) (n : Nat) :
    dist17 (tape.map (· + z)) n = (dist17 tape n).map fun p => (p.1 + (n : Int) * z, p.2) := by
  unfold dist17
  rw [supp17_shift h h', List.map_map, List.map_map]
  refine List.map_congr_left fun v _ => ?_
  show (v + (n : Int) * z, (sums17 (tape.map (· + z)) n).count (v + (n : Int) * z)) = (v + (n : Int) * z, (sums17 tape n).count v)
  rw [sums17_shift, count_inj (f := (· + (n : Int) * z)) (fun x y h => by have : x + (n : Int) * z = y + (n : Int) * z := h; omega)]
theorem supp17_neg {tape : List Int} (h : ∀ t ∈ tape, -50 ≤ t ∧ t ≤ 50) (n : Nat) : supp17 (tape.map (- ·)) n = ((supp17 tape n).map (- ·)).reverse := by
  have h' : ∀ t ∈ tape.map (- ·), -50 ≤ t ∧ t ≤ 50 := fun t ht => by
    obtain ⟨x, hx, rfl⟩ := List.mem_map.1 ht
    have := h x hx
    omega
  refine incr17_same (supp17_incr _ _) ?_ fun x => ?_
  · rw [List.pairwise_reverse, List.pairwise_map]
    exact (supp17_incr tape n).imp fun h => by omega
  · rw [supp17_mem h', sums17_neg, List.mem_reverse]
    simp only [List.mem_map, supp17_mem h]
theorem dist17_neg {tape : List Int} (h : ∀ t ∈ tape, -50 ≤ t ∧ t ≤ 50) (n : Nat) : dist17 (tape.map (- ·)) n = ((dist17 tape n).map fun p => (-p.1, p.2)).reverse := by
  unfold dist17
  rw [supp17_neg h, List.map_reverse, List.map_map, List.map_map]
  congr 1
  refine List.map_congr_left fun v _ => ?_
  show (-v, (sums17 (tape.map (- ·)) n).count (-v)) = (-v, (sums17 tape n).count v)
  rw [sums17_neg, count_inj (f := (- ·)) (fun x y h => by have : -x = -y := h; omega)]
theorem dist17_perm {a b : List Int} (ha : ∀ t ∈ a, -50 ≤ t ∧ t ≤ 50) (h : a.Perm b) (n : Nat) : dist17 a n = dist17 b n := by
  have hb : ∀ t ∈ b, -50 ≤ t ∧ t ≤ 50 := fun t ht => ha t (h.mem_iff.2 ht)
  have hs : supp17 a n = supp17 b n := incr17_same (supp17_incr _ _) (supp17_incr _ _) fun x => by rw [supp17_mem ha, supp17_mem hb, (sums17_perm h n).mem_iff]
  unfold dist17
  rw [hs]
  exact List.map_congr_left fun v _ => by rw [(sums17_perm h n).count_eq]
theorem count_bd {tape : List Int} (h : tape.length ≤ 9) {n : Nat} (hn : n ≤ 6) (v : Int) : (sums17 tape n).count v ≤ 531441 := by
  refine Nat.le_trans List.count_le_length ?_
  rw [sums17_len]
  refine Nat.le_trans (Nat.pow_le_pow_left h n) ?_
  refine Nat.le_trans (Nat.pow_le_pow_right (by omega) hn) (by decide)
end Go.Proofs.YtlkgoljpjeieiaaGreatDoor
