/-
  Chapter 54: what the reference's lists stand for, in plain words.
-/
import Derived.Test.YtnoihbbfodkejaaPlain7
namespace Go.Proofs.Ytnoihbbfodkejaa

structure Msg where
  a : Int
  b : Int
  t : ByteArray
def onM (a b : Int) (m : Msg) : Bool := m.a == a && m.b == b
def texts (L : List Msg) (a b : Int) : List ByteArray := (L.filter (onM a b)).map Msg.t
def line (a b : Int) (x : Int × Int) : Bool := (x.1 == a && x.2 == b) || (x.1 == b && x.2 == a)
theorem texts_append (L L' : List Msg) (a b : Int) : texts (L ++ L') a b = texts L a b ++ texts L' a b := by simp [texts, List.filter_append]
theorem texts_one_on (m : Msg) (a b : Int) (h : onM a b m = true) : texts [m] a b = [m.t] := by simp [texts, h]
theorem texts_one_off (m : Msg) (a b : Int) (h : onM a b m = false) : texts [m] a b = [] := by simp [texts, h]
theorem line_swap (a b : Int) (x : Int × Int) : line a b x = line b a x := by unfold line; exact Bool.or_comm _ _
theorem line_sym (a b : Int) (x : Int × Int) : line a b x = line x.1 x.2 (a, b) := by
  unfold line
  rw [Bool.eq_iff_iff]
  simp only [Bool.or_eq_true, Bool.and_eq_true, beq_iff_eq]
  constructor
  · rintro (⟨h1, h2⟩ | ⟨h1, h2⟩)
    · exact .inl ⟨h1.symm, h2.symm⟩
    · exact .inr ⟨h2.symm, h1.symm⟩
  · rintro (⟨h1, h2⟩ | ⟨h1, h2⟩)
    · exact .inl ⟨h1.symm, h2.symm⟩
    · exact .inr ⟨h2.symm, h1.symm⟩
/-- The lists L and G stand for the network s. -/
structure Abs (L : List Msg) (G : List (Int × Int)) (s : NS) : Prop where
  q : ∀ a b, s.q (a, b) = texts L a b
  c : ∀ a b, s.c (a, b) = G.any (line a b)
  sep : G.Pairwise (fun x y => line x.1 x.2 y = false)
  calm : ∀ m ∈ L, G.any (line m.a m.b) = false
theorem Abs.new (N : Int) : Abs [] [] (NS.new N) := ⟨fun _ _ => rfl, fun _ _ => rfl, List.Pairwise.nil, fun m h => by cases h⟩
section
variable {L : List Msg} {G : List (Int × Int)} {s : NS}
theorem Abs.cutErr (h : Abs L G s) {a b : Int} {t : ByteArray} (he : s.sendErr a b t = 0) : s.c (a, b) = false := by
  unfold NS.sendErr at he
  split at he
  · omega
  · split at he
    · omega
    · rename_i h1; simpa using h1
theorem Abs.send (h : Abs L G s) {a b : Int} {t : ByteArray} (he : s.sendErr a b t = 0) : Abs (L ++ [⟨a, b, t⟩]) G (s.send a b t) := by
  have hc := h.cutErr he
  unfold NS.send
  rw [if_pos he]
  refine ⟨fun x y => ?_, h.c, h.sep, fun m hm => ?_⟩
  · show upd s.q (a, b) (s.q (a, b) ++ [t]) (x, y) = _
    rw [texts_append, ← h.q]
    by_cases e : (x, y) = (a, b)
    · injection e with e1 e2
      subst e1 e2
      rw [upd_same, texts_one_on _ _ _ (by simp [onM])]
    · rw [upd_other _ _ _ _ e, texts_one_off _ _ _ (by
        rw [Bool.eq_false_iff]; intro h1; simp [onM] at h1; exact e (by rw [h1.1, h1.2]))]
      simp
  · rcases List.mem_append.1 hm with h1 | h1
    · exact h.calm m h1
    · simp at h1
      subst h1
      rw [← h.c]
      exact hc
theorem Abs.deliver (h : Abs L G s) {a b i : Int} {lost again : Bool} (hk : knows s.N a b = true) (hx : lost = true ∨ again = false) (pos : Nat) (hp : pos < L.length) (hon : onM a b L[pos] = true)
    (hi : ((texts (L.take pos) a b).length : Int) = i) : Abs (L.take pos ++ L.drop (pos + 1)) G (s.deliver a b i lost again) := by
  have hL : L = L.take pos ++ ([L[pos]] ++ L.drop (pos + 1)) := by
    rw [List.singleton_append, List.getElem_cons_drop, List.take_append_drop]
  have hq : s.q (a, b) = texts (L.take pos) a b ++ (L[pos].t :: texts (L.drop (pos + 1)) a b) := by
    rw [h.q]
    conv => lhs; rw [hL]
    rw [texts_append, texts_append, texts_one_on _ _ _ hon]
    rfl
  have hh : s.hit a b i = true := by
    unfold NS.hit
    rw [hk, hq]
    simp
    omega
  unfold NS.deliver
  rw [if_pos ⟨hh, hx⟩]
  refine ⟨fun x y => ?_, h.c, h.sep, fun m hm => h.calm m ?_⟩
  · show upd s.q (a, b) ((s.q (a, b)).eraseIdx i.toNat) (x, y) = _
    by_cases e : (x, y) = (a, b)
    · injection e with e1 e2
      subst e1 e2
      rw [upd_same, hq, ← hi, Int.toNat_natCast, texts_append, List.eraseIdx_append_of_length_le (Nat.le_refl _), Nat.sub_self]
      rfl
    · rw [upd_other _ _ _ _ e, h.q, texts_append]
      conv => lhs; rw [hL]
      rw [texts_append, texts_append]
      have : onM x y L[pos] = false := by
        rw [Bool.eq_false_iff]
        intro h1
        simp only [onM, Bool.and_eq_true, beq_iff_eq] at h1 hon
        exact e (by rw [← h1.1, ← h1.2, hon.1, hon.2])
      rw [texts_one_off _ _ _ this]
      rfl
  · rcases List.mem_append.1 hm with h1 | h1
    · exact List.mem_of_mem_take h1
    · exact List.mem_of_mem_drop h1
theorem texts_filter (L : List Msg) (a b : Int) (P : Msg → Bool) (v : Bool) (hP : ∀ m ∈ L, onM a b m = true → P m = v) : texts (L.filter P) a b = if v = true then texts L a b else [] := by
  unfold texts
  rw [List.filter_filter]
  cases v
  · have : L.filter (fun m => onM a b m && P m) = [] := by
      rw [List.filter_eq_nil_iff]
      intro m hm he
      simp only [Bool.and_eq_true] at he
      rw [hP m hm he.1] at he
      exact absurd he.2 (by simp)
    rw [this]
    rfl
  · have : L.filter (fun m => onM a b m && P m) = L.filter (onM a b) := by
      apply List.filter_congr
      intro m hm
      cases e : onM a b m
      · rfl
      · rw [hP m hm e]; rfl
    rw [this]
    rfl
theorem any_line_on {m : Msg} {a b : Int} (h : onM a b m = true) (G : List (Int × Int)) : G.any (line m.a m.b) = G.any (line a b) := by
  simp only [onM, Bool.and_eq_true, beq_iff_eq] at h
  rw [h.1, h.2]
theorem Abs.cut (h : Abs L G s) {a b : Int} (he : s.turnErr a b true = 0) : Abs (L.filter fun m => !(G ++ [(a, b)]).any (line m.a m.b)) (G ++ [(a, b)]) (s.turn a b true) := by
  have hc : s.c (a, b) = false := by
    unfold NS.turnErr at he
    split at he
    · omega
    · split at he
      · omega
      · rename_i h1; simpa using h1
  unfold NS.turn
  rw [if_pos he]
  have hline : ∀ x y, line x y (a, b) = true ↔ ((x, y) = (a, b) ∨ (x, y) = (b, a)) := by
    intro x y
    simp only [line, Bool.or_eq_true, Bool.and_eq_true, beq_iff_eq, Prod.mk.injEq]
    constructor
    · rintro (⟨h1, h2⟩ | ⟨h1, h2⟩)
      · exact .inl ⟨h1.symm, h2.symm⟩
      · exact .inr ⟨h2.symm, h1.symm⟩
    · rintro (⟨h1, h2⟩ | ⟨h1, h2⟩)
      · exact .inl ⟨h1.symm, h2.symm⟩
      · exact .inr ⟨h2.symm, h1.symm⟩
  have hany : ∀ x y, (G ++ [(a, b)]).any (line x y) = (s.c (x, y) || line x y (a, b)) := by
    intro x y
    rw [List.any_append, h.c]
    simp
  refine ⟨fun x y => ?_, fun x y => ?_, ?_, fun m hm => ?_⟩
  · rw [texts_filter L x y _ (!(s.c (x, y) || line x y (a, b))) (fun m _ ho => by rw [any_line_on ho, hany])]
    show upd (upd s.q (a, b) []) (b, a) [] (x, y) = _
    unfold upd
    cases hl : line x y (a, b)
    · have hn : ¬ ((x, y) = (a, b) ∨ (x, y) = (b, a)) := fun e => by rw [← hline, hl] at e; cases e
      rw [if_neg (fun e => hn (.inr e)), if_neg (fun e => hn (.inl e)), h.q]
      cases hcx : s.c (x, y)
      · simp
      · simp only [Bool.or_false, Bool.not_true, Bool.false_eq_true, if_false]
        unfold texts
        rw [List.map_eq_nil_iff, List.filter_eq_nil_iff]
        intro m hm ho
        have := h.calm m hm
        rw [any_line_on ho, ← h.c, hcx] at this
        cases this
    · rcases (hline x y).1 hl with e | e
      · simp only [Bool.or_true, Bool.not_true, Bool.false_eq_true, if_false]
        split
        · rfl
        · first | rfl | rw [if_pos e]
      · simp only [Bool.or_true, Bool.not_true, Bool.false_eq_true, if_false]
        rw [if_pos e]
  · rw [hany]
    show upd (upd s.c (a, b) true) (b, a) true (x, y) = _
    unfold upd
    cases hl : line x y (a, b)
    · have hn : ¬ ((x, y) = (a, b) ∨ (x, y) = (b, a)) := fun e => by rw [← hline, hl] at e; cases e
      rw [if_neg (fun e => hn (.inr e)), if_neg (fun e => hn (.inl e))]
      simp
    · rcases (hline x y).1 hl with e | e
      · split
        · simp
        · first | (simp; done) | (rw [if_pos e]; simp)
      · rw [if_pos e]; simp
  · rw [List.pairwise_append]
    refine ⟨h.sep, List.pairwise_singleton _ _, fun x hx y hy => ?_⟩
    simp at hy
    subst hy
    have h1 := h.c a b
    rw [hc] at h1
    have h2 := (List.any_eq_false.1 h1.symm) x hx
    rw [line_sym] at h2
    simpa using h2
  · have := (List.mem_filter.1 hm).2
    simpa using this
theorem Abs.heal (h : Abs L G s) {a b : Int} (he : s.turnErr a b false = 0) (k : Nat) (hk : k < G.length) (hl : line a b G[k] = true) : Abs L (G.take k ++ G.drop (k + 1)) (s.turn a b false) := by
  have hG : G = G.take k ++ ([G[k]] ++ G.drop (k + 1)) := by
    rw [List.singleton_append, List.getElem_cons_drop, List.take_append_drop]
  unfold NS.turn
  rw [if_pos he]
  have hsub : ∀ x ∈ G.take k ++ G.drop (k + 1), x ∈ G := fun x hx => by
    rcases List.mem_append.1 hx with h1 | h1
    · exact List.mem_of_mem_take h1
    · exact List.mem_of_mem_drop h1
  -- another line than G[k]'s
  have hrest : ∀ x ∈ G.take k ++ G.drop (k + 1), line a b x = false := by
    have hs := h.sep
    rw [hG, List.pairwise_append] at hs
    obtain ⟨_, h2, h3⟩ := hs
    rw [List.singleton_append, List.pairwise_cons] at h2
    have eab : ∀ x, line a b x = line G[k].1 G[k].2 x := by
      intro x
      simp only [line, Bool.or_eq_true, Bool.and_eq_true, beq_iff_eq] at hl
      rcases hl with ⟨e1, e2⟩ | ⟨e1, e2⟩
      · rw [e1, e2]
      · rw [e1, e2, line_swap]
    intro x hx
    rcases List.mem_append.1 hx with h1 | h1
    · have := h3 x h1 G[k] (List.mem_append_left _ (List.mem_singleton.2 rfl))
      rw [eab, line_sym]
      exact this
    · rw [eab]
      exact h2.1 x h1
  refine ⟨h.q, fun x y => ?_, ?_, fun m hm => ?_⟩
  · show upd (upd s.c (a, b) false) (b, a) false (x, y) = _
    have hG2 : G.any (line x y) = ((G.take k ++ G.drop (k + 1)).any (line x y) || line x y G[k]) := by
      conv => lhs; rw [hG]
      simp only [List.any_append, List.any_cons, List.any_nil, Bool.or_false]
      cases (G.take k).any (line x y) <;> cases (G.drop (k + 1)).any (line x y) <;> cases line x y G[k] <;> rfl
    unfold upd
    split
    · rename_i e
      injection e with e1 e2
      subst e1 e2
      symm
      rw [List.any_eq_false]
      intro z hz
      have := hrest z hz
      rw [line_swap] at this
      simpa using this
    · split
      · rename_i e
        injection e with e1 e2
        subst e1 e2
        symm
        rw [List.any_eq_false]
        intro z hz
        simpa using hrest z hz
      · rename_i n1 n2
        rw [h.c, hG2]
        have : line x y G[k] = false := by
          rw [Bool.eq_false_iff]
          intro e
          simp only [line, Bool.or_eq_true, Bool.and_eq_true, beq_iff_eq] at e hl
          rcases hl with ⟨e1, e2⟩ | ⟨e1, e2⟩ <;> rcases e with ⟨e3, e4⟩ | ⟨e3, e4⟩
          · exact n2 (by rw [← e3, ← e4, e1, e2])
          · exact n1 (by rw [← e3, ← e4, e1, e2])
          · exact n1 (by rw [← e3, ← e4, e1, e2])
          · exact n2 (by rw [← e3, ← e4, e1, e2])
        rw [this, Bool.or_false]
  · have hs := h.sep
    rw [hG] at hs
    exact hs.sublist (List.Sublist.append_left (List.sublist_append_right _ _) _)
  · have := h.calm m hm
    rw [List.any_eq_false] at this ⊢
    exact fun x hx => this x (hsub x hx)
end
end Go.Proofs.Ytnoihbbfodkejaa
