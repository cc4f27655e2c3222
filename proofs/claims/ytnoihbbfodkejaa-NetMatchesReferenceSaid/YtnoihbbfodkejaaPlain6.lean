/-
  Chapter 54: what is delivered was sent, in plain words.
-/
import Derived.Test.YtnoihbbfodkejaaPlain7
import Derived.Test.YtnoihbbfodkejaaHead
namespace Go.Proofs.Ytnoihbbfodkejaa

/-- What step k returns, in a run from s. -/
def resAt (s : NS) (l : List St) (k : Nat) : Res := (s.run (l.take k)).res (stp l k)
def sentP (a b : Int) (x : St) (r : Res) : Bool := x.a == a && x.b == b && x.kind == 0 && r.err == 0
def gotP (a b : Int) (x : St) (r : Res) : Bool := x.a == a && x.b == b && x.kind == 1 && r.ok && !x.again
def cntN (P : St → Res → Bool) (l : List St) (R : Nat → Res) : Nat → Nat
  | 0 => 0
  | k + 1 => cntN P l R k + if P (stp l k) (R k) = true then 1 else 0
def knownN (P : St → Res → Bool) (l : List St) (R : Nat → Res) (t : ByteArray) : Nat → Bool
  | 0 => false
  | k + 1 => knownN P l R t k || (P (stp l k) (R k) && decide ((stp l k).text = t))
theorem cntN_le (P : St → Res → Bool) (l : List St) (R : Nat → Res) : ∀ k, cntN P l R k ≤ k
  | 0 => Nat.le_refl _
  | k + 1 => by
    have := cntN_le P l R k
    unfold cntN
    split <;> omega
theorem run_take (s : NS) (l : List St) (k : Nat) (hk : k < l.length) : s.run (l.take (k + 1)) = (s.run (l.take k)).do_ (stp l k) := by
  rw [take_snoc l k St.none_ hk, run_snoc]
  rfl

/-- What holds of a pair behind k steps. -/
structure Owed (a b : Int) (l : List St) (R : Nat → Res) (k : Nat) (s : NS) : Prop where
  num : cntN (gotP a b) l R k + (s.q (a, b)).length ≤ cntN (sentP a b) l R k
  all : ∀ t ∈ s.q (a, b), knownN (sentP a b) l R t k = true
theorem Owed.next {a b : Int} {l : List St} {R : Nat → Res} {k : Nat} {s s' : NS} (h : Owed a b l R k s) (x : St) (r : Res) (hx : stp l k = x) (hr : R k = r)
    (hn : (if gotP a b x r = true then 1 else 0) + (s'.q (a, b)).length ≤ (s.q (a, b)).length + if sentP a b x r = true then 1 else 0)
    (ha : ∀ t ∈ s'.q (a, b), t ∈ s.q (a, b) ∨ (sentP a b x r = true ∧ x.text = t)) : Owed a b l R (k + 1) s' := by
  refine ⟨?_, fun t ht => ?_⟩
  · have := h.num
    simp only [cntN, hx, hr]
    omega
  · simp only [knownN, hx, hr]
    rcases ha t ht with h1 | ⟨h1, h2⟩
    · rw [h.all t h1]; rfl
    · rw [h1, h2]; simp
theorem notSent {a b : Int} {x : St} {r : Res} (h : (x.a, x.b) ≠ (a, b)) : sentP a b x r = false ∧ gotP a b x r = false := by
  have : (x.a == a && x.b == b) = false := by
    rw [Bool.eq_false_iff]
    intro e
    simp only [Bool.and_eq_true, beq_iff_eq] at e
    exact h (by rw [e.1, e.2])
  unfold sentP gotP
  rw [this]
  exact ⟨rfl, rfl⟩
theorem turn_q2 (s : NS) (a b : Int) (c : Bool) (j : Int × Int) : (s.turn a b c).q j = s.q j ∨ (s.turn a b c).q j = [] := by
  unfold NS.turn
  split
  · cases c
    · exact .inl rfl
    · show upd (upd s.q (a, b) []) (b, a) [] j = s.q j ∨ upd (upd s.q (a, b) []) (b, a) [] j = []
      unfold upd
      split
      · exact .inr rfl
      · split
        · exact .inr rfl
        · exact .inl rfl
  · exact .inl rfl
theorem deliver_mem (s : NS) (a b i : Int) (lo ag : Bool) : ∀ t ∈ (s.deliver a b i lo ag).q (a, b), t ∈ s.q (a, b) := by
  unfold NS.deliver
  intro t ht
  split at ht
  · have ht' : t ∈ upd s.q (a, b) ((s.q (a, b)).eraseIdx i.toNat) (a, b) := ht
    rw [upd_same] at ht'
    exact List.mem_of_mem_eraseIdx ht'
  · exact ht
theorem res_mem (s : NS) (x : St) (hk : x.kind = 1) (ho : (s.res x).ok = true) : (s.res x).text ∈ s.q (x.a, x.b) := by
  have k0 : ¬ x.kind = 0 := by omega
  unfold NS.res at ho ⊢
  rw [if_neg k0, if_pos hk] at ho ⊢
  have ho' : s.dOk x.a x.b x.n x.lost = true := ho
  show s.dText x.a x.b x.n x.lost ∈ _
  unfold NS.dText
  rw [if_pos ho']
  have hh : x.n.toNat < (s.q (x.a, x.b)).length := by
    unfold NS.dOk NS.hit at ho'
    simp only [Bool.and_eq_true, decide_eq_true_eq] at ho'
    omega
  rw [List.getD_eq_getElem?_getD, List.getElem?_eq_getElem hh]
  exact List.getElem_mem _
theorem owed_step {a b : Int} {l : List St} {R : Nat → Res} {k : Nat} {s : NS} (h : Owed a b l R k s) (hr : R k = s.res (stp l k)) : Owed a b l R (k + 1) (s.do_ (stp l k)) := by
  generalize hx : stp l k = x at hr
  refine h.next x _ hx hr ?_ ?_
  all_goals
    by_cases hp : (x.a, x.b) = (a, b)
  · injection hp with h1 h2
    subst h1 h2
    unfold NS.do_ NS.res sentP gotP
    by_cases k0 : x.kind = 0
    · simp only [k0, if_true]
      unfold NS.send
      by_cases e : s.sendErr x.a x.b x.text = 0
      · simp [e, upd_same]
      · simp [e]
    · by_cases k1 : x.kind = 1
      · simp only [k0, k1, if_true, if_false]
        unfold NS.deliver NS.dOk
        cases hh : s.hit x.a x.b x.n
        · simp
        · have hlen : (s.q (x.a, x.b)).length ≥ 1 ∧ x.n.toNat < (s.q (x.a, x.b)).length := by
            unfold NS.hit at hh
            simp only [Bool.and_eq_true, decide_eq_true_eq] at hh
            omega
          cases x.lost <;> cases x.again <;> simp [upd_same, List.length_eraseIdx, hlen.2] <;> omega
      · have hq : ∀ c, (s.turn x.a x.b c).q (x.a, x.b) = s.q (x.a, x.b) ∨ (s.turn x.a x.b c).q (x.a, x.b) = [] := fun c => turn_q2 _ _ _ _ _
        have e0 : (x.kind == 0) = false := by simp [k0]
        have e1 : (x.kind == 1) = false := by simp [k1]
        simp only [k0, k1, e0, e1, if_false, Bool.and_false, Bool.false_and, Bool.false_eq_true, Nat.zero_add, Nat.add_zero]
        split
        · rcases hq true with h1 | h1 <;> rw [h1] <;> simp
        · rcases hq false with h1 | h1 <;> rw [h1] <;> simp
  · obtain ⟨h1, h2⟩ := notSent (r := s.res x) hp
    rw [h1, h2]
    simp only [Bool.false_eq_true, if_false, Nat.zero_add, Nat.add_zero]
    unfold NS.do_
    split
    · rw [send_q _ _ _ _ _ (fun e => hp e.symm)]; exact Nat.le_refl _
    · split
      · rw [deliver_q _ _ _ _ _ _ _ (fun e => hp e.symm)]; exact Nat.le_refl _
      · split
        · rcases turn_q2 s x.a x.b true (a, b) with h3 | h3 <;> rw [h3] <;> simp
        · rcases turn_q2 s x.a x.b false (a, b) with h3 | h3 <;> rw [h3] <;> simp
  · injection hp with h1 h2
    subst h1 h2
    unfold NS.do_ NS.res sentP
    by_cases k0 : x.kind = 0
    · simp only [k0, if_true]
      unfold NS.send
      by_cases e : s.sendErr x.a x.b x.text = 0
      · intro t ht
        simp [e, upd_same] at ht
        rcases ht with h1 | h1
        · exact .inl h1
        · exact .inr ⟨by simp [e], h1.symm⟩
      · intro t ht
        simp [e] at ht
        exact .inl ht
    · by_cases k1 : x.kind = 1
      · rw [if_neg k0, if_pos k1]
        intro t ht
        exact .inl (deliver_mem _ _ _ _ _ _ t ht)
      · simp only [k0, k1, if_false]
        intro t ht
        left
        split at ht
        · rcases turn_q2 s x.a x.b true (x.a, x.b) with h3 | h3 <;> rw [h3] at ht
          · exact ht
          · cases ht
        · rcases turn_q2 s x.a x.b false (x.a, x.b) with h3 | h3 <;> rw [h3] at ht
          · exact ht
          · cases ht
  · intro t ht
    left
    unfold NS.do_ at ht
    split at ht
    · rwa [send_q _ _ _ _ _ (fun e => hp e.symm)] at ht
    · split at ht
      · rwa [deliver_q _ _ _ _ _ _ _ (fun e => hp e.symm)] at ht
      · split at ht
        · rcases turn_q2 s x.a x.b true (a, b) with h3 | h3 <;> rw [h3] at ht
          · exact ht
          · cases ht
        · rcases turn_q2 s x.a x.b false (a, b) with h3 | h3 <;> rw [h3] at ht
          · exact ht
          · cases ht
theorem owed_all (N a b : Int) (l : List St) : ∀ k, k ≤ l.length → Owed a b l (resAt (NS.new N) l) k ((NS.new N).run (l.take k))
  | 0, _ => ⟨by simp [cntN, NS.run, NS.new], fun t ht => by simp [NS.run, NS.new] at ht⟩
  | k + 1, hk => by
    rw [run_take _ l k (by omega)]
    exact owed_step (owed_all N a b l k (by omega)) rfl
theorem honest (N : Int) (l : List St) (i : Nat) (hi : i < l.length) (hk : (stp l i).kind = 1) (ho : (resAt (NS.new N) l i).ok = true) :
    knownN (sentP (stp l i).a (stp l i).b) l (resAt (NS.new N) l) (resAt (NS.new N) l i).text (i + 1) = true ∧
    cntN (gotP (stp l i).a (stp l i).b) l (resAt (NS.new N) l) (i + 1) ≤ cntN (sentP (stp l i).a (stp l i).b) l (resAt (NS.new N) l) (i + 1) := by
  refine ⟨?_, by have := (owed_all N (stp l i).a (stp l i).b l (i + 1) (by omega)).num; omega⟩
  have h := owed_all N (stp l i).a (stp l i).b l i (by omega)
  unfold knownN
  rw [h.all]
  · rfl
  · exact res_mem _ _ hk ho
end Go.Proofs.Ytnoihbbfodkejaa
