/-
  Chapter 54: two runs, one of all steps, one of those that concern a pair, in plain words.
-/
import Derived.Test.YtnoihbbfodkejaaPlain
namespace Go.Proofs.Ytnoihbbfodkejaa

def onPair (a b : Int) (x : St) : Bool := (x.a == a && x.b == b) || (x.a == b && x.b == a)
def sub (a b : Int) (l : List St) : List St := l.filter (onPair a b)
theorem run_nil (s : NS) : s.run [] = s := rfl
theorem run_snoc (s : NS) (l : List St) (x : St) : s.run (l ++ [x]) = (s.run l).do_ x := by simp [NS.run]
theorem sub_snoc_in (a b : Int) (l : List St) (x : St) (h : onPair a b x = true) : sub a b (l ++ [x]) = sub a b l ++ [x] := by simp [sub, List.filter_append, h]
theorem sub_snoc_out (a b : Int) (l : List St) (x : St) (h : onPair a b x = false) : sub a b (l ++ [x]) = sub a b l := by simp [sub, List.filter_append, h]
theorem run_small (s : NS) (h : s.Small) (l : List St) : (s.run l).Small := by
  unfold NS.run
  induction l generalizing s with
  | nil => exact h
  | cons x l ih => exact ih _ (NS.do_small h x)

/-- The two networks agree at the pair. -/
structure Same (a b : Int) (s t : NS) : Prop where
  n : s.N = t.N
  q1 : s.q (a, b) = t.q (a, b)
  q2 : s.q (b, a) = t.q (b, a)
  c1 : s.c (a, b) = t.c (a, b)
  c2 : s.c (b, a) = t.c (b, a)
/-- What a network is like at a pair: cut in both directions alike, and nothing waits where it is cut. -/
structure Calm (a b : Int) (s : NS) : Prop where
  sym : s.c (a, b) = s.c (b, a)
  e1 : s.c (a, b) = true → s.q (a, b) = []
  e2 : s.c (a, b) = true → s.q (b, a) = []
theorem Same.refl (a b : Int) (s : NS) : Same a b s s := ⟨rfl, rfl, rfl, rfl, rfl⟩
theorem Same.swap {a b : Int} {s t : NS} (h : Same a b s t) : Same b a s t := ⟨h.n, h.q2, h.q1, h.c2, h.c1⟩
theorem Calm.swap {a b : Int} {s : NS} (h : Calm a b s) : Calm b a s := ⟨h.sym.symm, fun e => h.e2 (h.sym.trans e), fun e => h.e1 (h.sym.trans e)⟩
theorem Calm.new (a b N : Int) : Calm a b (NS.new N) := ⟨rfl, fun e => by simp [NS.new] at e, fun e => by simp [NS.new] at e⟩
theorem Same.waiting {a b : Int} {s t : NS} (h : Same a b s t) : s.waiting a b = t.waiting a b := by
  unfold NS.waiting
  rw [h.n, h.q1]
theorem Calm.waiting {a b : Int} {s : NS} (h : Calm a b s) (hc : s.c (a, b) = true) : s.waiting a b = [] ∧ s.waiting b a = [] := by
  unfold NS.waiting
  rw [h.e1 hc, h.e2 hc]
  simp
theorem send_N (s : NS) (a b : Int) (t : ByteArray) : (s.send a b t).N = s.N := by unfold NS.send; split <;> rfl
theorem deliver_N (s : NS) (a b i : Int) (l g : Bool) : (s.deliver a b i l g).N = s.N := by unfold NS.deliver; split <;> rfl
theorem turn_N (s : NS) (a b : Int) (c : Bool) : (s.turn a b c).N = s.N := by unfold NS.turn; split <;> rfl
theorem do_N (s : NS) (x : St) : (s.do_ x).N = s.N := by
  unfold NS.do_
  split
  · exact send_N _ _ _ _
  · split
    · exact deliver_N _ _ _ _ _ _
    · split <;> exact turn_N _ _ _ _
theorem send_c (s : NS) (a b : Int) (t : ByteArray) : (s.send a b t).c = s.c := by unfold NS.send; split <;> rfl
theorem deliver_c (s : NS) (a b i : Int) (l g : Bool) : (s.deliver a b i l g).c = s.c := by unfold NS.deliver; split <;> rfl
theorem send_q (s : NS) (a b : Int) (t : ByteArray) (j : Int × Int) (h : j ≠ (a, b)) : (s.send a b t).q j = s.q j := by
  unfold NS.send
  split
  · exact upd_other _ _ _ _ h
  · rfl
theorem deliver_q (s : NS) (a b i : Int) (l g : Bool) (j : Int × Int) (h : j ≠ (a, b)) : (s.deliver a b i l g).q j = s.q j := by
  unfold NS.deliver
  split
  · exact upd_other _ _ _ _ h
  · rfl
theorem turn_q (s : NS) (a b : Int) (c : Bool) (j : Int × Int) (h : j ≠ (a, b)) (h' : j ≠ (b, a)) : (s.turn a b c).q j = s.q j := by
  unfold NS.turn
  split
  · cases c
    · rfl
    · show upd (upd s.q (a, b) []) (b, a) [] j = s.q j
      rw [upd_other _ _ _ _ h', upd_other _ _ _ _ h]
  · rfl
theorem turn_c (s : NS) (a b : Int) (c : Bool) (j : Int × Int) (h : j ≠ (a, b)) (h' : j ≠ (b, a)) : (s.turn a b c).c j = s.c j := by
  unfold NS.turn
  split
  · show upd (upd s.c (a, b) c) (b, a) c j = s.c j
    rw [upd_other _ _ _ _ h', upd_other _ _ _ _ h]
  · rfl
theorem onPair_false {a b : Int} {x : St} (h : onPair a b x = false) : (a, b) ≠ (x.a, x.b) ∧ (a, b) ≠ (x.b, x.a) ∧ (b, a) ≠ (x.a, x.b) ∧ (b, a) ≠ (x.b, x.a) := by
  unfold onPair at h
  simp only [Bool.or_eq_false_iff, Bool.and_eq_false_iff, beq_eq_false_iff_ne] at h
  obtain ⟨h1, h2⟩ := h
  refine ⟨fun e => ?_, fun e => ?_, fun e => ?_, fun e => ?_⟩ <;> (injection e with e1 e2; subst e1 e2; simp at h1 h2)
theorem do_out {a b : Int} {s t : NS} {x : St} (h : Same a b s t) (k : Calm a b s) (ho : onPair a b x = false) : Same a b (s.do_ x) t ∧ Calm a b (s.do_ x) ∧ (s.do_ x).c (a, b) = s.c (a, b) := by
  obtain ⟨n1, n2, n3, n4⟩ := onPair_false ho
  have hq1 : (s.do_ x).q (a, b) = s.q (a, b) := by
    unfold NS.do_
    split
    · exact send_q _ _ _ _ _ n1
    · split
      · exact deliver_q _ _ _ _ _ _ _ n1
      · split <;> exact turn_q _ _ _ _ _ n1 n2
  have hq2 : (s.do_ x).q (b, a) = s.q (b, a) := by
    unfold NS.do_
    split
    · exact send_q _ _ _ _ _ n3
    · split
      · exact deliver_q _ _ _ _ _ _ _ n3
      · split <;> exact turn_q _ _ _ _ _ n3 n4
  have hc1 : (s.do_ x).c (a, b) = s.c (a, b) := by
    unfold NS.do_
    split
    · rw [send_c]
    · split
      · rw [deliver_c]
      · split <;> exact turn_c _ _ _ _ _ n1 n2
  have hc2 : (s.do_ x).c (b, a) = s.c (b, a) := by
    unfold NS.do_
    split
    · rw [send_c]
    · split
      · rw [deliver_c]
      · split <;> exact turn_c _ _ _ _ _ n3 n4
  exact ⟨⟨(do_N s x).trans h.n, hq1.trans h.q1, hq2.trans h.q2, hc1.trans h.c1, hc2.trans h.c2⟩, ⟨by rw [hc1, hc2]; exact k.sym, fun e => by rw [hc1] at e; rw [hq1]; exact k.e1 e, fun e => by rw [hc1] at e; rw [hq2]; exact k.e2 e⟩, hc1⟩

theorem upd_same2 {α : Type} (f g : Int × Int → α) (i j : Int × Int) (v : α) (h : f j = g j) : upd f i v j = upd g i v j := by
  unfold upd; split <;> simp_all
def nextCut (c : Bool) (kind err : Int) : Bool := (c && (kind == 0 || kind == 1 || kind == 2 || err != 0)) || (kind == 2 && err == 0)

theorem sendErr_same {a b : Int} {s t : NS} (h : Same a b s t) (x : ByteArray) : s.sendErr a b x = t.sendErr a b x := by
  unfold NS.sendErr; rw [h.n, h.q1, h.c1]
theorem hit_same {a b : Int} {s t : NS} (h : Same a b s t) (i : Int) : s.hit a b i = t.hit a b i := by
  unfold NS.hit; rw [h.n, h.q1]
theorem turnErr_same {a b : Int} {s t : NS} (h : Same a b s t) (c : Bool) : s.turnErr a b c = t.turnErr a b c := by
  unfold NS.turnErr; rw [h.n, h.c1]
theorem send_same {a b : Int} {s t : NS} (h : Same a b s t) (x : ByteArray) : Same a b (s.send a b x) (t.send a b x) := by
  unfold NS.send
  rw [sendErr_same h]
  split
  · rw [h.q1]
    exact ⟨h.n, upd_same2 _ _ _ _ _ h.q1, upd_same2 _ _ _ _ _ h.q2, h.c1, h.c2⟩
  · exact h
theorem deliver_same {a b : Int} {s t : NS} (h : Same a b s t) (i : Int) (l g : Bool) : Same a b (s.deliver a b i l g) (t.deliver a b i l g) := by
  unfold NS.deliver
  rw [hit_same h]
  split
  · rw [h.q1]
    exact ⟨h.n, upd_same2 _ _ _ _ _ h.q1, upd_same2 _ _ _ _ _ h.q2, h.c1, h.c2⟩
  · exact h
theorem turn_same {a b : Int} {s t : NS} (h : Same a b s t) (c : Bool) : Same a b (s.turn a b c) (t.turn a b c) := by
  unfold NS.turn
  rw [turnErr_same h]
  split
  · refine ⟨h.n, ?_, ?_, upd_same2 _ _ _ _ _ (upd_same2 _ _ _ _ _ h.c1), upd_same2 _ _ _ _ _ (upd_same2 _ _ _ _ _ h.c2)⟩
    · cases c
      · exact h.q1
      · exact upd_same2 _ _ _ _ _ (upd_same2 _ _ _ _ _ h.q1)
    · cases c
      · exact h.q2
      · exact upd_same2 _ _ _ _ _ (upd_same2 _ _ _ _ _ h.q2)
  · exact h
theorem dOk_same {a b : Int} {s t : NS} (h : Same a b s t) (i : Int) (l : Bool) : s.dOk a b i l = t.dOk a b i l := by
  unfold NS.dOk; rw [hit_same h]
theorem dText_same {a b : Int} {s t : NS} (h : Same a b s t) (i : Int) (l : Bool) : s.dText a b i l = t.dText a b i l := by
  unfold NS.dText; rw [dOk_same h, h.q1]
theorem do_same0 {s t : NS} {x : St} (h : Same x.a x.b s t) : Same x.a x.b (s.do_ x) (t.do_ x) ∧ s.res x = t.res x := by
  unfold NS.do_ NS.res
  split
  · exact ⟨send_same h _, by rw [sendErr_same h]⟩
  · split
    · exact ⟨deliver_same h _ _ _, by rw [dText_same h, dOk_same h]⟩
    · split
      · exact ⟨turn_same h _, by rw [turnErr_same h]⟩
      · exact ⟨turn_same h _, by rw [turnErr_same h]⟩
theorem send_calm {a b : Int} {s : NS} (k : Calm a b s) (hab : a ≠ b) (x : ByteArray) : Calm a b (s.send a b x) := by
  unfold NS.send
  split
  · rename_i h0
    have hc : s.c (a, b) = false := by
      unfold NS.sendErr at h0
      split at h0
      · omega
      · split at h0
        · omega
        · rename_i h1; simpa using h1
    exact ⟨k.sym, (fun e => by have e' : s.c (a, b) = true := e; rw [hc] at e'; cases e'), (fun e => by have e' : s.c (a, b) = true := e; rw [hc] at e'; cases e')⟩
  · exact k
theorem deliver_calm {a b : Int} {s : NS} (k : Calm a b s) (hab : a ≠ b) (i : Int) (l g : Bool) : Calm a b (s.deliver a b i l g) := by
  unfold NS.deliver
  split
  · refine ⟨k.sym, fun e => ?_, fun e => ?_⟩
    · show upd s.q (a, b) _ (a, b) = []
      rw [upd_same, k.e1 e]
      rfl
    · show upd s.q (a, b) _ (b, a) = []
      rw [upd_other _ _ _ _ (by intro e; injection e; omega)]
      exact k.e2 e
  · exact k
theorem turn_calm {a b : Int} {s : NS} (k : Calm a b s) (hab : a ≠ b) (c : Bool) : Calm a b (s.turn a b c) := by
  unfold NS.turn
  split
  · have h1 : upd (upd s.c (a, b) c) (b, a) c (a, b) = c := by rw [upd_other _ _ _ _ (by intro e; injection e; omega), upd_same]
    have h2 : upd (upd s.c (a, b) c) (b, a) c (b, a) = c := upd_same _ _ _
    refine ⟨h1.trans h2.symm, fun e => ?_, fun e => ?_⟩
    · have e' : c = true := h1.symm.trans e
      subst e'
      show upd (upd s.q (a, b) []) (b, a) [] (a, b) = []
      rw [upd_other _ _ _ _ (by intro e; injection e; omega), upd_same]
    · have e' : c = true := h1.symm.trans e
      subst e'
      exact upd_same _ _ _
  · exact k
theorem turn_flag {a b : Int} {s : NS} (hab : a ≠ b) (c : Bool) : (s.turn a b c).c (a, b) = if s.turnErr a b c = 0 then c else s.c (a, b) := by
  unfold NS.turn
  split
  · show upd (upd s.c (a, b) c) (b, a) c (a, b) = c
    rw [upd_other _ _ _ _ (by intro e; injection e; omega), upd_same]
  · rfl
theorem do_calm0 {s : NS} {x : St} (k : Calm x.a x.b s) (hab : x.a ≠ x.b) : Calm x.a x.b (s.do_ x) ∧ (s.do_ x).c (x.a, x.b) = nextCut (s.c (x.a, x.b)) x.kind (s.res x).err := by
  unfold NS.do_ NS.res nextCut
  split
  · rename_i h0
    exact ⟨send_calm k hab _, by rw [send_c, h0]; simp⟩
  · rename_i h0
    split
    · rename_i h1
      exact ⟨deliver_calm k hab _ _ _, by rw [deliver_c, h1]; simp⟩
    · rename_i h1
      split
      · rename_i h2
        refine ⟨turn_calm k hab _, ?_⟩
        rw [turn_flag hab, h2]
        by_cases e : s.turnErr x.a x.b true = 0
        · simp [e]
        · simp [e]
      · rename_i h2
        refine ⟨turn_calm k hab _, ?_⟩
        rw [turn_flag hab]
        by_cases e : s.turnErr x.a x.b false = 0
        · simp [e, h0, h1, h2]
        · have e1 : (s.turnErr x.a x.b false != 0) = true := by simpa using e
          have e2 : (x.kind == 2) = false := by simpa using h2
          rw [if_neg e, e1, e2]
          simp
theorem do_in {a b : Int} {s t : NS} {x : St} (h : Same a b s t) (k : Calm a b s) (hab : a ≠ b) (ho : onPair a b x = true) :
    Same a b (s.do_ x) (t.do_ x) ∧ Calm a b (s.do_ x) ∧ s.res x = t.res x ∧ (s.do_ x).c (a, b) = nextCut (s.c (a, b)) x.kind (s.res x).err := by
  unfold onPair at ho
  simp only [Bool.or_eq_true, Bool.and_eq_true, beq_iff_eq] at ho
  rcases ho with ⟨rfl, rfl⟩ | ⟨rfl, rfl⟩
  · obtain ⟨h1, h2⟩ := do_same0 h
    obtain ⟨h3, h4⟩ := do_calm0 k hab
    exact ⟨h1, h3, h2, h4⟩
  · obtain ⟨h1, h2⟩ := do_same0 h.swap
    obtain ⟨h3, h4⟩ := do_calm0 k.swap (Ne.symm hab)
    refine ⟨h1.swap, h3.swap, h2, ?_⟩
    rw [← h3.sym, h4, k.sym]
end Go.Proofs.Ytnoihbbfodkejaa
