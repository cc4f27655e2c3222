/-
  What a network of chapter 54 does, in plain words. No program.
-/
import Derived.Test.YtnoihbbfodkejaaMap
namespace Go.Proofs.Ytnoihbbfodkejaa

/-- A network: how many nodes, what waits on each way, which ways are cut. -/
structure NS where
  N : Int
  q : Int × Int → List ByteArray
  c : Int × Int → Bool
/-- Two different nodes. -/
def knows (N a b : Int) : Bool := decide (0 ≤ a ∧ a < N ∧ 0 ≤ b ∧ b < N ∧ a ≠ b)
def NS.new (N : Int) : NS := ⟨N, fun _ => [], fun _ => false⟩
def NS.sendErr (s : NS) (a b : Int) (t : ByteArray) : Int :=
  if knows s.N a b = false ∨ 20000 < t.size then 1 else if s.c (a, b) = true then 18 else if 100 ≤ (s.q (a, b)).length then 29 else 0
def NS.send (s : NS) (a b : Int) (t : ByteArray) : NS :=
  if s.sendErr a b t = 0 then { s with q := upd s.q (a, b) (s.q (a, b) ++ [t]) } else s
def NS.hit (s : NS) (a b i : Int) : Bool := knows s.N a b && decide (0 ≤ i ∧ i < (s.q (a, b)).length)
def NS.dOk (s : NS) (a b i : Int) (lost : Bool) : Bool := s.hit a b i && !lost
def NS.dText (s : NS) (a b i : Int) (lost : Bool) : ByteArray := if s.dOk a b i lost = true then (s.q (a, b)).getD i.toNat ByteArray.empty else ByteArray.empty
def NS.deliver (s : NS) (a b i : Int) (lost again : Bool) : NS :=
  if s.hit a b i = true ∧ (lost = true ∨ again = false) then { s with q := upd s.q (a, b) ((s.q (a, b)).eraseIdx i.toNat) } else s
def NS.waiting (s : NS) (a b : Int) : List ByteArray := if knows s.N a b = true then s.q (a, b) else []
def NS.turnErr (s : NS) (a b : Int) (cut : Bool) : Int := if knows s.N a b = false then 1 else if s.c (a, b) = cut then 11 else 0
def NS.turn (s : NS) (a b : Int) (cut : Bool) : NS :=
  if s.turnErr a b cut = 0 then { s with c := upd (upd s.c (a, b) cut) (b, a) cut, q := if cut = true then upd (upd s.q (a, b) []) (b, a) [] else s.q } else s

/-- All lists are of at most 100 texts. -/
def NS.Small (s : NS) : Prop := ∀ i, (s.q i).length ≤ 100
theorem NS.new_small (N : Int) : (NS.new N).Small := fun i => by simp [NS.new]
theorem NS.send_small {s : NS} (h : s.Small) (a b : Int) (t : ByteArray) : (s.send a b t).Small := by
  unfold NS.send
  split
  · rename_i h0
    intro i
    show (upd s.q (a, b) (s.q (a, b) ++ [t]) i).length ≤ 100
    by_cases e : i = (a, b)
    · subst e
      rw [upd_same, List.length_append]
      unfold NS.sendErr at h0
      split at h0
      · omega
      · split at h0
        · omega
        · split at h0
          · omega
          · simp; omega
    · rw [upd_other _ _ _ _ e]; exact h i
  · exact h
theorem NS.deliver_small {s : NS} (h : s.Small) (a b i : Int) (lost again : Bool) : (s.deliver a b i lost again).Small := by
  unfold NS.deliver
  split
  · intro j
    show (upd s.q (a, b) _ j).length ≤ 100
    by_cases e : j = (a, b)
    · subst e
      rw [upd_same]
      have := h (a, b)
      have h2 := List.length_eraseIdx_le (s.q (a, b)) i.toNat
      omega
    · rw [upd_other _ _ _ _ e]; exact h j
  · exact h
theorem NS.turn_small {s : NS} (h : s.Small) (a b : Int) (cut : Bool) : (s.turn a b cut).Small := by
  unfold NS.turn
  split
  · intro j
    cases cut
    · exact h j
    · show (upd (upd s.q (a, b) []) (b, a) [] j).length ≤ 100
      unfold upd
      split
      · simp
      · split
        · simp
        · exact h j
  · exact h

/-- A step, and what a step returns. -/
structure St where
  kind : Int
  a : Int
  b : Int
  n : Int
  text : ByteArray
  lost : Bool
  again : Bool
structure Res where
  err : Int
  text : ByteArray
  ok : Bool
deriving DecidableEq
def NS.res (s : NS) (x : St) : Res :=
  if x.kind = 0 then ⟨s.sendErr x.a x.b x.text, ByteArray.empty, false⟩
  else if x.kind = 1 then ⟨0, s.dText x.a x.b x.n x.lost, s.dOk x.a x.b x.n x.lost⟩
  else if x.kind = 2 then ⟨s.turnErr x.a x.b true, ByteArray.empty, false⟩
  else ⟨s.turnErr x.a x.b false, ByteArray.empty, false⟩
def NS.do_ (s : NS) (x : St) : NS :=
  if x.kind = 0 then s.send x.a x.b x.text
  else if x.kind = 1 then s.deliver x.a x.b x.n x.lost x.again
  else if x.kind = 2 then s.turn x.a x.b true
  else s.turn x.a x.b false
theorem NS.do_small {s : NS} (h : s.Small) (x : St) : (s.do_ x).Small := by
  unfold NS.do_
  split
  · exact NS.send_small h _ _ _
  · split
    · exact NS.deliver_small h _ _ _ _ _
    · split
      · exact NS.turn_small h _ _ _
      · exact NS.turn_small h _ _ _
def NS.run (s : NS) (l : List St) : NS := l.foldl NS.do_ s
end Go.Proofs.Ytnoihbbfodkejaa
