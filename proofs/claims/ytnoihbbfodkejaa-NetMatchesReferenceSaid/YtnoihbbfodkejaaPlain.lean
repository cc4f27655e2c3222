/-
  Chapter 54: networks with one queue, in plain words.
-/
import Derived.Test.YtnoihbbfodkejaaNModel
namespace Go.Proofs.Ytnoihbbfodkejaa

/-- A network of N nodes without cuts on which the texts l wait on way i, and no others. -/
def qs (N : Int) (i : Int × Int) (l : List ByteArray) : NS := ⟨N, upd (fun _ => []) i l, fun _ => false⟩
theorem qs_new (N : Int) (i : Int × Int) : NS.new N = qs N i [] := by
  have : upd (fun _ : Int × Int => ([] : List ByteArray)) i [] = fun _ => [] := by
    funext j
    unfold upd
    split <;> rfl
  unfold NS.new qs
  rw [this]
theorem qs_q (N : Int) (i : Int × Int) (l : List ByteArray) : (qs N i l).q i = l := by
  show upd (fun _ => []) i l i = l
  exact upd_same _ _ _
theorem qs_small (N : Int) (i : Int × Int) (l : List ByteArray) (h : l.length ≤ 100) : (qs N i l).Small := by
  intro j
  by_cases e : j = i
  · subst e; rw [qs_q]; exact h
  · show (upd (fun _ => []) i l j).length ≤ 100
    rw [upd_other _ _ _ _ e]
    simp
theorem qs_err (N a b : Int) (l : List ByteArray) (t : ByteArray) (hk : knows N a b = true) (ht : t.size ≤ 20000) : (qs N (a, b) l).sendErr a b t = if 100 ≤ l.length then 29 else 0 := by
  unfold NS.sendErr
  rw [if_neg (by show ¬ (knows N a b = false ∨ _); rw [hk]; simp; exact ht), if_neg (by show ¬ (false = true); simp), qs_q]
theorem upd_upd {ι α : Type} [DecidableEq ι] (f : ι → α) (i : ι) (x y : α) : upd (upd f i x) i y = upd f i y := by
  funext j
  unfold upd
  split <;> rfl
theorem qs_send (N a b : Int) (l : List ByteArray) (t : ByteArray) (hk : knows N a b = true) (ht : t.size ≤ 20000) (hl : l.length < 100) : (qs N (a, b) l).send a b t = qs N (a, b) (l ++ [t]) := by
  unfold NS.send
  rw [if_pos (by rw [qs_err N a b l t hk ht, if_neg (by omega)]), qs_q]
  unfold qs
  simp only [upd_upd]
theorem qs_full (N a b : Int) (l : List ByteArray) (t : ByteArray) (hk : knows N a b = true) (ht : t.size ≤ 20000) (hl : 100 ≤ l.length) : (qs N (a, b) l).send a b t = qs N (a, b) l := by
  unfold NS.send
  rw [if_neg (by rw [qs_err N a b l t hk ht, if_pos hl]; decide)]
theorem qs_err' (N a b c d : Int) (l : List ByteArray) (t : ByteArray) (hk : knows N c d = true) (ht : t.size ≤ 20000) (hne : (c, d) ≠ (a, b)) : (qs N (a, b) l).sendErr c d t = 0 := by
  unfold NS.sendErr
  rw [if_neg (by show ¬ (knows N c d = false ∨ _); rw [hk]; simp; exact ht), if_neg (by show ¬ (false = true); simp)]
  show (if 100 ≤ (upd (fun _ => []) (a, b) l (c, d)).length then 29 else 0) = 0
  rw [upd_other _ _ _ _ hne]
  rfl
theorem qs_waiting (N a b : Int) (l : List ByteArray) (hk : knows N a b = true) : (qs N (a, b) l).waiting a b = l := by
  unfold NS.waiting
  rw [qs_q]
  exact if_pos hk
theorem qs_hit (N a b i : Int) (l : List ByteArray) (hk : knows N a b = true) : (qs N (a, b) l).hit a b i = decide (0 ≤ i ∧ i < (l.length : Int)) := by
  unfold NS.hit
  rw [qs_q]
  show (knows N a b && _) = _
  rw [hk, Bool.true_and]
theorem qs_deliver (N a b i : Int) (l : List ByteArray) (hk : knows N a b = true) (lost again : Bool) : (qs N (a, b) l).deliver a b i lost again =
    if (0 ≤ i ∧ i < (l.length : Int)) ∧ (lost = true ∨ again = false) then qs N (a, b) (l.eraseIdx i.toNat) else qs N (a, b) l := by
  unfold NS.deliver
  rw [qs_hit N a b i l hk, qs_q]
  simp only [decide_eq_true_eq]
  split
  · unfold qs
    simp only [upd_upd]
  · rfl
theorem qs_ok (N a b i : Int) (l : List ByteArray) (hk : knows N a b = true) (lost : Bool) : (qs N (a, b) l).dOk a b i lost = (decide (0 ≤ i ∧ i < (l.length : Int)) && !lost) := by
  unfold NS.dOk
  rw [qs_hit N a b i l hk]
theorem qs_text (N a b i : Int) (l : List ByteArray) (hk : knows N a b = true) (lost : Bool) : (qs N (a, b) l).dText a b i lost = if (decide (0 ≤ i ∧ i < (l.length : Int)) && !lost) = true then l.getD i.toNat ByteArray.empty else ByteArray.empty := by
  unfold NS.dText
  rw [qs_ok N a b i l hk, qs_q]

/-- i texts sent between two nodes: the first 100 wait. -/
def fullL (t : ByteArray) (i : Nat) : List ByteArray := List.replicate (min i 100) t
theorem fullL_next (t : ByteArray) (ht : t.size ≤ 20000) (i : Nat) : (qs 2 (1, 0) (fullL t i)).send 1 0 t = qs 2 (1, 0) (fullL t (i + 1)) := by
  by_cases h : i < 100
  · rw [qs_send 2 1 0 _ t (by decide) ht (by simp [fullL]; omega)]
    unfold fullL
    rw [show min (i + 1) 100 = min i 100 + 1 by omega, List.replicate_succ']
  · rw [qs_full 2 1 0 _ t (by decide) ht (by simp [fullL]; omega)]
    unfold fullL
    rw [show min (i + 1) 100 = min i 100 by omega]
theorem fullL_err (t : ByteArray) (ht : t.size ≤ 20000) (i : Nat) : (qs 2 (1, 0) (fullL t i)).sendErr 1 0 t = if 100 ≤ i then 29 else 0 := by
  rw [qs_err 2 1 0 _ t (by decide) ht]
  simp only [fullL, List.length_replicate]
  split <;> split <;> omega
theorem fullL_small (t : ByteArray) (i : Nat) : (qs 2 (1, 0) (fullL t i)).Small := qs_small _ _ _ (by simp [fullL]; omega)
end Go.Proofs.Ytnoihbbfodkejaa
