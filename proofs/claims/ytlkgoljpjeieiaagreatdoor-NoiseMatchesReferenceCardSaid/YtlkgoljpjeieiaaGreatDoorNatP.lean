/-
  Natural numbers as strings of digits. No program.
-/
import Derived.Lib.Atoi
import Derived.Lib.ItoaNum
import Derived.Lib.ItoaMem
import Derived.Laws.Strings
import Derived.Lib.Strings
import Derived.Lib.SlTrimSet
set_option linter.unusedVariables false
set_option linter.unusedSimpArgs false
namespace Go.Proofs.YtlkgoljpjeieiaaGreatDoor
open Go.Lib

/-- The string of a natural number. -/
def NS (n : Nat) : ByteArray := ⟨(decDigits n).toArray⟩
theorem digit_of (v : Nat) (hv : v < 10) : (UInt8.ofNat (48 + v)).toNat = 48 + v := by rw [UInt8.toNat_ofNat']; omega
theorem dec_induct (C : Nat → List UInt8 → Prop) (h0 : ∀ u, u < 10 → C u [UInt8.ofNat (48 + u)]) (h1 : ∀ u, ¬ u < 10 → C (u / 10) (decDigits (u / 10)) → C u (decDigits (u / 10) ++ [UInt8.ofNat (48 + u % 10)])) (u : Nat) : C u (decDigits u) := by
  induction u using Nat.strongRecOn with
  | _ u ih =>
    rw [decDigits]
    split
    · rename_i h
      exact h0 u h
    · rename_i h
      exact h1 u h (ih (u / 10) (by omega))
theorem dec_bytes (u : Nat) : ∀ c ∈ decDigits u, 48 ≤ c.toNat ∧ c.toNat ≤ 57 := by
  refine dec_induct (fun _ l => ∀ c ∈ l, 48 ≤ c.toNat ∧ c.toNat ≤ 57) (fun u hu c hc => ?_) (fun u hu ih c hc => ?_) u
  · rw [List.mem_singleton.1 hc, digit_of u hu]
    omega
  · rcases List.mem_append.1 hc with hc | hc
    · exact ih c hc
    · rw [List.mem_singleton.1 hc, digit_of _ (Nat.mod_lt _ (by decide))]
      have := Nat.mod_lt u (by decide : 10 > 0)
      omega
theorem dec_size (u : Nat) : 1 ≤ (decDigits u).length ∧ ∀ k, u < 10 ^ (k + 1) → (decDigits u).length ≤ k + 1 := by
  refine dec_induct (fun u l => 1 ≤ l.length ∧ ∀ k, u < 10 ^ (k + 1) → l.length ≤ k + 1) (fun u hu => ⟨by simp, fun k _ => by simp⟩) (fun u hu ih => ⟨by simp, fun k hk => ?_⟩) u
  cases k with
  | zero => simp at hk; omega
  | succ k =>
    have := ih.2 k (by rw [Nat.pow_succ] at hk; omega)
    simp
    omega
theorem decFrom_snoc : ∀ (l : List UInt8) (acc n : Nat) (b : UInt8) (d : Nat), decFrom acc l = some n → digitVal b = some d → decFrom acc (l ++ [b]) = some (n * 10 + d)
  | [], acc, n, b, d, h, hb => by
    simp only [decFrom, Option.some.injEq] at h
    subst h
    simp [decFrom, hb]
  | a :: t, acc, n, b, d, h, hb => by
    simp only [decFrom] at h
    cases ha : digitVal a with
    | none => simp [ha] at h
    | some e =>
      simp only [ha] at h
      show decFrom acc (a :: (t ++ [b])) = _
      simp only [decFrom, ha]
      exact decFrom_snoc t _ n b d h hb
theorem digitVal_of (v : Nat) (hv : v < 10) : digitVal (UInt8.ofNat (48 + v)) = some v := by
  unfold digitVal
  rw [digit_of v hv, if_pos (by omega)]
  congr 1
  omega
theorem dec_from (u : Nat) : decFrom 0 (decDigits u) = some u := by
  refine dec_induct (fun u l => decFrom 0 l = some u) (fun u hu => ?_) (fun u hu ih => ?_) u
  · simp only [decFrom, digitVal_of u hu]
    congr 1
    omega
  · rw [decFrom_snoc _ _ _ _ _ ih (digitVal_of _ (Nat.mod_lt _ (by decide)))]
    congr 1
    omega
theorem dec_cons (u : Nat) : ∃ b r, decDigits u = b :: r ∧ (u = 0 ∨ b.toNat ≠ 48) := by
  refine dec_induct (fun u l => ∃ b r, l = b :: r ∧ (u = 0 ∨ b.toNat ≠ 48)) (fun u hu => ⟨_, _, rfl, ?_⟩) (fun u hu ih => ?_) u
  · rw [digit_of u hu]
    omega
  · obtain ⟨b, r, e, hb⟩ := ih
    refine ⟨b, r ++ [UInt8.ofNat (48 + u % 10)], by rw [e]; rfl, .inr ?_⟩
    rcases hb with hb | hb
    · omega
    · exact hb
theorem dec_atoi (u : Nat) : atoi (decDigits u) = some (u : Int) := by
  have hf := dec_from u
  have hb := dec_bytes u
  obtain ⟨b, r, e, _⟩ := dec_cons u
  rw [e] at hf hb ⊢
  have h1 := hb b List.mem_cons_self
  have n45 : (b == 45) = false := by
    rw [beq_eq_false_iff_ne]
    intro h
    subst h
    exact absurd h1.1 (by decide)
  have n43 : (b == 43) = false := by
    rw [beq_eq_false_iff_ne]
    intro h
    subst h
    exact absurd h1.1 (by decide)
  simp [atoi, decNat, n45, n43, hf]
theorem dec_inj {a b : Nat} (h : decDigits a = decDigits b) : a = b := by
  have h1 := dec_from a
  have h2 := dec_from b
  rw [h, h2] at h1
  exact (Option.some.inj h1).symm
theorem ns_inj {a b : Nat} : NS a = NS b ↔ a = b := by
  constructor
  · intro h
    unfold NS at h
    injection h with h
    exact dec_inj (by simpa using congrArg Array.toList h)
  · rintro rfl
    rfl
theorem ns_list (n : Nat) : (NS n).data.toList = decDigits n := by simp [NS]
theorem ns_bytes (n : Nat) : (NS n).toList = decDigits n := by rw [toList_data, ns_list]
theorem ns_size (n : Nat) : (NS n).size = (decDigits n).length := by
  show (decDigits n).toArray.size = _
  simp
theorem ns_small {n : Nat} (h : n < 1000000000) : 1 ≤ (NS n).size ∧ (NS n).size ≤ 9 := by
  rw [ns_size]
  exact ⟨(dec_size n).1, (dec_size n).2 8 (by omega)⟩
theorem ns_zero : NS 0 = ⟨#[48]⟩ := by
  unfold NS
  rw [decDigits, dif_pos (by decide)]
  rfl
theorem ns_one : NS 1 = ⟨#[49]⟩ := by
  unfold NS
  rw [decDigits, dif_pos (by decide)]
  rfl
theorem ns_first (n : Nat) : ∃ b : UInt8, (NS n)[0]? = some b ∧ (n = 0 ∨ b.toNat ≠ 48) := by
  obtain ⟨b, r, e, h⟩ := dec_cons n
  refine ⟨b, ?_, h⟩
  have hz : 0 < (NS n).size := by rw [ns_size, e]; simp
  have : (NS n)[0]? = some (NS n)[0] := getElem?_pos (NS n) 0 hz
  rw [this]
  congr 1
  show (NS n).data[0] = b
  simp [NS, e]
/-- The digits. -/
def digs10 : ByteArray := ⟨#[48, 49, 50, 51, 52, 53, 54, 55, 56, 57]⟩
theorem digs_in : ∀ v : Nat, v < 10 → ([48, 49, 50, 51, 52, 53, 54, 55, 56, 57] : List UInt8).contains (UInt8.ofNat (48 + v)) = true := by decide
theorem digs_has (b : UInt8) (h : 48 ≤ b.toNat ∧ b.toNat ≤ 57) : digs10.data.toList.contains b = true := by
  have := digs_in (b.toNat - 48) (by omega)
  rw [show 48 + (b.toNat - 48) = b.toNat by omega, UInt8.ofNat_toNat] at this
  exact this
theorem ns_trim (n : Nat) : (⟨(trimS (NS n).data.toList digs10.data.toList).toArray⟩ : ByteArray) = ⟨#[]⟩ := by
  have h1 : trimRightS (NS n).data.toList digs10.data.toList = [] := by
    have := trimRightS_take (NS n).data.toList digs10.data.toList 0 (Nat.zero_le _) (fun j b _ hb => digs_has b (dec_bytes n b (by rw [ns_list] at hb; exact List.mem_of_getElem? hb))) (fun b h => absurd h (Nat.lt_irrefl _))
    rw [this, List.take_zero]
  unfold trimS
  rw [h1]
  rfl
end Go.Proofs.YtlkgoljpjeieiaaGreatDoor
