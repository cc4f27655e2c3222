/-
  Chapter 54, the leaves: knows and its closure, slices.ContainsFunc, slices.IndexFunc.
-/
import Derived.Test.YtnoihbbfodkejaaKey
import Derived.Deep.QuietTactic
import Derived.BigQuiet
import Derived.StillTailTactics
import Derived.Deep.OwnRows
namespace Go.Proofs.Ytnoihbbfodkejaa
open Go.RowKit Go.Deep

def outN (N k : Int) : Bool := decide (k < 0) || decide (N ≤ k)
def knowsF (g : Nat) : Value := .func (.func 35) #[] #[.pointer (some ⟨g, 0, none⟩)]

theorem closure_any (g p : Nat) (N k : Int) (w : World) (h0 : w.cell? ⟨g, 0, none⟩ = some (.pointer (some ⟨p, 0, none⟩))) (h1 : w.cell? ⟨p, 0, none⟩ = some (.int .i64 N)) :
    Calls Try.prog 35 #[.int .i64 k, .pointer (some ⟨g, 0, none⟩)] w fun e w' => e = .returned (.bool (outN N k)) ∧ w = w' := by
  unfold outN
  go_enter Try.func35, Try.ntmps35
  go_wp2
  all_goals go_ret
  · exact ⟨rfl, rfl⟩
  · rename_i h
    exact ⟨by simp [h], rfl⟩

def badN (N : Int) (xs : List Int) : Bool := xs.any (outN N)

set_option maxHeartbeats 1000000 in
theorem index_any (A : Option Addr) (n c g p : Nat) (N : Int) (xs : List Int) (w : World) (h : RI w w.heap.size A n xs) (hn : n ≤ maxLen)
    (h0 : w.cell? ⟨g, 0, none⟩ = some (.pointer (some ⟨p, 0, none⟩))) (h1 : w.cell? ⟨p, 0, none⟩ = some (.int .i64 N)) :
    Calls Try.prog 37 #[.slice A n c, knowsF g] w fun e w' => ∃ r : Int, decide (0 ≤ r) = badN N xs ∧ e = .returned (.int .i64 r) ∧ w = w' := by
  unfold maxLen at hn
  have HL : Hid (xs.length = n) := h.len
  have H0 := hide h0
  have H1 := hide h1
  clear h0 h1
  unfold knowsF
  go_enter Try.func37, Try.ntmps37
  go_wp2
  go_loop [8] (fun i => ∃ k : Nat, k ≤ n ∧ i = .int .i64 k ∧ badN N (xs.take k) = false) (fun i => n - (intOf i).toNat)
  case atStart => exact ⟨0, Nat.zero_le _, rfl, rfl⟩
  case round =>
    obtain ⟨k, hk, rfl, hr⟩ := hrel
    have HR := hide hr
    clear hr
    by_cases hlt : k < n
    · obtain ⟨b, off, rfl, hb, hc⟩ := h.at_ hlt
      have HM : Hid (badN N (xs.take (k + 1)) = outN N (nth xs k)) := by
        have h1 := HR.out
        show _ = _
        simp only [badN] at h1 ⊢
        rw [nth_take (by rw [HL.out]; exact hlt), List.any_append, h1]; simp
      cases ho : outN N (nth xs k)
      · have HO := hide ho
        clear ho
        go_wp2_with fail
        refine (closure_any g p N _ _ H0.out H1.out).mono ?_
        rintro e w' ⟨rfl, rfl⟩
        rw [HO.out]
        go_wp2
        go_round
        case rel => exact ⟨k + 1, by omega, by go_num, by rw [HM.out]; exact HO.out⟩
        case measure => simp [intOf]; omega
      · have HO := hide ho
        clear ho
        go_wp2_with fail
        refine (closure_any g p N _ _ H0.out H1.out).mono ?_
        rintro e w' ⟨rfl, rfl⟩
        rw [HO.out]
        go_wp2
        go_ret
        refine ⟨(k : Int), ?_, rfl, rfl⟩
        have hmem : nth xs k ∈ xs := nth_mem (by rw [HL.out]; exact hlt)
        have : badN N xs = true := List.any_eq_true.2 ⟨_, hmem, HO.out⟩
        rw [this]; simp
    · go_wp2
      go_ret
      have : xs.take k = xs := List.take_of_length_le (by rw [HL.out]; omega)
      refine ⟨-1, ?_, rfl, rfl⟩
      have h2 := HR.out
      rw [this] at h2
      rw [h2]; rfl

theorem contains_any (A : Option Addr) (n c g p : Nat) (N : Int) (xs : List Int) (w : World) (h : RI w w.heap.size A n xs) (hn : n ≤ maxLen)
    (h0 : w.cell? ⟨g, 0, none⟩ = some (.pointer (some ⟨p, 0, none⟩))) (h1 : w.cell? ⟨p, 0, none⟩ = some (.int .i64 N)) :
    Calls Try.prog 34 #[.slice A n c, knowsF g] w fun e w' => e = .returned (.bool (badN N xs)) ∧ w = w' := by
  have H0 := hide h0
  have H1 := hide h1
  clear h0 h1
  go_enter Try.func34, Try.ntmps34
  go_wp2_with fail
  refine (index_any A n c g p N xs _ h hn H0.out H1.out).mono ?_
  rintro e w' ⟨r, hr, rfl, rfl⟩
  have HR := hide hr
  clear hr
  go_wp2
  go_ret
  exact ⟨ret_bool HR.out, rfl⟩

theorem knows_bad (N a b : Int) (h : ¬ a = b) : (!badN N [a, b]) = knows N a b := by
  simp only [badN, outN, knows, List.any_cons, List.any_nil, Bool.or_false]
  rw [Bool.eq_iff_iff]
  simp
  omega

def way (i : Int × Int) : Value := .agg #[.int .i64 i.1, .int .i64 i.2]

set_option maxHeartbeats 1000000 in
theorem knows_lays (p : Nat) (N a b : Int) (w : World) (h1 : w.cell? ⟨p, 0, none⟩ = some (.int .i64 N)) :
    Calls Try.prog 23 #[.pointer (some ⟨p, 0, none⟩), .agg #[.int .i64 a, .int .i64 b]] w fun e w' => e = .returned (.bool (knows N a b)) ∧ ∃ o1 o2, w' = (w.alloc o1).alloc o2 := by
  have hp : p < w.heap.size := World.block_lt_of_cell? w _ h1
  have H1 := hide h1
  clear h1
  have hew := eq_way
  by_cases hab : a = b
  · subst hab
    have hk : knows N a a = false := by simp [knows]
    have hne : (a == a) = true := by simp
    have HK := hide hk
    clear hk
    go_enter Try.func23, Try.ntmps23
    go_wp2
    all_goals go_ret
    all_goals exact ⟨by rw [HK.out]; rfl, _, _, rfl⟩
  · have hne : (a == b) = false := by simp [hab]
    have hk := knows_bad N a b hab
    have HK := hide hk
    clear hk hab
    have r1 : RI ((w.alloc (.cells #[.pointer (some ⟨p, 0, none⟩)] 25)).alloc (.cells #[.int .i64 a, .int .i64 b] 59)) (w.heap.size + 1 + 1) (some ⟨w.heap.size + 1, 0, none⟩) 2 [a, b] := by
      have := RI.lit (w.alloc (.cells #[.pointer (some ⟨p, 0, none⟩)] 25)) [a, b] 2 59 rfl
      simpa [ints] using this
    have r2 : ((w.alloc (.cells #[.pointer (some ⟨p, 0, none⟩)] 25)).alloc (.cells #[.int .i64 a, .int .i64 b] 59)).cell? ⟨w.heap.size, 0, none⟩ = some (.pointer (some ⟨p, 0, none⟩)) := by
      rw [World.cell?_alloc_lt _ _ _ (by simp), World.cell?_alloc_at _ _ _ _ rfl]
      rfl
    have r3 : ((w.alloc (.cells #[.pointer (some ⟨p, 0, none⟩)] 25)).alloc (.cells #[.int .i64 a, .int .i64 b] 59)).cell? ⟨p, 0, none⟩ = some (.int .i64 N) := by
      have hp' : p < (w.alloc (.cells #[.pointer (some ⟨p, 0, none⟩)] 25)).heap.size := by simp; omega
      rw [World.cell?_alloc_lt _ _ _ hp', World.cell?_alloc_lt _ _ _ hp]
      exact H1.out
    have hb : ∃ o1 o2, ((w.alloc (.cells #[.pointer (some ⟨p, 0, none⟩)] 25)).alloc (.cells #[.int .i64 a, .int .i64 b] 59)) = (w.alloc o1).alloc o2 := ⟨_, _, rfl⟩
    have hsz : ((w.alloc (.cells #[.pointer (some ⟨p, 0, none⟩)] 25)).alloc (.cells #[.int .i64 a, .int .i64 b] 59)).heap.size = w.heap.size + 1 + 1 := by simp
    have R1 := hide r1
    have R2 := hide r2
    have R3 := hide r3
    have HS := hide hsz
    have HB := hide hb
    clear r1 r2 r3 hsz hb
    go_enter Try.func23, Try.ntmps23
    go_wp2_with fail
    generalize (w.alloc (.cells #[.pointer (some ⟨p, 0, none⟩)] 25)).alloc (.cells #[.int .i64 a, .int .i64 b] 59) = w2 at R1 R2 R3 HS HB ⊢
    have q1 := R1.out
    rw [← HS.out] at q1
    refine (contains_any _ 2 2 w.heap.size p N [a, b] w2 q1 (by unfold maxLen; omega) R2.out R3.out).mono ?_
    rintro e w' ⟨rfl, rfl⟩
    go_wp2
    go_ret
    exact ⟨by rw [← HK.out]; rfl, HB.out⟩
theorem knows_any (p : Nat) (N a b : Int) (w : World) (h1 : w.cell? ⟨p, 0, none⟩ = some (.int .i64 N)) :
    Calls Try.prog 23 #[.pointer (some ⟨p, 0, none⟩), .agg #[.int .i64 a, .int .i64 b]] w fun e w' => e = .returned (.bool (knows N a b)) ∧ Below w.heap.size w w' :=
  (knows_lays p N a b w h1).mono fun _ _ ⟨he, _, _, hw⟩ => ⟨he, by rw [hw]; exact ((Below.refl _ _).alloc (Nat.le_refl _) _).alloc (by simp) _⟩
theorem knows_nil_lays (a b : Int) (w : World) :
    Calls Try.prog 23 #[.pointer none, .agg #[.int .i64 a, .int .i64 b]] w fun e w' => e = .returned (.bool false) ∧ ∃ o1 o2, w' = (w.alloc o1).alloc o2 := by
  go_enter Try.func23, Try.ntmps23
  go_wp2
  all_goals go_ret
  all_goals exact ⟨rfl, _, _, rfl⟩
theorem knows_nil (a b : Int) (w : World) :
    Calls Try.prog 23 #[.pointer none, .agg #[.int .i64 a, .int .i64 b]] w fun e w' => e = .returned (.bool false) ∧ Below w.heap.size w w' :=
  (knows_nil_lays a b w).mono fun _ _ ⟨he, _, _, hw⟩ => ⟨he, by rw [hw]; exact ((Below.refl _ _).alloc (Nat.le_refl _) _).alloc (by simp) _⟩
end Go.Proofs.Ytnoihbbfodkejaa
