/-
  Chapter 26: Charge, both texts.
-/
import Derived.Test.YtamcnobdopcjgaaMid
import Derived.Laws.CopyOwn
import Derived.Laws.MakeOwn
namespace Go.Proofs.Ytamcnobdopcjgaa
open Go.RowKit

theorem int_info : (Try.prog.info? 3).map (fun i => (i.zero, i.size, i.bytes)) = some (some (.int .i64 0), 1, 8) := by kernel_rfl
theorem int_size : (Try.prog.info? 3).map (·.size) = some 1 := by kernel_rfl

/-- The error of Charge. -/
def chgE (xs ys : List Int) (p s : Int) : Int :=
  if vldB xs ys && decide (0 ≤ p) && decide (p < ys.length) && !outB 0 1000000 s then (if 1000000 < nth ys p.toNat + s then 9 else 0) else 1
/-- The accounts behind Charge; none with an error. -/
def chgL (xs ys : List Int) (p s : Int) : List Int := if chgE xs ys p s = 0 then ys.set p.toNat (nth ys p.toNat + s) else []

theorem chgE_ok {xs ys : List Int} {p s : Int} (h : chgE xs ys p s = 0) : vldB xs ys = true ∧ 0 ≤ p ∧ p < ys.length ∧ 0 ≤ s ∧ s ≤ 1000000 ∧ nth ys p.toNat + s ≤ 1000000 := by
  unfold chgE at h
  split at h
  · rename_i hc
    simp only [Bool.and_eq_true, decide_eq_true_eq, Bool.not_eq_true'] at hc
    obtain ⟨⟨⟨h1, h2⟩, h3⟩, h4⟩ := hc
    simp [outB] at h4
    split at h
    · omega
    · exact ⟨h1, h2, h3, h4.1, h4.2, by omega⟩
  · omega
theorem chgL_len (xs ys : List Int) (p s : Int) : (chgL xs ys p s).length ≤ 16 := by
  unfold chgL
  split
  · rename_i h
    have := vld_len (chgE_ok h).1
    simp; omega
  · simp

/-- What a function that returns numbers and an error leaves. -/
def RetLE (w : World) (zs : List Int) (err : Int) (e : Ending) (w' : World) : Prop :=
  ∃ A c, e = .returned (.tuple #[.slice A zs.length c, .int .i64 err]) ∧ RI w' w'.heap.size A zs.length zs ∧ Below w.heap.size w w'
theorem RetLE.none_ {w w' : World} {err : Int} (h : Below w.heap.size w w') : RetLE w [] err (.returned (.tuple #[.slice none 0 0, .int .i64 err])) w' := ⟨none, 0, rfl, RI.none_, h⟩

theorem vld_used {xs ys : List Int} (h : vldB xs ys = true) {k : Nat} (hk : k < ys.length) : 0 ≤ nth ys k ∧ nth ys k ≤ 1000000 := by
  simp only [vldB, Bool.and_eq_true, Bool.not_eq_true', List.any_eq_false] at h
  have := h.2 _ (nth_mem hk)
  simp [outB] at this
  omega

set_option maxHeartbeats 1000000 in
theorem charge_any (A A' : Option Addr) (n c n' c' : Nat) (xs ys : List Int) (p s : Int) (w : World) (h : RI w w.heap.size A n xs) (h' : RI w w.heap.size A' n' ys) (hn : n ≤ maxLen) (hn' : n' ≤ maxLen) :
    Calls Try.prog 13 #[.slice A n c, .slice A' n' c', .int .i64 p, .int .i64 s] w (RetLE w (chgL xs ys p s) (chgE xs ys p s)) := by
  have HN := hide hn
  have HN' := hide hn'
  unfold maxLen at hn hn'
  have HL : Hid (xs.length = n) := h.len
  have HL' : Hid (ys.length = n') := h'.len
  cases hv : vldB xs ys
  · have HE : Hid (chgE xs ys p s = 1) := by show _ = _; simp [chgE, hv]
    have HV := hide hv
    clear hv
    go_enter Try.func13, Try.ntmps13
    go_wp2_with fail
    refine (valid_any A A' n c n' c' xs ys _ h h' HN HN').mono ?_
    rintro e w1 ⟨rfl, hb⟩
    rw [HV.out]
    go_wp2
    go_ret2
    simp only [chgL, HE.out]
    exact RetLE.none_ hb
  have HX := hide (vld_len hv)
  have HU : Hid (∀ k, k < ys.length → 0 ≤ nth ys k ∧ nth ys k ≤ 1000000) := fun k hk => vld_used hv hk
  by_cases h1 : p < 0
  · have HE : Hid (chgE xs ys p s = 1) := by
      have : ¬ 0 ≤ p := by omega
      show _ = _; simp [chgE, this]
    have HV := hide hv
    clear hv
    go_enter Try.func13, Try.ntmps13
    go_wp2_with fail
    refine (valid_any A A' n c n' c' xs ys _ h h' HN HN').mono ?_
    rintro e w1 ⟨rfl, hb⟩
    rw [HV.out]
    go_wp2
    go_ret2
    simp only [chgL, HE.out]
    exact RetLE.none_ hb
  by_cases h2 : (n' : Int) ≤ p
  · have HE : Hid (chgE xs ys p s = 1) := by
      have : ¬ p < ys.length := by rw [HL'.out]; omega
      show _ = _; simp [chgE, this]
    have HV := hide hv
    clear hv
    go_enter Try.func13, Try.ntmps13
    go_wp2_with fail
    refine (valid_any A A' n c n' c' xs ys _ h h' HN HN').mono ?_
    rintro e w1 ⟨rfl, hb⟩
    rw [HV.out]
    go_wp2
    go_ret2
    simp only [chgL, HE.out]
    exact RetLE.none_ hb
  cases ho : outB 0 1000000 s
  case true =>
    have HE : Hid (chgE xs ys p s = 1) := by show _ = _; simp [chgE, ho]
    have HV := hide hv
    have HO := hide ho
    clear hv ho
    go_enter Try.func13, Try.ntmps13
    go_wp2_with fail
    refine (valid_any A A' n c n' c' xs ys _ h h' HN HN').mono ?_
    rintro e w1 ⟨rfl, hb⟩
    rw [HV.out]
    go_wp2_with fail
    refine (outside_any 0 1000000 _).mono ?_
    rintro e w2 ⟨q, q', rfl, hb', hq, hq'⟩
    unfold outF
    go_wp2_with fail
    refine (out_any s 0 1000000 q q' _ hq hq').mono ?_
    rintro e w3 ⟨rfl, rfl⟩
    rw [HO.out]
    go_wp2
    go_ret2
    simp only [chgL, HE.out]
    exact RetLE.none_ (hb.trans (hb'.mono hb.size))
  have h3 : (0 : Int) ≤ p := by omega
  have h5 : p < (n' : Int) := by omega
  have hs : 0 ≤ s ∧ s ≤ 1000000 := by simp [outB] at ho; omega
  obtain ⟨k, rfl⟩ := Int.eq_ofNat_of_zero_le h3
  have h5' : k < n' := by omega
  have hu := vld_used hv (k := k) (by rw [HL'.out]; exact h5')
  have HE : Hid (chgE xs ys (k : Int) s = if 1000000 < nth ys k + s then 9 else 0) := by
    have : (k : Int) < ys.length := by rw [HL'.out]; exact h5
    show _ = _; simp [chgE, hv, ho, this]
  have HV := hide hv
  have HO := hide ho
  clear hv ho
  by_cases hg : 1000000 < nth ys k + s
  · have HF : Hid (chgE xs ys (k : Int) s = 9) := by show _ = _; rw [HE.out, if_pos hg]
    go_enter Try.func13, Try.ntmps13
    go_wp2_with fail
    refine (valid_any A A' n c n' c' xs ys _ h h' HN HN').mono ?_
    rintro e w1 ⟨rfl, hb⟩
    rw [HV.out]
    go_wp2_with fail
    refine (outside_any 0 1000000 _).mono ?_
    rintro e w2 ⟨q, q', rfl, hb', hq, hq'⟩
    unfold outF
    go_wp2_with fail
    refine (out_any s 0 1000000 q q' _ hq hq').mono ?_
    rintro e w3 ⟨rfl, rfl⟩
    rw [HO.out]
    obtain ⟨b, off, rfl, hbl, hc⟩ := ((h'.next hb).next hb').at_ h5'
    go_wp2
    go_ret2
    simp only [chgL, HF.out]
    exact RetLE.none_ (hb.trans (hb'.mono hb.size))
  · have HF : Hid (chgE xs ys (k : Int) s = 0) := by show _ = _; rw [HE.out, if_neg hg]
    have hg' : nth ys k + s ≤ 1000000 := by omega
    have h16 : n' ≤ 16 := by have := HX.out; rw [HL.out, HL'.out] at this; omega
    go_enter Try.func13, Try.ntmps13
    go_wp2_with fail
    refine (valid_any A A' n c n' c' xs ys _ h h' HN HN').mono ?_
    rintro e w1 ⟨rfl, hb⟩
    rw [HV.out]
    go_wp2_with fail
    refine (outside_any 0 1000000 _).mono ?_
    rintro e w2 ⟨q, q', rfl, hb', hq, hq'⟩
    unfold outF
    go_wp2_with fail
    refine (out_any s 0 1000000 q q' _ hq hq').mono ?_
    rintro e w3 ⟨rfl, rfl⟩
    rw [HO.out]
    have r := (h'.next hb).next hb'
    obtain ⟨b, off, rfl, hbl, hc⟩ := r.at_ h5'
    have hmk := make_run (P := Try.prog) 22 3 _ 8 Try.underlying22 int_info rfl n' (by omega) (by omega) w2
    have Q6 := hide ((hb.trans (hb'.mono hb.size)).alloc (Nat.le_trans hb.size hb'.size) (.cells (Array.replicate n' (Value.int .i64 0)) 3))
    have Q7 := hide (Nat.le_trans hb.size hb'.size)
    go_wp2_with ((
      refine wpList_copy_reads rfl (.tmp 42) (.tmp 43) 22 22 rfl 3 Try.underlying22 int_size w2.heap.size n' n' (some ⟨b, off, none⟩) c' rfl rfl _ 3 (make_blk _ _ _ _) (by simp) w2.heap.size (ints ys) (r.alloc (Nat.le_refl _) _) (ints_oneCell _) w.heap.size w Q6.out Q7.out ?_
      intro w4 B4 hb4
      have c4 := B4.int (k := k) (by rw [HL'.out]; exact h5')
      have f4 := B4.frozen k
      clear hmk hc))
    go_ret2
    have HZ : chgL xs ys (k : Int) s = ys.set k (nth ys k + s) := by simp [chgL, HF.out]
    rw [HZ, HF.out]
    exact ⟨some _, n', by rw [List.length_set, HL'.out]; rfl, RI.of_blk (B4.setInt k _) rfl, hb4.setCell Q7.out _⟩

set_option maxHeartbeats 1000000 in
theorem rcharge_any (A A' : Option Addr) (n c n' c' : Nat) (xs ys : List Int) (p s : Int) (w : World) (h : RI w w.heap.size A n xs) (h' : RI w w.heap.size A' n' ys) (hn : n ≤ maxLen) (hn' : n' ≤ maxLen) :
    Calls Try.prog 14 #[.slice A n c, .slice A' n' c', .int .i64 p, .int .i64 s] w (RetLE w (chgL xs ys p s) (chgE xs ys p s)) := by
  have HN := hide hn
  have HN' := hide hn'
  unfold maxLen at hn hn'
  have HL : Hid (xs.length = n) := h.len
  have HL' : Hid (ys.length = n') := h'.len
  cases hv : vldB xs ys
  · have HE : Hid (chgE xs ys p s = 1) := by show _ = _; simp [chgE, hv]
    have HV := hide hv
    clear hv
    go_enter Try.func14, Try.ntmps14
    go_wp2_with fail
    refine (rvalid_any _ _ n c n' c' xs ys _ h h' HN.out HN'.out).mono ?_
    rintro e w1 ⟨rfl, rfl⟩
    rw [HV.out]
    go_wp2
    go_ret2
    simp only [chgL, HE.out]
    exact RetLE.none_ (Below.refl _ _)
  have HX := hide (vld_len hv)
  by_cases h1 : p < 0
  · have HE : Hid (chgE xs ys p s = 1) := by
      have : ¬ 0 ≤ p := by omega
      show _ = _; simp [chgE, this]
    have HV := hide hv
    clear hv
    go_enter Try.func14, Try.ntmps14
    go_wp2_with fail
    refine (rvalid_any _ _ n c n' c' xs ys _ h h' HN.out HN'.out).mono ?_
    rintro e w1 ⟨rfl, rfl⟩
    rw [HV.out]
    go_wp2
    go_ret2
    simp only [chgL, HE.out]
    exact RetLE.none_ (Below.refl _ _)
  by_cases h2 : (n : Int) ≤ p
  · have HE : Hid (chgE xs ys p s = 1) := by
      have : ¬ p < ys.length := by have := HX.out; have := HL.out; omega
      show _ = _; simp [chgE, this]
    have HV := hide hv
    clear hv
    go_enter Try.func14, Try.ntmps14
    go_wp2_with fail
    refine (rvalid_any _ _ n c n' c' xs ys _ h h' HN.out HN'.out).mono ?_
    rintro e w1 ⟨rfl, rfl⟩
    rw [HV.out]
    go_wp2
    go_ret2
    simp only [chgL, HE.out]
    exact RetLE.none_ (Below.refl _ _)
  by_cases h3s : s < 0
  · have HE : Hid (chgE xs ys p s = 1) := by
      have : outB 0 1000000 s = true := by simp [outB, h3s]
      show _ = _; simp [chgE, this]
    have HV := hide hv
    clear hv
    go_enter Try.func14, Try.ntmps14
    go_wp2_with fail
    refine (rvalid_any _ _ n c n' c' xs ys _ h h' HN.out HN'.out).mono ?_
    rintro e w1 ⟨rfl, rfl⟩
    rw [HV.out]
    go_wp2
    go_ret2
    simp only [chgL, HE.out]
    exact RetLE.none_ (Below.refl _ _)
  by_cases h4s : 1000000 < s
  · have HE : Hid (chgE xs ys p s = 1) := by
      have : outB 0 1000000 s = true := by simp [outB, h4s]
      show _ = _; simp [chgE, this]
    have HV := hide hv
    clear hv
    go_enter Try.func14, Try.ntmps14
    go_wp2_with fail
    refine (rvalid_any _ _ n c n' c' xs ys _ h h' HN.out HN'.out).mono ?_
    rintro e w1 ⟨rfl, rfl⟩
    rw [HV.out]
    go_wp2
    go_ret2
    simp only [chgL, HE.out]
    exact RetLE.none_ (Below.refl _ _)
  have h3 : (0 : Int) ≤ p := by omega
  have h5 : p < (n' : Int) := by have := HX.out; rw [HL.out, HL'.out] at this; omega
  have h6 : p < (n : Int) := by omega
  have hs : 0 ≤ s ∧ s ≤ 1000000 := by omega
  obtain ⟨k, rfl⟩ := Int.eq_ofNat_of_zero_le h3
  have h5' : k < n' := by omega
  have hu := vld_used hv (k := k) (by rw [HL'.out]; exact h5')
  have HE : Hid (chgE xs ys (k : Int) s = if 1000000 < nth ys k + s then 9 else 0) := by
    have e1 : (k : Int) < ys.length := by rw [HL'.out]; exact h5
    have e2 : outB 0 1000000 s = false := by simp [outB]; omega
    show _ = _; simp [chgE, hv, e2, e1]
  have HV := hide hv
  clear hv
  obtain ⟨b, off, rfl, hbl, hc⟩ := h'.at_ h5'
  by_cases hg : 1000000 < nth ys k + s
  · have HF : Hid (chgE xs ys (k : Int) s = 9) := by show _ = _; rw [HE.out, if_pos hg]
    go_enter Try.func14, Try.ntmps14
    go_wp2_with fail
    refine (rvalid_any _ _ n c n' c' xs ys _ h h' HN.out HN'.out).mono ?_
    rintro e w1 ⟨rfl, rfl⟩
    rw [HV.out]
    go_wp2
    go_ret2
    simp only [chgL, HF.out]
    exact RetLE.none_ (Below.refl _ _)
  · have HF : Hid (chgE xs ys (k : Int) s = 0) := by show _ = _; rw [HE.out, if_neg hg]
    have hg' : nth ys k + s ≤ 1000000 := by omega
    have h16 : n' ≤ 16 := by have := HX.out; rw [HL.out, HL'.out] at this; omega
    have HO := hide (Own.of_lit (base := w.heap.size) (e := 3) (size := 1) w #[] 0 (Nat.le_refl _) (by simp [maxLen]) rfl)
    have HR := hide (h'.alloc (Nat.le_refl _) (.cells #[] 3))
    go_enter Try.func14, Try.ntmps14
    go_wp2_with fail
    refine (rvalid_any _ _ n c n' c' xs ys _ h h' HN.out HN'.out).mono ?_
    rintro e w1 ⟨rfl, rfl⟩
    rw [HV.out]
    go_wp2_with ((
      at_builtin
      refine wpList_app rfl (.tmp 40) (.tmp 41) _ rfl w.heap.size 3 _ 1 8 Try.underlying22 int_info rfl (by omega) (some ⟨w.heap.size, 0, none⟩) 0 0 _ rfl HO.out w.heap.size (some ⟨b, off, none⟩) n' c' (ints ys) rfl HR.out (ints_oneCell _) (by unfold maxLen; omega) (by omega) (by simp) ?_
      intro A2 c2 w4 own4 hb4 _
      simp only [Nat.zero_add, List.nil_append] at own4
      obtain ⟨g, rfl, hbg, hg4, c4, f4⟩ := own4.at_ h5'
      rw [ints_get (by rw [HL'.out]; exact h5')] at c4))
    go_ret2
    have HZ : chgL xs ys (k : Int) s = ys.set k (nth ys k + s) := by simp [chgL, HF.out]
    rw [HZ, HF.out]
    have own5 := own4.set k (.int .i64 (nth ys k + s))
    rw [set_ints] at own5
    have hL : (ys.set k (nth ys k + s)).length = n' := by rw [List.length_set, HL'.out]
    exact ⟨some ⟨g, 0, none⟩, c2, by rw [hL]; rfl, by rw [hL]; exact own5.ri, (((Below.refl _ w).alloc (Nat.le_refl _) _).trans hb4).setCell hbg _⟩
end Go.Proofs.Ytamcnobdopcjgaa
