/-
  Chapter 54: slices.Clone and slices.Delete of texts.
-/
import Derived.Test.YtnoihbbfodkejaaNet
import Derived.Deep.RegionLaw
import Derived.Lib.SliceRun
import Derived.Laws.IdiomCopy
namespace Go.Proofs.Ytnoihbbfodkejaa
open Go.RowKit Go.Maps

theorem str_info : (Try.prog.info? 9).map (fun i => (i.zero, i.size, i.bytes)) = some (some (.string ByteArray.empty), 1, 16) := by kernel_rfl
theorem strs_one (xs : List ByteArray) : ∀ u ∈ strs xs, u.oneCell' = true := by
  intro u hu
  obtain ⟨x, _, rfl⟩ := List.mem_map.1 hu
  rfl
theorem eq_nil_slice (w : World) (a : Option Addr) (n c n' c' : Nat) : (binOp .eql 22 (.slice a n c) (.slice none n' c')).run Try.prog w = .ok (.bool a.isNone) w :=
  Lib.run_eql_slice_nil w _ _ a n c n' c' Try.underlying22

theorem clone_any (A : Option Addr) (n c : Nat) (xs : List ByteArray) (w : World) (h : Reads w w.heap.size 1 A n (strs xs)) (hn : n ≤ maxLen) (hn2 : n * 16 ≤ 140737488355328) :
    Calls Try.prog 26 #[.slice A n c] w fun e w' => ∃ A' c', e = .returned (.slice A' n c') ∧ Own w' w.heap.size 9 1 A' n c' (strs xs) ∧ Below w.heap.size w w' := by
  have q22 := eq_nil_slice
  have HR := hide h
  clear h
  cases A with
  | none =>
    have h0 : n = 0 := by
      rcases Nat.eq_zero_or_pos n with h0 | h0
      · exact h0
      · obtain ⟨ad, h1, _⟩ := HR.out.2 h0
        cases h1
    subst h0
    have hx : xs = [] := List.eq_nil_of_length_eq_zero (by have := HR.out.1; simpa [strs_length] using this)
    subst hx
    go_enter Try.func26, Try.ntmps26
    go_wp2
    go_ret
    exact ⟨none, 0, rfl, Own.nil _ _ _ _, Below.refl _ _⟩
  | some ad =>
    go_enter Try.func26, Try.ntmps26
    go_wp2_with ((at_builtin; refine wpList_app rfl (.tmp 5) (.tmp 6) _ rfl w.heap.size 9 _ 1 16 Try.underlying22 str_info rfl (by omega) (some ⟨w.heap.size, 0, none⟩) 0 0 [] rfl (World.ownsRow_made w #[] 0 (Nat.le_refl _) (Nat.zero_le _) (by simp)) w.heap.size (some ad) n c (strs xs) rfl (Reads.alloc HR.out (Nat.le_refl _) _) (strs_one xs) (by omega) (by omega) (by simp) ?_; intro A2 c2 w1 hown hb hg))
    go_wp2
    go_ret
    refine ⟨A2, c2, rfl, ?_, ?_⟩
    · have := hown
      rw [Nat.zero_add] at this
      simpa using this
    · exact ((Below.refl _ _).alloc (Nat.le_refl _) _).trans hb

/-- An array with other cells from place o on. -/
def putC (cs : Array Value) : Nat → List Value → Array Value
  | _, [] => cs
  | o, v :: r => putC (cs.setIfInBounds o v) (o + 1) r
theorem putC_size : ∀ (vs : List Value) (o : Nat) (cs : Array Value), (putC cs o vs).size = cs.size
  | [], _, _ => rfl
  | v :: r, o, cs => by rw [putC, putC_size r]; simp
theorem putC_list : ∀ (vs : List Value) (o : Nat) (cs : Array Value), o + vs.length ≤ cs.size → (putC cs o vs).toList = cs.toList.take o ++ vs ++ cs.toList.drop (o + vs.length)
  | [], o, cs, _ => by simp [putC]
  | v :: r, o, cs, h => by
    simp only [List.length_cons] at h
    rw [putC, putC_list r (o + 1) _ (by simp; omega)]
    simp only [Array.toList_setIfInBounds, List.length_cons]
    have h1 : (cs.toList.set o v).take (o + 1) = cs.toList.take o ++ [v] := by
      have hl : o < cs.toList.length := by simp; omega
      rw [List.take_succ_eq_append_getElem (by simpa using hl), List.take_set_of_le (Nat.le_refl _)]
      simp
    rw [h1, List.drop_set_of_lt (by omega), show o + (r.length + 1) = o + 1 + r.length by omega]
    simp
theorem Blk.setCells {g : Nat} {t : TypeId} : ∀ (vs : List Value) (o : Nat) (w : World) (cs : Array Value), Blk w g t cs → Blk (w.setCells g o vs) g t (putC cs o vs)
  | [], _, _, _, h => h
  | v :: r, o, w, cs, h => Blk.setCells r (o + 1) _ _ (h.set_ o v)
theorem setCells_moved (g : Nat) : ∀ (vs : List Value) (o : Nat) (w : World), Moved (fun k => k = g) w (w.setCells g o vs) ∧ (w.setCells g o vs).heap.size = w.heap.size
  | [], _, w => ⟨Moved.refl _ w, rfl⟩
  | v :: r, o, w => by
    obtain ⟨h1, h2⟩ := setCells_moved g r (o + 1) (w.setCell ⟨g, o, none⟩ v)
    have h3 : Moved (fun k => k = g) w (w.setCell ⟨g, o, none⟩ v) := ⟨rfl, rfl, rfl, by simp [World.setCell], fun k _ hn => Below.heap_setCell _ _ _ _ hn⟩
    have h4 : (w.setCell ⟨g, o, none⟩ v).heap.size = w.heap.size := by simp [World.setCell]
    exact ⟨h3.trans h1 (fun _ h => .inl h), h2.trans h4⟩

set_option maxHeartbeats 4000000 in
theorem delete_any (base g n c i j : Nat) (xs : List ByteArray) (w : World) (h : Own w base 9 1 (some ⟨g, 0, none⟩) n c (strs xs)) (hi : i < j) (hj : j ≤ n) :
    Calls Try.prog 25 #[.slice (some ⟨g, 0, none⟩) n c, .int .i64 (i : Int), .int .i64 (j : Int)] w
      fun e w' => e = .returned (.slice (some ⟨g, 0, none⟩) (i + (n - j)) c) ∧ Own w' base 9 1 (some ⟨g, 0, none⟩) (i + (n - j)) c (strs (xs.take i ++ xs.drop j)) ∧ Moved (fun k => k = g) w w' := by
  have hlen : xs.length = n := by have := h.1; simpa [strs_length] using this
  obtain ⟨cur, hg, hbase, hcap, hmax, hsz, htake⟩ : ∃ cur, Blk w g 9 cur ∧ base ≤ g ∧ n ≤ c ∧ c ≤ maxLen ∧ cur.size = c ∧ cur.toList.take n = strs xs := by
    rcases h.2 with ⟨hv, h0⟩ | ⟨g', cap, cur, hv, hg, hh, h1, h2, h3, h4⟩
    · cases hv
    · injection hv with e1 _ e3
      injection e1 with e1
      injection e1 with e1 _ _
      subst e1; subst e3
      exact ⟨cur, hh, hg, h1, h2, by simpa using h3, by simpa using h4⟩
  have hmax0 := hide hmax
  unfold maxLen at hmax
  obtain ⟨i0, hi0, hz0, hz1, hz2⟩ := info_parts str_info
  obtain ⟨news, hnews⟩ : ∃ news, news = strs (xs.drop j) := ⟨_, rfl⟩
  have hnl : news.length = n - j := by rw [hnews, strs_length, List.length_drop, hlen]
  have hcell : ∀ t u, news[t]? = some u → cur[j + t]? = some u := by
    intro t u hu
    have h1 : (strs xs)[j + t]? = some u := by
      rw [hnews] at hu
      simp only [strs, List.map_drop, List.getElem?_drop] at hu ⊢
      exact hu
    rw [← htake, List.getElem?_take] at h1
    split at h1
    · simpa using h1
    · cases h1
  obtain ⟨A, hA, hsrc⟩ : ∃ A : Addr, (if c = j then some (⟨g, 0, none⟩ : Addr) else some ⟨g, j, none⟩) = some A ∧ Hid (∀ t u, news[t]? = some u → w.drew.cell? (A.add t) = some u) := by
    by_cases hc : c = j
    · refine ⟨⟨g, 0, none⟩, by simp [hc], fun t u hu => ?_⟩
      have h0 : news.length = 0 := by omega
      rw [List.length_eq_zero_iff.1 h0] at hu
      simp at hu
    · refine ⟨⟨g, j, none⟩, by simp [hc], fun t u hu => ?_⟩
      rw [add_lit]
      show w.cell? _ = _
      rw [hg.cell]
      exact hcell t u hu
  have s1 : Hid (news.length = (n - j) * 1) := by rw [Nat.mul_one]; exact hnl
  have s2 : Hid (∀ u ∈ news, u.oneCell' = true) := by rw [hnews]; exact strs_one _
  have s3 : Hid (∀ t, t < news.length → (w.drew.cell? ⟨g, 0 + i * 1 + t, none⟩).isSome = true ∧ w.drew.frozen? ⟨g, 0 + i * 1 + t, none⟩ = false) := by
    intro t ht
    refine ⟨?_, Blk.frozen hg _⟩
    show (w.cell? _).isSome = true
    rw [hg.cell]
    simp
    omega
  obtain ⟨W1, hW1⟩ : ∃ W1, W1 = w.drew.setCells g (0 + i * 1) news := ⟨_, rfl⟩
  have hg1 : Blk W1 g 9 (putC cur i news) := by
    rw [hW1, Nat.mul_one, Nat.zero_add]
    exact Blk.setCells news i w.drew cur hg.drew
  have hcl : ∀ ty, (Builtin.clear_ #[22] ty #[.slice (some ⟨g, i + (n - j), none⟩) (n - (i + (n - j))) (c - (i + (n - j)))]).run Try.prog W1 = .ok (.tuple #[]) (W1.setCells g (i + (n - j)) (List.replicate (n - (i + (n - j))) (.string ByteArray.empty))) :=
    fun ty => Lib.run_clear_slice W1 _ _ ty _ Try.underlying22 (fun w => by kernel_rfl) rfl rfl g (i + (n - j)) _ _ (by omega)
      (fun t ht => by rw [hg1.cell]; simp [putC_size, hsz]; omega) (fun t ht => Blk.frozen hg1 _)
  have X : Hid (W1 = w.drew.setCells g (0 + i * 1) news) := hW1
  have FIN : Hid (Own (W1.setCells g (i + (n - j)) (List.replicate (n - (i + (n - j))) (.string ByteArray.empty))) base 9 1 (some ⟨g, 0, none⟩) (i + (n - j)) c (strs (xs.take i ++ xs.drop j)) ∧
      Moved (fun k => k = g) w (W1.setCells g (i + (n - j)) (List.replicate (n - (i + (n - j))) (.string ByteArray.empty)))) := by
    have hb := Blk.setCells (List.replicate (n - (i + (n - j))) (.string ByteArray.empty)) (i + (n - j)) W1 _ hg1
    constructor
    · refine ⟨?_, .inr ⟨g, c, _, rfl, hbase, hb, by omega, hmax0.out, ?_, ?_⟩⟩
      · rw [strs_length, List.length_append, List.length_take, List.length_drop, hlen]; omega
      · rw [putC_size, putC_size]; omega
      · rw [Nat.mul_one, putC_list _ _ _ (by rw [putC_size]; simp; omega), List.append_assoc, List.take_left' (by rw [List.length_take, Array.length_toList, putC_size]; omega)]
        rw [putC_list _ _ _ (by omega), hnl, List.append_assoc]
        have e1 : cur.toList.take i = strs (xs.take i) := by
          have : (cur.toList.take n).take i = (strs xs).take i := by rw [htake]
          rw [List.take_take, Nat.min_eq_left (by omega)] at this
          rw [this]; simp [strs, List.map_take]
        rw [e1, hnews, ← List.append_assoc, ← strs_append, List.take_left' (by rw [strs_length, List.length_append, List.length_take, List.length_drop, hlen]; omega)]
    · rw [hW1]
      have m1 := (setCells_moved g news (0 + i * 1) w.drew).1
      have m2 := (setCells_moved g (List.replicate (n - (i + (n - j))) (.string ByteArray.empty)) (i + (n - j)) (w.drew.setCells g (0 + i * 1) news)).1
      have m0 : Moved (fun k => k = g) w w.drew := ⟨rfl, rfl, rfl, Nat.le_refl _, fun _ _ _ => rfl⟩
      exact (m0.trans m1 (fun _ h => .inl h)).trans m2 (fun _ h => .inl h)
  have hic : i ≤ c := by omega
  have hjc : j ≤ c := by omega
  have hne : ¬ i = j := by omega
  clear hW1 hg1 hg hnews hcell hnl htake hlen h hsz
  go_enter Try.func25, Try.ntmps25
  go_wp2_with fail
  go_region_law (refine step_append_room rfl (.tmp 22) (.tmp 25) 22 rfl 9 i0 1 Try.underlying22 hi0 hz1 g 0 i c (by simp [Act.eval, Act.put]) A (n - j) (c - j) news (by simp [Act.eval, Act.put]) s1.out hsrc.out s2.out (by omega) s3.out ?_; rw [← X.out])
  go_wp2
  go_ret
  exact ⟨rfl, FIN.out.1, FIN.out.2⟩
end Go.Proofs.Ytnoihbbfodkejaa
