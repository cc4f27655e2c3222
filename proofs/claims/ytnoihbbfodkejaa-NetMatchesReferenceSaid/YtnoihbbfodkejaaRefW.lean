/-
  Chapter 54: the reference's Waiting and Send.
-/
import Derived.Test.YtnoihbbfodkejaaRefM
import Derived.Test.YtnoihbbfodkejaaPair
namespace Go.Proofs.Ytnoihbbfodkejaa
open Go.RowKit Go.Maps

theorem texts_next (L : List Msg) (k : Nat) (hk : k < L.length) (a b : Int) : texts (L.take (k + 1)) a b = texts (L.take k) a b ++ if onM a b L[k] = true then [L[k].t] else [] := by
  rw [List.take_succ_eq_append_getElem hk, texts_append]
  cases h : onM a b L[k]
  · rw [texts_one_off _ _ _ h]; simp
  · rw [texts_one_on _ _ _ h]; simp
theorem texts_len (L : List Msg) (a b : Int) : (texts L a b).length ≤ L.length := by
  unfold texts
  rw [List.length_map]
  exact List.length_filter_le _ _

set_option maxHeartbeats 4000000 in
theorem ref_waiting (p n : Nat) (s : NS) (F : Nat → Prop) (a b : Int) (w : World) (h : RefAt w p n s F) (hn : n ≤ 1000000) :
    Calls Try.prog 20 #[.pointer (some ⟨p, 0, none⟩), .int .i64 a, .int .i64 b] w (RetS w (s.waiting a b)) := by
  obtain ⟨L, G, A, c, A', c', h, ha⟩ := h
  have hLn : L.length ≤ n := h.few.1
  have H := hide h
  cases hkn : knows s.N a b
  · have HW : Hid (s.waiting a b = []) := by show _ = _; unfold NS.waiting; rw [if_neg (by rw [hkn]; decide)]
    have HK := hide hkn
    have d1 := h.c1
    have d0 := h.c0
    clear hkn h
    rw [HW.out]
    by_cases h0 : 0 < L.length
    · have h0' : (0 : Int) < (L.length : Int) := by omega
      go_enter Try.func20, Try.ntmps20
      go_wp2_with fail
      go_loopw [7, 8] (fun v i wr => v = .slice none 0 0 ∧ i = .int .i64 0 ∧ wr = w) (fun _ _ _ => 0)
      case atStart => exact ⟨rfl, rfl, rfl⟩
      case round =>
        obtain ⟨rfl, rfl, rfl⟩ := hrel
        go_wp2_with fail
        refine (pair_any p s.N a b _ d0).mono ?_
        rintro e w1 ⟨rfl, rfl⟩
        rw [HK.out]
        go_wp2
        go_ret
        exact ⟨none, 0, rfl, Own.nil _ _ _ _, Below.refl _ _⟩
    · have h0' : ¬ (0 : Int) < (L.length : Int) := by omega
      go_enter Try.func20, Try.ntmps20
      go_wp2_with fail
      go_loopw [7, 8] (fun v i wr => v = .slice none 0 0 ∧ i = .int .i64 0 ∧ wr = w) (fun _ _ _ => 0)
      case atStart => exact ⟨rfl, rfl, rfl⟩
      case round =>
        obtain ⟨rfl, rfl, rfl⟩ := hrel
        go_wp2
        go_ret
        exact ⟨none, 0, rfl, Own.nil _ _ _ _, Below.refl _ _⟩
  · have HW : Hid (s.waiting a b = texts L a b) := by show _ = _; unfold NS.waiting; rw [if_pos hkn, ha.q]
    have HK := hide hkn
    clear hkn h
    rw [HW.out]
    go_enter Try.func20, Try.ntmps20
    go_wp2_with fail
    go_loopw [7, 8] (fun v i wr => ∃ (k : Nat) (A2 : Option Addr) (c2 : Nat), k ≤ L.length ∧ i = .int .i64 k ∧ v = .slice A2 (texts (L.take k) a b).length c2 ∧
        Own wr w.heap.size 9 1 A2 (texts (L.take k) a b).length c2 (strs (texts (L.take k) a b)) ∧ Below w.heap.size w wr) (fun _ i _ => L.length - (intOf i).toNat)
    case atStart => exact ⟨0, none, 0, Nat.zero_le _, rfl, rfl, Own.nil _ _ _ _, Below.refl _ _⟩
    case round =>
      obtain ⟨k, A2, c2, hk, rfl, rfl, ho, hb⟩ := hrel
      have HO := hide ho
      have HB := hide hb
      clear ho hb
      have HWr := hide (H.out.kept HB.out.size (fun j hj => HB.out.block j (H.out.lt j hj)))
      have d1 := HWr.out.c1
      have d0 := HWr.out.c0
      by_cases hlt : k < L.length
      · obtain ⟨g, rfl, hg, e0, e1, e2⟩ := HWr.out.msgAt hlt
        have NX := hide (texts_next L k hlt a b)
        have hlen : (texts (L.take k) a b).length ≤ k := Nat.le_trans (texts_len _ _ _) (List.length_take_le _ _)
        generalize hx : L[k] = m at e0 e1 e2 NX ⊢
        have HX := hide hx
        clear hx
        have ON : ∀ v, (m.a == a && m.b == b) = v → onM a b m = v := fun v h => h
        generalize hl : texts (L.take k) a b = l at HO NX hlen ⊢
        have HLL := hide hl
        clear hl
        go_wp2_with fail
        refine (pair_any p s.N a b _ d0).mono ?_
        rintro e w1 ⟨rfl, rfl⟩
        rw [HK.out]
        cases hz1 : (m.a == a)
        · have HN : Hid (texts (L.take (k + 1)) a b = l) := by show _ = _; rw [NX.out, if_neg (by rw [ON _ rfl, hz1]; simp)]; simp
          clear NX ON
          go_wp2_with fail
          go_roundw
          case rel => exact ⟨k + 1, A2, c2, by omega, by go_num, by rw [HN.out], by rw [HN.out]; exact HO.out, HB.out⟩
          case measure => simp [intOf]; omega
        · cases hz2 : (m.b == b)
          · have HN : Hid (texts (L.take (k + 1)) a b = l) := by show _ = _; rw [NX.out, if_neg (by rw [ON _ rfl, hz2]; simp)]; simp
            clear NX ON
            go_wp2_with fail
            go_roundw
            case rel => exact ⟨k + 1, A2, c2, by omega, by go_num, by rw [HN.out], by rw [HN.out]; exact HO.out, HB.out⟩
            case measure => simp [intOf]; omega
          · have HN : Hid (texts (L.take (k + 1)) a b = l ++ [m.t]) := by show _ = _; rw [NX.out, if_pos (by rw [ON _ rfl, hz1, hz2]; rfl)]
            have HO2 : Hid (Own (wr.alloc (.cells #[.string m.t] 9)) w.heap.size 9 1 A2 l.length c2 (strs l)) := Own.alloc HO.out _
            have HB2 : Hid (Below w.heap.size w (wr.alloc (.cells #[.string m.t] 9))) := HB.out.alloc HB.out.size _
            clear NX ON
            go_wp2_with (at_builtin; refine wpList_app rfl (.tmp 46) (.tmp 55) 22 rfl w.heap.size 9 (.string ByteArray.empty) 1 16 Try.underlying22 str_info rfl (by omega) A2 l.length c2 (strs l) rfl HO2.out _ _ 1 _ (strs [m.t]) rfl (RS.one wr _) (strs_one _) (by unfold maxLen; omega) (by omega) HB2.out.size ?_; intro A3 c3 w4 hown4 hb4 _; rw [← strs_append] at hown4; have HO4 := hide hown4; have HB4 := hide (HB2.out.trans hb4); clear hown4 hb4)
            go_roundw
            case rel => exact ⟨k + 1, A3, c3, by omega, by go_num, by rw [HN.out, List.length_append]; rfl, by rw [HN.out, List.length_append]; exact HO4.out, HB4.out⟩
            case measure => simp [intOf]; omega
      · have HN : Hid (texts (L.take k) a b = texts L a b) := by show _ = _; rw [List.take_of_length_le (by omega)]
        rw [HN.out] at HO ⊢
        go_wp2
        go_ret
        exact ⟨A2, c2, rfl, HO.out, HB.out⟩
end Go.Proofs.Ytnoihbbfodkejaa
