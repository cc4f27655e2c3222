/-
  NoiseMatchesReference: the walk.
-/
import Derived.Test.YtlkgoljpjeieiaaGreatDoorTotM
import Derived.Test.YtlkgoljpjeieiaaGreatDoorDigP
import Derived.Test.YtlkgoljpjeieiaaGreatDoorOwnR
import Derived.Sort.Walk0
import Derived.Test.YtlkgoljpjeieiaaGreatDoorPutP
import Derived.Test.YtlkgoljpjeieiaaGreatDoorOwnS
import Derived.Test.YtlkgoljpjeieiaaGreatDoorRatD
import Derived.Test.YtlkgoljpjeieiaaGreatDoorConP
set_option linter.unusedVariables false
set_option linter.unusedSimpArgs false
namespace Go.Proofs.YtlkgoljpjeieiaaGreatDoor
open Go.RowKit Go.Deep Go.Maps
open Go.Lib (decDigits)

theorem ns_at {n k : Nat} (h : k < (NS n).size) : (decDigits n)[k]? = some (NS n)[k] := by
  have h2 : k < (decDigits n).length := by rw [← ns_size]; exact h
  rw [List.getElem?_eq_getElem h2]
  rfl
theorem ns_byte {n k : Nat} (h : k < (NS n).size) : 48 ≤ (NS n)[k].toNat ∧ (NS n)[k].toNat ≤ 57 := dec_bytes n _ (List.mem_of_getElem? (ns_at h))
theorem ns_dig {n k : Nat} (h : k < (NS n).size) : (NS n)[(NS n).size - 1 - k].toNat = 48 + dg10 n k := by
  have h2 : k < (decDigits n).length := by rw [← ns_size]; exact h
  have h1 := dec_at n k h2
  rw [← ns_size, ns_at (by omega)] at h1
  rw [Option.some.inj h1]
  exact digit_of _ (dg10_lt n k)
theorem ns_fst {n : Nat} (h : 0 < (NS n).size) (h1 : (NS n).size ≠ 1) : (NS n)[0].toNat ≠ 48 := by
  intro h48
  obtain ⟨b, hb, hb0⟩ := ns_first n
  have : (NS n)[0]? = some (NS n)[0] := getElem?_pos (NS n) 0 h
  rw [this] at hb
  injection hb with hb
  rw [hb] at h48
  have h0 : n = 0 := hb0.resolve_right (fun h => h h48)
  subst h0
  exact h1 (by rw [ns_zero]; rfl)
set_option maxRecDepth 100000 in
theorem rv03_any (n : Nat) (hn : n < 1000000000) (w : World) : Calls Tryz.prog 45 #[.string (NS n)] w fun e w' => e = .returned (.bool true) ∧ w = w' := by
  obtain ⟨z1, z2⟩ := ns_small hn
  have hz : 0 < (NS n).size := z1
  have HF := hide (fun h => ns_fst (n := n) hz h)
  have HB := hide (fun k (h : k < (NS n).size) => ns_byte h)
  generalize NS n = s at z1 z2 hz HF HB ⊢
  by_cases h1 : s.size = 1
  · have d1 : decide ((1 : Int) < (s.size : Int)) = false := decide_eq_false (by omega)
    go_enter Tryz.func45, Tryz.ntmps45
    go_wp2
    go_loop [3] (fun i => ∃ k : Nat, k ≤ s.size ∧ i = .int .i64 k) (fun i => s.size - (intOf i).toNat)
    case atStart => exact ⟨0, Nat.zero_le _, rfl⟩
    case round =>
      obtain ⟨k, hk, rfl⟩ := hrel
      by_cases hlt : k < s.size
      · have hb := HB.out k hlt
        go_wp2
        go_round
        case rel => exact ⟨k + 1, by omega, by go_num⟩
        case measure => simp [intOf]; omega
      · obtain rfl : k = s.size := by omega
        go_wp2
        go_ret
        exact ⟨rfl, rfl⟩
  · have d1 : decide ((1 : Int) < (s.size : Int)) = true := decide_eq_true (by omega)
    have hf := HF.out h1
    have d2 : ((s[0].toNat : Int) == 48) = false := beq_eq_false_iff_ne.2 (by omega)
    go_enter Tryz.func45, Tryz.ntmps45
    go_wp2
    clear hf d2
    go_loop [3] (fun i => ∃ k : Nat, k ≤ s.size ∧ i = .int .i64 k) (fun i => s.size - (intOf i).toNat)
    case atStart => exact ⟨0, Nat.zero_le _, rfl⟩
    case round =>
      obtain ⟨k, hk, rfl⟩ := hrel
      by_cases hlt : k < s.size
      · have hb := HB.out k hlt
        go_wp2
        go_round
        case rel => exact ⟨k + 1, by omega, by go_num⟩
        case measure => simp [intOf]; omega
      · obtain rfl : k = s.size := by omega
        go_wp2
        go_ret
        exact ⟨rfl, rfl⟩
theorem within_any (s : ByteArray) (hs : s.size ≤ 1000) (w : World) : Calls Tryz.prog 46 #[.string s] w fun e w' => e = .returned (.tuple #[.string s, .int .i64 0]) ∧ w = w' := by
  go_enter Tryz.func46, Tryz.ntmps46
  go_wp2
  go_ret2
  exact ⟨rfl, rfl⟩
theorem at03_big (n k : Nat) (hn : n < 1000000000000) (hk : k ≤ 1000) (w : World) : Calls Tryz.prog 65 #[.string (NS n), .int .i64 k] w fun e w' => e = .returned (.int .i64 (dg10 n k)) ∧ w = w' := by
  have z1 : 1 ≤ (NS n).size := by rw [ns_size]; exact (dec_size n).1
  have z2 : (NS n).size ≤ 12 := by rw [ns_size]; exact (dec_size n).2 11 (by omega)
  by_cases h : k < (NS n).size
  · obtain ⟨j, hj⟩ : ∃ j : Nat, j = (NS n).size - 1 - k := ⟨_, rfl⟩
    have hd := ns_dig h
    have hlt : j < (NS n).size := by omega
    have e1 : (NS n)[(NS n).size - 1 - k] = (NS n)[j] := by simp only [hj]
    rw [e1] at hd
    have hlt10 := dg10_lt n k
    have ej : ((NS n).size : Int) - 1 - (k : Int) = (j : Int) := by omega
    clear e1
    generalize dg10 n k = d at hd hlt10 ⊢
    generalize NS n = s at *
    clear hj
    go_enter Tryz.func65, Tryz.ntmps65
    go_wp2
    go_ret
    refine ⟨?_, rfl⟩
    show Ending.returned (.int .i64 (48 + (d : Int) - 48)) = _
    exact ret_int (by omega)
  · have h0 : dg10 n k = 0 := dg10_out (by rw [← ns_size]; omega)
    rw [h0]
    generalize NS n = s at h z1 z2 ⊢
    go_enter Tryz.func65, Tryz.ntmps65
    go_wp2
    go_ret
    exact ⟨rfl, rfl⟩
theorem at03_any (n k : Nat) (hn : n < 1000000000) (hk : k ≤ 1000) (w : World) : Calls Tryz.prog 65 #[.string (NS n), .int .i64 k] w fun e w' => e = .returned (.int .i64 (dg10 n k)) ∧ w = w' := at03_big n k (by omega) hk w
theorem extract_drop (s : ByteArray) (i : Nat) (hi : i ≤ s.size) : s.extract i s.size = ⟨(s.data.toList.drop i).toArray⟩ := by
  apply ByteArray.ext
  apply Array.ext'
  simp
  rw [List.take_of_length_le]
  rw [List.length_drop, Array.length_toList]
  exact Nat.le_refl _
theorem str_at {s : ByteArray} {k : Nat} (h : k < s.size) : s.data.toList[k]? = some s[k] := by
  have h2 : k < s.data.toList.length := by rw [Array.length_toList]; exact h
  rw [List.getElem?_eq_getElem h2]
  rfl
theorem trim03_any (s : ByteArray) (hd : Digs s.data.toList) (h0 : 0 < s.size) (hs : s.size ≤ 1000) (w : World) : Calls Tryz.prog 104 #[.string s] w fun e w' => e = .returned (.string (NS (valF 0 s.data.toList))) ∧ w = w' := by
  have HD := hide hd
  clear hd
  go_enter Tryz.func104, Tryz.ntmps104
  go_wp2
  go_loop [3] (fun i => ∃ k : Nat, k < s.size ∧ i = .int .i64 k ∧ ∀ j, j < k → s.data.toList[j]? = some 48) (fun i => s.size - (intOf i).toNat)
  case atStart => exact ⟨0, h0, rfl, fun j hj => absurd hj (by omega)⟩
  case round =>
    obtain ⟨k, hk, rfl, hall⟩ := hrel
    have HA := hide hall
    clear hall
    have hat := str_at hk
    have HAT := hide hat
    have HEX := hide (extract_drop s k (Nat.le_of_lt hk))
    have hlen : s.data.toList.length = s.size := by rw [Array.length_toList]; rfl
    by_cases hend : k + 1 = s.size
    · have HF : Hid (s.data.toList.drop k = decDigits (valF 0 s.data.toList)) := hide (trim_num HD.out (by omega) HA.out (.inl (by omega)))
      have d1 : decide ((k : Int) + 1 < (s.size : Int)) = false := decide_eq_false (by omega)
      clear hat hlen
      go_wp2
      go_ret
      exact ⟨by rw [HEX.out, HF.out]; rfl, rfl⟩
    · have d1 : decide ((k : Int) + 1 < (s.size : Int)) = true := decide_eq_true (by omega)
      by_cases h48 : s[k].toNat = 48
      · have HN : Hid (∀ j, j < k + 1 → s.data.toList[j]? = some 48) := hide (fun j hj => by
          by_cases hj2 : j < k
          · exact HA.out j hj2
          · obtain rfl : j = k := by omega
            rw [HAT.out, show s[j] = 48 from UInt8.toNat_inj.1 h48])
        have d2 : ((s[k].toNat : Int) == 48) = true := beq_iff_eq.2 (by omega)
        clear hat hlen
        go_wp2
        go_round
        case rel => exact ⟨k + 1, by omega, by go_num, HN.out⟩
        case measure => simp [intOf]; omega
      · have HF : Hid (s.data.toList.drop k = decDigits (valF 0 s.data.toList)) := hide (trim_num HD.out (by omega) HA.out (.inr fun b hb => by
          rw [HAT.out] at hb
          injection hb with hb
          subst hb
          intro e
          rw [e] at h48
          exact h48 rfl))
        have d2 : ((s[k].toNat : Int) == 48) = false := beq_eq_false_iff_ne.2 (by omega)
        clear hat hlen
        go_wp2
        go_ret
        exact ⟨by rw [HEX.out, HF.out]; rfl, rfl⟩
end Go.Proofs.YtlkgoljpjeieiaaGreatDoor

set_option linter.unusedVariables false
set_option linter.unusedSimpArgs false
namespace Go.Proofs.YtlkgoljpjeieiaaGreatDoor
open Go.RowKit Go.Deep Go.Maps
open Go.Lib (decDigits)

theorem add_spot {w : World} {b o : Nat} {sp : _} {v : Value} (h : w.cell? ((⟨b, o, sp⟩ : Addr).add 0) = some v) : sp = none := by
  simpa [Addr.add] using World.cell?_spot h
/-- The digits that add makes, the least one first. -/
def digV (n m : Nat) : List Value := (List.range m).map fun k => .int .u8 (dg10 n k : Int)
theorem digV_len (n m : Nat) : (digV n m).length = m := by simp [digV]
theorem digV_get {n m k : Nat} (h : k < m) : (digV n m)[k]? = some (.int .u8 (dg10 n k : Int)) := by
  unfold digV
  rw [List.getElem?_map, List.getElem?_range h]
  rfl
theorem digV_succ (n m : Nat) : digV n (m + 1) = digV n m ++ [.int .u8 (dg10 n m : Int)] := by simp [digV, List.range_succ]
/-- What text has written behind k digits. -/
def outV (n m k : Nat) : Array Value := ((List.range m).map fun p => if m - 1 - p < k then .int .u8 ((dg10 n (m - 1 - p) : Int) + 48) else .int .u8 0).toArray
theorem outV_size (n m k : Nat) : (outV n m k).size = m := by simp [outV]
theorem outV_get {n m k p : Nat} (h : p < m) : (outV n m k)[p]? = some (if m - 1 - p < k then .int .u8 ((dg10 n (m - 1 - p) : Int) + 48) else .int .u8 0) := by
  unfold outV
  rw [List.getElem?_toArray, List.getElem?_map, List.getElem?_range h]
  rfl
theorem outV_zero (n m : Nat) : outV n m 0 = Array.replicate m (.int .u8 0) := by
  unfold outV
  apply Array.ext'
  simp [List.map_const']
theorem outV_set {n m k : Nat} (h : k < m) : (outV n m k).setIfInBounds (m - 1 - k) (.int .u8 ((dg10 n k : Int) + 48)) = outV n m (k + 1) := by
  apply Array.ext
  · rw [Array.size_setIfInBounds, outV_size, outV_size]
  · intro p h1 h2
    rw [outV_size] at h2
    apply Option.some.inj
    rw [← Array.getElem?_eq_getElem, ← Array.getElem?_eq_getElem, outV_get h2, Array.getElem?_setIfInBounds, outV_size]
    by_cases e : m - 1 - k = p
    · rw [if_pos e, if_pos (by omega)]
      have : m - 1 - p = k := by omega
      rw [this, if_pos (Nat.lt_succ_self k)]
    · rw [if_neg e, outV_get h2]
      by_cases e2 : m - 1 - p < k
      · rw [if_pos e2, if_pos (by omega)]
      · rw [if_neg e2, if_neg (by omega)]
/-- The bytes at the end. -/
theorem outV_bytes {n m p : Nat} (h : p < (txt10 n m).length) : (outV n m m)[p]? = some (.int .u8 ((txt10 n m)[p].toNat : Int)) := by
  have hl := txt10_len n m
  have hp : p < m := by omega
  rw [outV_get hp, if_pos (by omega)]
  have hg : (txt10 n m)[p] = UInt8.ofNat (dg10 n (m - 1 - p)) + 48 := by
    unfold txt10 dl10
    simp
  rw [hg, txt_byte _ (dg10_lt _ _), Int.natCast_add, Int.add_comm]
  rfl
set_option maxHeartbeats 1000000 in
set_option maxRecDepth 100000 in
theorem text03_any (A : Option Addr) (c n m : Nat) (w : World) (h : Reads w w.heap.size 1 A m (digV n m)) (hm0 : 0 < m) (hm : m ≤ 50) (hn : n < 10 ^ m) :
    Calls Tryz.prog 66 #[.slice A m c] w fun en w' => en = .returned (.string (NS n)) ∧ Below w.heap.size w w' := by
  have H := hide h
  have hmk := fun (w : World) => make_run (P := Tryz.prog) 94 5 (.int .u8 0) 1 Tryz.underlying94 bui_byte rfl m (by omega) (by omega) w
  have HNM := hide hn
  clear h hn
  have HB0 : Hid (Below w.heap.size w (w.alloc (Obj.cells (Array.replicate m (.int .u8 0)) 5))) := hide ((Below.refl _ _).alloc (Nat.le_refl _) _)
  have HK0 : Hid (Blk (w.alloc (Obj.cells (Array.replicate m (.int .u8 0)) 5)) w.heap.size 5 (outV n m 0)) := hide (by rw [outV_zero]; exact Blk.new _ _ _)
  go_enter Tryz.func66, Tryz.ntmps66
  go_upto_region 2 with (fail)
  generalize w.alloc (Obj.cells (Array.replicate m (.int .u8 0)) 5) = w1 at HB0 HK0 ⊢
  obtain ⟨g, hgq⟩ : ∃ g, g = w.heap.size := ⟨_, rfl⟩
  have HQ := hide hgq
  rw [← hgq] at HK0 ⊢
  clear hgq hmk
  go_wp2
  go_loopw [4] (fun t4 wr => ∃ k : Nat, k ≤ m ∧ t4 = .int .i64 k ∧ Blk wr g 5 (outV n m k) ∧ Below w.heap.size w wr) (fun t4 _ => m - (intOf t4).toNat)
  case atStart => exact ⟨0, Nat.zero_le _, rfl, HK0.out, HB0.out⟩
  case round =>
    obtain ⟨k, hk, rfl, hkb, hb⟩ := hrel
    have HK := hide hkb
    have HB := hide hb
    clear hkb hb HK0 HB0
    by_cases hkm : k < m
    · obtain ⟨ad, rfl, hlt, hcell⟩ := H.out.2 hm0
      have x0 : wr.cell? (ad.add k) = some (.int .u8 (dg10 n k : Int)) := (HB.out.cell (p := ad.add k) (by rw [block_of_add]; exact hlt)).trans (hcell k _ (digV_get hkm))
      obtain ⟨b, o, spot⟩ := ad
      have hsp : spot = none := add_spot (hcell 0 _ (digV_get hm0))
      subst hsp
      rw [add_lit] at x0
      obtain ⟨j, hj⟩ : ∃ j : Nat, j = m - 1 - k := ⟨_, rfl⟩
      have ej : (m : Int) - 1 - (k : Int) = (j : Int) := by omega
      have hjm : j < m := by omega
      have hd10 := dg10_lt n k
      have HN := hide (HK.out.set_ j (.int .u8 ((dg10 n k : Int) + 48)))
      have HS : Hid ((outV n m k).setIfInBounds j (.int .u8 ((dg10 n k : Int) + 48)) = outV n m (k + 1)) := hide (by rw [hj]; exact outV_set hkm)
      rw [HS.out] at HN
      have HBN := hide (HB.out.setCell (p := ⟨g, j, none⟩) (by rw [HQ.out]; exact Nat.le_refl _) (.int .u8 ((dg10 n k : Int) + 48)))
      have y0 : wr.cell? ⟨g, j, none⟩ = some (if m - 1 - j < k then .int .u8 ((dg10 n (m - 1 - j) : Int) + 48) else .int .u8 0) := by rw [HK.out.cell j, outV_get hjm]
      have f0 := HK.out.frozen j
      rw [if_neg (by omega)] at y0
      generalize dg10 n k = d at x0 hd10 HN HBN HS
      clear hj HK HB HS
      go_wp2
      go_roundw
      case rel => exact ⟨k + 1, by omega, by go_num, HN.out, HBN.out⟩
      case measure => simp [intOf] <;> omega
    · obtain rfl : k = m := by omega
      have HL : Hid ((txt10 n k).length = k) := hide (txt10_len n k)
      have hcv : (convert 94 9 (.slice (some ⟨g, 0, none⟩) k k)).run Tryz.prog wr = .ok (.string ⟨(txt10 n k).toArray⟩) wr := by
        have h := run_convert_bytes_back (P := Tryz.prog) wr 94 9 5 ⟨g, 0, none⟩ k (txt10 n k) Tryz.underlying94 Tryz.underlying5 Tryz.underlying9 (fun j hj => by
          rw [add_lit, Nat.zero_add, HK.out.cell j]
          exact outV_bytes hj)
        rw [HL.out] at h
        exact h
      have hsz : (⟨(txt10 n k).toArray⟩ : ByteArray).size = k := by
        show (txt10 n k).toArray.size = k
        rw [List.size_toArray, HL.out]
      have hlist : (⟨(txt10 n k).toArray⟩ : ByteArray).data.toList = txt10 n k := by simp
      have HT := hide (trim03_any ⟨(txt10 n k).toArray⟩ (by rw [hlist]; exact txt10_digs n k) (by rw [hsz]; exact hm0) (by rw [hsz]; omega) wr)
      rw [hlist, txt10_num HNM.out] at HT
      clear HK HL hsz hlist HNM H
      go_wp2_with fail
      refine HT.out.mono ?_
      rintro en w5 ⟨rfl, rfl⟩
      go_wp2
      go_ret
      exact ⟨rfl, HB.out⟩
/-- What is carried over at the end. -/
theorem carry10_end {a b i : Nat} (ha : a < 1000000000) (hb : b < 1000000000) (hi : 10 ≤ i) : carry10 a b i = 0 := by
  have h10 : (10000000000 : Nat) ≤ 10 ^ i := Nat.le_trans (by decide) (Nat.pow_le_pow_right (by omega) hi)
  unfold carry10
  rw [Nat.mod_eq_of_lt (by omega), Nat.mod_eq_of_lt (by omega)]
  exact Nat.div_eq_of_lt (by omega)
set_option maxHeartbeats 1000000 in
set_option maxRecDepth 100000 in
theorem add03_any (a b : Nat) (w : World) (ha : a < 1000000000) (hb : b < 1000000000) :
    Calls Tryz.prog 47 #[.string (NS a), .string (NS b)] w fun en w' => en = .returned (.string (NS (a + b))) ∧ Below w.heap.size w w' := by
  obtain ⟨a1, a2⟩ := ns_small ha
  obtain ⟨b1, b2⟩ := ns_small hb
  have HA := hide (fun i (hi : i ≤ 1000) (W : World) => at03_any a i ha hi W)
  have HB := hide (fun i (hi : i ≤ 1000) (W : World) => at03_any b i hb hi W)
  have SA := hide (ns_size a)
  have SB := hide (ns_size b)
  generalize NS a = sa at a1 a2 HA SA ⊢
  generalize NS b = sb at b1 b2 HB SB ⊢
  go_enter Tryz.func47, Tryz.ntmps47
  go_wp2
  go_loopw [5, 6, 7] (fun t5 t6 t7 wr => ∃ (i : Nat) (A5 : Option Addr) (c5 : Nat), i ≤ 10 ∧ t7 = .int .i64 i ∧ t6 = .int .i64 (carry10 a b i : Nat) ∧ t5 = .slice A5 i c5 ∧ Own wr w.heap.size 5 1 A5 i c5 (digV (a + b) i) ∧ Below w.heap.size w wr) (fun _ _ t7 _ => 10 - (intOf t7).toNat)
  case atStart => exact ⟨0, none, 0, Nat.zero_le _, rfl, by rw [carry10_zero]; rfl, rfl, Own.nil _ _ _ _, Below.refl _ _⟩
  case round =>
    obtain ⟨i, A5, c5, hi, rfl, rfl, rfl, hown, hbel⟩ := hrel
    have HO := hide hown
    have HBL := hide hbel
    clear hown hbel
    have hc1 := carry10_le a b i
    have hsz := HBL.out.size
    by_cases hgo : i < sa.size ∨ i < sb.size ∨ 0 < carry10 a b i
    · have hi10 : i < 10 := by
        rcases Nat.lt_or_ge i 10 with h | h
        · exact h
        · have := carry10_end ha hb h
          omega
      have HST := hide (add_step a b i)
      have hc2 := carry10_le a b (i + 1)
      have d1 := dg10_lt a i
      have d2 := dg10_lt b i
      have d3 := dg10_lt (a + b) i
      have HAI := hide (fun W => HA.out i (by omega) W)
      have HBI := hide (fun W => HB.out i (by omega) W)
      have HDS := hide (digV_succ (a + b) i)
      generalize carry10 a b i = cr at hc1 hgo HST ⊢
      obtain ⟨cn, hcn⟩ : ∃ cn, cn = carry10 a b (i + 1) := ⟨_, rfl⟩
      have HCN := hide hcn
      rw [← hcn] at hc2 HST
      clear hcn
      generalize dg10 a i = x at d1 HAI HST
      generalize dg10 b i = y at d2 HBI HST
      generalize dg10 (a + b) i = e at d3 HST HDS
      have hst := HST.out
      have m1 : ((x : Int) + (y : Int) + (cr : Int)).tmod 10 = (e : Int) := by rw [Int.tmod_eq_emod_of_nonneg (by omega)]; omega
      have m2 : ((x : Int) + (y : Int) + (cr : Int)).tdiv 10 = (cn : Int) := by rw [Int.tdiv_eq_ediv_of_nonneg (by omega)]; omega
      have m3 : ((x : Int) + (y : Int) + (cr : Int)) % 10 = (e : Int) := by omega
      have m4 : ((x : Int) + (y : Int) + (cr : Int)) / 10 = (cn : Int) := by omega
      have HB0 := hide (HBL.out.alloc hsz (Obj.cells #[.int .u8 (e : Int)] 5))
      have HQ : Hid (w.heap.size ≤ (wr.alloc (Obj.cells #[.int .u8 (e : Int)] 5)).heap.size) := hide HB0.out.size
      have RR : Hid (Reads (wr.alloc (Obj.cells #[.int .u8 (e : Int)] 5)) (wr.heap.size + 1) 1 (some ⟨wr.heap.size, 0, none⟩) 1 [.int .u8 (e : Int)]) := hide (reads_new wr #[.int .u8 (e : Int)] 5 1 1 rfl)
      have HOA := hide (HO.out.alloc (Obj.cells #[.int .u8 (e : Int)] 5))
      clear hst HO HBL SA SB HA HB
      by_cases h1 : i < sa.size
      case' neg =>
        by_cases h2 : i < sb.size
        case' neg => have h3 : 0 < cr := hgo.resolve_left h1 |>.resolve_left h2
      all_goals
        clear hgo
        go_wp2_with (first
          | (go_at_call 65; refine (HAI.out _).mono ?_; rintro en w6 ⟨rfl, rfl⟩; clear HAI)
          | (go_at_call 65; refine (HBI.out _).mono ?_; rintro en w6 ⟨rfl, rfl⟩; clear HBI)
          | (at_builtin; refine wpList_app rfl (.tmp 34) (.tmp 38) 94 rfl w.heap.size 5 (.int .u8 0) 1 1 Tryz.underlying94 bui_byte rfl (by omega) A5 i c5 _ rfl HOA.out _ _ 1 _ _ rfl RR.out (by simp [Value.oneCell']) (by unfold maxLen; omega) (by omega) HQ.out ?_; intro A7 c7 w7 hown7 hbw7 _; rw [← HDS.out] at hown7; have HO7 := hide hown7; have HB7 := hide (HB0.out.trans hbw7); clear hown7 hbw7))
        go_roundw
        case rel => exact ⟨i + 1, A7, c7, by omega, by go_num, by rw [← HCN.out], rfl, HO7.out, HB7.out⟩
        case measure => simp [intOf] <;> omega
    · have hi1 : sa.size ≤ i := by omega
      have hi2 : sb.size ≤ i := by omega
      have hc0 : carry10 a b i = 0 := by omega
      have HLT := hide (add_done (a := a) (b := b) (i := i) (by rw [← SA.out]; exact hi1) (by rw [← SB.out]; exact hi2) hc0)
      rw [hc0]
      have HR := hide (HO.out.reads)
      have HT := hide (text03_any A5 c5 (a + b) i wr HR.out (by omega) (by omega) HLT.out)
      have d1 : decide ((i : Int) < (sa.size : Int)) = false := decide_eq_false (by omega)
      have d2 : decide ((i : Int) < (sb.size : Int)) = false := decide_eq_false (by omega)
      clear hgo hc0 HLT HR HO HA HB SA SB hc1
      go_wp2_with fail
      refine HT.out.mono ?_
      rintro en w5 ⟨rfl, hb5⟩
      have HB5 := hide (HBL.out.trans (hb5.mono HBL.out.size))
      clear hb5
      go_wp2
      go_ret
      exact ⟨rfl, HB5.out⟩
set_option maxRecDepth 100000 in
theorem radd03_any (a b : Nat) (w : World) (ha : a < 500000000) (hb : b < 500000000) :
    Calls Tryz.prog 28 #[.string (NS a), .string (NS b)] w fun en w' => en = .returned (.tuple #[.string (NS (a + b)), .int .i64 0]) ∧ Below w.heap.size w w' := by
  have HA := hide (add03_any a b w (by omega) (by omega))
  have HSZ := (ns_small (n := a + b) (by omega)).2
  have HW := hide (fun W => within_any (NS (a + b)) (by omega) W)
  go_enter Tryz.func28, Tryz.ntmps28
  go_wp2_with fail
  refine (rv03_any a (by omega) w).mono ?_
  rintro en w1 ⟨rfl, rfl⟩
  go_wp2_with fail
  refine (rv03_any b (by omega) w).mono ?_
  rintro en w1 ⟨rfl, rfl⟩
  go_wp2_with fail
  refine HA.out.mono ?_
  rintro en w1 ⟨rfl, hb1⟩
  have HB1 := hide hb1
  clear hb1
  go_wp2_with fail
  refine (HW.out w1).mono ?_
  rintro en w2 ⟨rfl, rfl⟩
  go_wp2
  go_ret2
  exact ⟨rfl, HB1.out⟩
end Go.Proofs.YtlkgoljpjeieiaaGreatDoor

set_option linter.unusedVariables false
set_option linter.unusedSimpArgs false
namespace Go.Proofs.YtlkgoljpjeieiaaGreatDoor
open Go.RowKit Go.Deep Go.Maps
open Go.Lib (decDigits)

set_option maxRecDepth 100000 in
theorem less03_any (a b : Nat) (w : World) (ha : a < 1000000000000) (hb : b < 1000000000000) :
    Calls Tryz.prog 130 #[.string (NS a), .string (NS b)] w fun en w' => en = .returned (.bool (decide (a < b))) ∧ w = w' := by
  have hl := less_num a b
  have HL := hide hl
  have sa : (NS a).size ≤ 12 := by rw [ns_size]; exact (dec_size a).2 11 (by omega)
  have sb : (NS b).size ≤ 12 := by rw [ns_size]; exact (dec_size b).2 11 (by omega)
  have SA := ns_size a
  have SB := ns_size b
  have LA := ns_bytes a
  have LB := ns_bytes b
  have hdec : (decDigits a < decDigits b) = ((NS a).toList < (NS b).toList) := by rw [LA, LB]
  clear hl
  by_cases h : (NS a).size = (NS b).size
  · have HR : Hid (decide (a < b) = decide ((NS a).toList < (NS b).toList)) := hide (by
      apply decide_eq_decide.2
      rw [← HL.out, ← hdec]
      constructor
      · rintro (h2 | h2)
        · omega
        · exact h2.2
      · intro h2
        exact .inr ⟨by omega, h2⟩)
    rw [HR.out]
    generalize NS a = x at *
    generalize NS b = y at *
    have d1 : ((x.size : Int) != (y.size : Int)) = false := by rw [h]; simp
    clear HR HL hdec LA LB SA SB
    go_enter Tryz.func130, Tryz.ntmps130
    go_wp2
    go_ret
    exact ⟨by rw [← bytesLess_eq]; rfl, rfl⟩
  · have HR : Hid (decide (a < b) = decide ((NS a).size < (NS b).size)) := hide (by
      apply decide_eq_decide.2
      rw [← HL.out]
      constructor
      · rintro (h2 | h2)
        · omega
        · exact absurd h2.1 (by omega)
      · intro h2
        exact .inl (by omega))
    rw [HR.out]
    generalize NS a = x at *
    generalize NS b = y at *
    have d1 : ((x.size : Int) != (y.size : Int)) = true := bne_iff_ne.2 (by omega)
    have e1 : decide ((x.size : Int) < (y.size : Int)) = decide (x.size < y.size) := decide_eq_decide.2 (by omega)
    clear HR HL hdec LA LB SA SB
    go_enter Tryz.func130, Tryz.ntmps130
    go_wp2
    go_ret
    exact ⟨rfl, rfl⟩
set_option maxHeartbeats 1000000 in
set_option maxRecDepth 100000 in
theorem sub03_any (a b : Nat) (w : World) (ha : a < 1000000000000) (hba : b ≤ a) :
    Calls Tryz.prog 131 #[.string (NS a), .string (NS b)] w fun en w' => en = .returned (.string (NS (a - b))) ∧ Below w.heap.size w w' := by
  have sa1 : 1 ≤ (NS a).size := by rw [ns_size]; exact (dec_size a).1
  have sa2 : (NS a).size ≤ 12 := by rw [ns_size]; exact (dec_size a).2 11 (by omega)
  have HA := hide (fun i (hi : i ≤ 1000) (W : World) => at03_big a i ha hi W)
  have HB := hide (fun i (hi : i ≤ 1000) (W : World) => at03_big b i (by omega) hi W)
  have SA := hide (ns_size a)
  generalize NS a = sa at sa1 sa2 HA SA ⊢
  generalize NS b = sb at HB ⊢
  go_enter Tryz.func131, Tryz.ntmps131
  go_wp2
  go_loopw [5, 6, 7] (fun t5 t6 t7 wr => ∃ (i : Nat) (A5 : Option Addr) (c5 : Nat), i ≤ sa.size ∧ t7 = .int .i64 i ∧ t6 = .int .i64 (borrow10 a b i : Nat) ∧ t5 = .slice A5 i c5 ∧ Own wr w.heap.size 5 1 A5 i c5 (digV (a - b) i) ∧ Below w.heap.size w wr) (fun _ _ t7 _ => sa.size - (intOf t7).toNat)
  case atStart => exact ⟨0, none, 0, Nat.zero_le _, rfl, by simp [borrow10, Nat.mod_one], rfl, Own.nil _ _ _ _, Below.refl _ _⟩
  case round =>
    obtain ⟨i, A5, c5, hi, rfl, rfl, rfl, hown, hbel⟩ := hrel
    have HO := hide hown
    have HBL := hide hbel
    clear hown hbel
    have hsz := HBL.out.size
    by_cases hgo : i < sa.size
    · have HST := hide (sub_step hba i)
      have hc1 : borrow10 a b i ≤ 1 := by unfold borrow10; split <;> omega
      have hc2 : borrow10 a b (i + 1) ≤ 1 := by unfold borrow10; split <;> omega
      have d1 := dg10_lt a i
      have d2 := dg10_lt b i
      have d3 := dg10_lt (a - b) i
      have HAI := hide (fun W => HA.out i (by omega) W)
      have HBI := hide (fun W => HB.out i (by omega) W)
      have HDS := hide (digV_succ (a - b) i)
      obtain ⟨cn, hcn⟩ : ∃ cn, cn = borrow10 a b (i + 1) := ⟨_, rfl⟩
      have HCN := hide hcn
      rw [← hcn] at hc2 HST
      clear hcn
      generalize borrow10 a b i = cr at hc1 HST ⊢
      generalize dg10 a i = x at d1 HAI HST
      generalize dg10 b i = y at d2 HBI HST
      generalize dg10 (a - b) i = e at d3 HST HDS
      have hst := HST.out
      have m1 : ((x : Int) - (y : Int) - (cr : Int) + 10).tmod 10 = (e : Int) := by rw [Int.tmod_eq_emod_of_nonneg (by omega)]; omega
      have m2 : ((x : Int) - (y : Int) - (cr : Int) + 10).tdiv 10 = 1 - (cn : Int) := by rw [Int.tdiv_eq_ediv_of_nonneg (by omega)]; omega
      have m3 : ((x : Int) - (y : Int) - (cr : Int) + 10) % 10 = (e : Int) := by omega
      have m4 : ((x : Int) - (y : Int) - (cr : Int) + 10) / 10 = 1 - (cn : Int) := by omega
      have HB0 := hide (HBL.out.alloc hsz (Obj.cells #[.int .u8 (e : Int)] 5))
      have HQ : Hid (w.heap.size ≤ (wr.alloc (Obj.cells #[.int .u8 (e : Int)] 5)).heap.size) := hide HB0.out.size
      have RR : Hid (Reads (wr.alloc (Obj.cells #[.int .u8 (e : Int)] 5)) (wr.heap.size + 1) 1 (some ⟨wr.heap.size, 0, none⟩) 1 [.int .u8 (e : Int)]) := hide (reads_new wr #[.int .u8 (e : Int)] 5 1 1 rfl)
      have HOA := hide (HO.out.alloc (Obj.cells #[.int .u8 (e : Int)] 5))
      clear hst HO HBL SA HA HB
      go_wp2_with (first
        | (go_at_call 65; refine (HAI.out _).mono ?_; rintro en w6 ⟨rfl, rfl⟩; clear HAI)
        | (go_at_call 65; refine (HBI.out _).mono ?_; rintro en w6 ⟨rfl, rfl⟩; clear HBI)
        | (at_builtin; refine wpList_app rfl (.tmp 25) (.tmp 29) 94 rfl w.heap.size 5 (.int .u8 0) 1 1 Tryz.underlying94 bui_byte rfl (by omega) A5 i c5 _ rfl HOA.out _ _ 1 _ _ rfl RR.out (by simp [Value.oneCell']) (by unfold maxLen; omega) (by omega) HQ.out ?_; intro A7 c7 w7 hown7 hbw7 _; rw [← HDS.out] at hown7; have HO7 := hide hown7; have HB7 := hide (HB0.out.trans hbw7); clear hown7 hbw7))
      go_roundw
      case rel => exact ⟨i + 1, A7, c7, by omega, by go_num, by rw [← HCN.out]; go_num, rfl, HO7.out, HB7.out⟩
      case measure => simp [intOf] <;> omega
    · obtain rfl : i = sa.size := by omega
      have hlt : a - b < 10 ^ sa.size := Nat.lt_of_le_of_lt (Nat.sub_le _ _) (by rw [SA.out]; exact dec_len_lt a)
      have HT := hide (text03_any A5 c5 (a - b) sa.size wr HO.out.reads (by omega) (by omega) hlt)
      clear hlt HO HA HB SA hgo
      go_wp2_with fail
      refine HT.out.mono ?_
      rintro en w5 ⟨rfl, hb5⟩
      have HB5 := hide (HBL.out.trans (hb5.mono HBL.out.size))
      clear hb5
      go_wp2
      go_ret
      exact ⟨rfl, HB5.out⟩
end Go.Proofs.YtlkgoljpjeieiaaGreatDoor

set_option linter.unusedVariables false
set_option linter.unusedSimpArgs false
namespace Go.Proofs.YtlkgoljpjeieiaaGreatDoor
open Go.RowKit Go.Deep Go.Maps
open Go.Lib (decDigits)

theorem cat_list (x y : ByteArray) : (x ++ y).data.toList = x.data.toList ++ y.data.toList := by simp
theorem ext_one (s : ByteArray) (i : Nat) (h : i < s.size) : (s.extract i (i + 1)).data.toList = [s[i]] := by
  have h2 : i < s.data.toList.length := by rw [Array.length_toList]; exact h
  simp
  rw [List.drop_eq_getElem_cons h2]
  rfl
/-- The number that the first digits spell. -/
def pre10 (a i : Nat) : Nat := valF 0 ((decDigits a).take i)
theorem pre10_zero (a : Nat) : pre10 a 0 = 0 := rfl
theorem pre10_all (a : Nat) : pre10 a (NS a).size = a := by
  unfold pre10
  rw [ns_size, List.take_length]
  exact dec_val a
theorem pre10_succ {a i : Nat} (h : i < (NS a).size) : pre10 a (i + 1) = pre10 a i * 10 + ((NS a)[i].toNat - 48) := by
  unfold pre10
  rw [List.take_add_one, ns_at h]
  exact valF_snoc _ _ _
theorem digs_append {x y : List UInt8} (h : Digs x) (h2 : Digs y) : Digs (x ++ y) := fun c hc => (List.mem_append.1 hc).elim (h c) (h2 c)
theorem digs10_ext {n : Nat} (h : n < 10) : (digs10.extract n (n + 1)).data.toList = [UInt8.ofNat (48 + n)] := by
  have : ∀ n : Nat, n < 10 → (digs10.extract n (n + 1)).data.toList = [UInt8.ofNat (48 + n)] := by decide
  exact this n h
set_option maxHeartbeats 2000000 in
set_option maxRecDepth 100000 in
theorem div03_any (a b : Nat) (w : World) (ha : a < 1000000000) (hb : b < 1000000000) (hb0 : b ≠ 0) :
    Calls Tryz.prog 105 #[.string (NS a), .string (NS b)] w fun en w' => en = .returned (.tuple #[.string (NS (a / b)), .string (NS (a % b))]) ∧ Below w.heap.size w w' := by
  obtain ⟨sa1, sa2⟩ := ns_small ha
  have PS := hide (fun i (h : i < (NS a).size) => pre10_succ h)
  have PA := hide (pre10_all a)
  have BY := hide (fun i (h : i < (NS a).size) => ns_byte h)
  have LE := hide (fun (x : Nat) (W : World) (hx : x < 1000000000000) => less03_any x b W hx (by omega))
  have SU := hide (fun (x : Nat) (W : World) (hx : x < 1000000000000) (h : b ≤ x) => sub03_any x b W hx h)
  generalize hsa : NS a = sa at sa1 sa2 PS PA BY ⊢
  clear hsa
  go_enter Tryz.func105, Tryz.ntmps105
  go_wp2
  go_loopw [6, 7, 8] (fun t6 t7 t8 wr => ∃ (i : Nat) (q : ByteArray), i ≤ sa.size ∧ t8 = .int .i64 i ∧ t7 = .string (NS (pre10 a i % b)) ∧ t6 = .string q ∧ Digs q.data.toList ∧ q.data.toList.length = i ∧ valF 0 q.data.toList = pre10 a i / b ∧ Below w.heap.size w wr) (fun _ _ t8 _ => sa.size - (intOf t8).toNat)
  case atStart => exact ⟨0, ByteArray.empty, Nat.zero_le _, rfl, by rw [pre10_zero, Nat.zero_mod, ns_zero], rfl, fun c hc => by simp at hc, rfl, by rw [pre10_zero, Nat.zero_div]; rfl, Below.refl _ _⟩
  case round =>
    obtain ⟨i, q, hi, rfl, rfl, rfl, hdq, hlq, hvq, hbel⟩ := hrel
    have HDQ := hide hdq
    have HLQ := hide hlq
    have HVQ := hide hvq
    have HBL := hide hbel
    have hqs : q.size = i := by rw [← hlq, Array.length_toList]; rfl
    clear hdq hlq hvq hbel
    by_cases hgo : i < sa.size
    · have hby := BY.out i hgo
      have hps := PS.out i hgo
      have hr : pre10 a i % b < b := Nat.mod_lt _ (by omega)
      obtain ⟨d, hd⟩ : ∃ d, d = sa[i].toNat - 48 := ⟨_, rfl⟩
      have hd10 : d < 10 := by omega
      rw [← hd] at hps
      have hstep := div10_step (b := b) (by omega) (pre10 a i) d
      rw [← hps] at hstep
      have HSTEP := hide hstep
      have hten := rest_ten (b := b) hr hd10
      generalize hrr : pre10 a i % b = r at hr HSTEP hten ⊢
      have hsr : (NS r).size ≤ 9 := (ns_small (by omega)).2
      have hsr1 : 1 ≤ (NS r).size := (ns_small (by omega)).1
      have hcat : (NS r ++ sa.extract i (i + 1)).data.toList = decDigits r ++ [sa[i]] := by rw [cat_list, ext_one sa i hgo, ns_list]
      have hsz : (NS r ++ sa.extract i (i + 1)).size = (NS r).size + 1 := by
        have := congrArg List.length hcat
        rw [Array.length_toList, List.length_append, List.length_singleton, ← ns_size] at this
        exact this
      have hext : (sa.extract i (i + 1)).size = 1 := by
        have := congrArg List.length (ext_one sa i hgo)
        rw [Array.length_toList] at this
        exact this
      have HT := hide (fun (W : World) => trim03_any (NS r ++ sa.extract i (i + 1)) (by rw [hcat]; exact digs_append (dec_digs r) (fun c hc => by rw [List.mem_singleton.1 hc]; exact hby)) (by rw [hsz]; omega) (by rw [hsz]; omega) W)
      rw [hcat, valF_snoc, dec_val, ← hd] at HT
      obtain ⟨x, hx⟩ : ∃ x, x = r * 10 + d := ⟨_, rfl⟩
      have hxb : x < 1000000000000 := by omega
      rw [← hx] at HT HSTEP hten
      have HXB : Hid (x / b < 10) := hide hten
      clear hcat hps hrr hd hx hstep hby
      go_wp2_with fail
      refine (HT.out wr).mono ?_
      rintro en w2 ⟨rfl, rfl⟩
      clear HT
      obtain ⟨wo, hwo⟩ : ∃ wo : World, wo = wr := ⟨_, rfl⟩
      subst hwo
      generalize NS r ++ sa.extract i (i + 1) = sx at hsz
      generalize sa.extract i (i + 1) = sy at hext
      generalize NS r = sr at hsr hsr1 hsz
      go_wp2
      go_loopw [7, 9] (fun t7 t9 wq => ∃ n : Nat, n * b ≤ x ∧ t9 = .int .i64 n ∧ t7 = .string (NS (x - n * b)) ∧ Below w.heap.size w wq) (fun _ t9 _ => 10 - (intOf t9).toNat)
      case atStart => exact ⟨0, by omega, rfl, by rw [Nat.zero_mul, Nat.sub_zero], HBL.out⟩
      case round =>
        clear HBL
        obtain ⟨n, hn, rfl, rfl, hbq⟩ := hrel
        have HBQ := hide hbq
        clear hbq
        have hn10 : n < 10 := by
          have h1 : n ≤ x / b := (Nat.le_div_iff_mul_le (by omega)).2 hn
          have := HXB.out
          omega
        have hy : x - n * b ≤ x := Nat.sub_le _ _
        have HL := hide (LE.out (x - n * b) wr (by omega))
        by_cases hlt : x - n * b < b
        · have HCNT := hide (div_count (b := b) (by omega) hn hlt)
          rw [decide_eq_true hlt] at HL
          have hex := digs10_ext hn10
          have hexs : ((⟨#[48, 49, 50, 51, 52, 53, 54, 55, 56, 57]⟩ : ByteArray).extract n (n + 1)).size = 1 := by
            have := congrArg List.length hex
            rw [Array.length_toList] at this
            exact this
          have HQ2 : Hid ((q ++ (⟨#[48, 49, 50, 51, 52, 53, 54, 55, 56, 57]⟩ : ByteArray).extract n (n + 1)).data.toList = q.data.toList ++ [UInt8.ofNat (48 + n)]) := hide (by rw [cat_list]; exact congrArg _ hex)
          clear hex
          go_wp2_with fail
          refine HL.out.mono ?_
          rintro en w5 ⟨rfl, rfl⟩
          have hds : (⟨#[48, 49, 50, 51, 52, 53, 54, 55, 56, 57]⟩ : ByteArray).size = 10 := rfl
          go_wp2
          go_roundw
          case rel =>
            refine ⟨i + 1, _, by omega, by go_num, ?_, rfl, ?_, ?_, ?_, HBQ.out⟩
            · rw [HCNT.out.2, HSTEP.out.2]
            · rw [HQ2.out]
              exact digs_append HDQ.out (fun c hc => by rw [List.mem_singleton.1 hc, digit_of n hn10]; omega)
            · rw [HQ2.out, List.length_append, HLQ.out]
              rfl
            · rw [HQ2.out, valF_snoc, HVQ.out, digit_of n hn10, HSTEP.out.1, ← HCNT.out.1]
              omega
          case measure => simp [intOf] <;> omega
        · rw [decide_eq_false hlt] at HL
          have HS := hide (SU.out (x - n * b) wr (by omega) (by omega))
          have HN : Hid (x - n * b - b = x - (n + 1) * b) := hide (by rw [Nat.add_mul, Nat.one_mul]; omega)
          have hnb : (n + 1) * b ≤ x := by rw [Nat.add_mul, Nat.one_mul]; omega
          clear hlt
          go_wp2_with fail
          refine HL.out.mono ?_
          rintro en w5 ⟨rfl, rfl⟩
          go_wp2_with fail
          refine HS.out.mono ?_
          rintro en w6 ⟨rfl, hb6⟩
          have HB6 := hide (HBQ.out.trans (hb6.mono HBQ.out.size))
          clear hb6
          go_wp2
          go_roundw
          case rel => exact ⟨n + 1, hnb, by go_num, by rw [HN.out], HB6.out⟩
          case measure => simp [intOf] <;> omega
    · obtain rfl : i = sa.size := by omega
      have HT := hide (trim03_any q HDQ.out (by omega) (by omega) wr)
      rw [HVQ.out, PA.out] at HT
      rw [PA.out]
      clear HDQ HLQ HVQ PS PA BY LE SU
      go_wp2_with fail
      refine HT.out.mono ?_
      rintro en w2 ⟨rfl, rfl⟩
      go_wp2
      go_ret2
      exact ⟨rfl, HBL.out⟩
end Go.Proofs.YtlkgoljpjeieiaaGreatDoor

set_option linter.unusedVariables false
set_option linter.unusedSimpArgs false
namespace Go.Proofs.YtlkgoljpjeieiaaGreatDoor
open Go.RowKit Go.Deep Go.Maps
open Go.Lib (decDigits)

/-- The number that a string value spells. -/
def snum (v : Value) : Nat := match v with
  | .string s => valF 0 s.data.toList
  | _ => 0
theorem snum_ns (n : Nat) : snum (.string (NS n)) = n := dec_val n
set_option maxRecDepth 100000 in
theorem rdiv03_any (a b : Nat) (w : World) (ha : a < 1000000000) (hb : b < 1000000000) (hb0 : b ≠ 0) (hp : Pow w) :
    Calls Tryz.prog 69 #[.string (NS a), .string (NS b)] w fun en w' => en = .returned (.tuple #[.string (NS (a / b)), .string (NS (a % b)), .int .i64 0]) ∧ Below w.heap.size w w' := by
  have e0 : ((NS b).toList == [48]) = false := by rw [ns_is0]; exact decide_eq_false hb0
  have HD := hide (div03_any a b w ha hb hb0)
  go_enter Tryz.func69, Tryz.ntmps69
  go_wp2_with fail
  refine (rv03_any a ha w).mono ?_
  rintro en w1 ⟨rfl, rfl⟩
  go_wp2_with fail
  refine (rv03_any b hb w).mono ?_
  rintro en w1 ⟨rfl, rfl⟩
  go_wp2_with fail
  refine HD.out.mono ?_
  rintro en w2 ⟨rfl, hb2⟩
  go_wp2
  refine bodyPost_ret (v := .tuple #[.string (NS (a / b)), .string (NS (a % b)), .int .i64 0]) (by simp [results, Tryz.results69, go_sem]) rfl ?_
  exact ⟨rfl, hb2⟩
set_option maxHeartbeats 1000000 in
set_option maxRecDepth 100000 in
theorem rgcd03_any (a b : Nat) (w : World) (ha : a < 1000000000) (hb : b < 1000000000) (hV : Nat.gcd a b < 1000000000) (hp : Pow w) :
    Calls Tryz.prog 68 #[.string (NS a), .string (NS b)] w (StrPost (Nat.gcd a b) w) := by
  clear hp
  go_enter Tryz.func68, Tryz.ntmps68
  go_wp2_with fail
  refine (rv03_any a ha w).mono ?_
  rintro en w1 ⟨rfl, rfl⟩
  go_wp2_with fail
  refine (rv03_any b hb w).mono ?_
  rintro en w1 ⟨rfl, rfl⟩
  go_wp2
  go_loopw [6, 7] (fun t6 t7 wr => ∃ X Y : Nat, t6 = .string (NS X) ∧ t7 = .string (NS Y) ∧ X < 1000000000 ∧ Y < 1000000000 ∧ Nat.gcd X Y = Nat.gcd a b ∧ Below w.heap.size w wr) (fun _ t7 _ => snum t7)
  case atStart => exact ⟨a, b, rfl, rfl, ha, hb, rfl, Below.refl _ _⟩
  case round =>
    obtain ⟨X, Y, rfl, rfl, hX, hY, hg, hbr⟩ := hrel
    have HG := hide hg
    have HB := hide hbr
    clear hg hbr
    by_cases h0 : Y = 0
    · subst h0
      have hr : Nat.gcd a b = X := by rw [← HG.out, Nat.gcd_zero_right]
      have HR := hide hr
      have e0 : ((NS 0).toList == [48]) = true := by rw [ns_is0]; rfl
      have e1 : (NS 0).toList = [48] := beq_iff_eq.1 e0
      clear hr hV
      go_wp2
      go_ret2
      exact ⟨by rw [HR.out]; rfl, HB.out⟩
    · have e0 : ((NS Y).toList == [48]) = false := by rw [ns_is0]; exact decide_eq_false h0
      have e1 : ¬ (NS Y).toList = [48] := beq_eq_false_iff_ne.1 e0
      have HD := hide (div03_any X Y wr hX hY h0)
      have hlt : X % Y < Y := Nat.mod_lt _ (by omega)
      have HGN : Hid (Nat.gcd Y (X % Y) = Nat.gcd a b) := hide (by rw [← HG.out, Nat.gcd_comm Y, ← Nat.gcd_rec, Nat.gcd_comm])
      clear hV
      go_wp2_with fail
      refine HD.out.mono ?_
      rintro en w2 ⟨rfl, hb2⟩
      have HB2 := hide (HB.out.trans (hb2.mono HB.out.size))
      clear hb2 HD
      go_wp2
      go_roundw
      case rel => exact ⟨Y, X % Y, rfl, rfl, hY, by omega, HGN.out, HB2.out⟩
      case measure => rw [snum_ns, snum_ns]; exact hlt
set_option maxRecDepth 100000 in
theorem zero04_any (w : World) : Calls Tryz.prog 67 #[] w fun en w' => en = .returned (.agg #[.bool false, .string ⟨#[48]⟩, .string ⟨#[49]⟩]) ∧ Below w.heap.size w w' := by
  go_enter Tryz.func67, Tryz.ntmps67
  go_wp2
  refine bodyPost_ret (results_cell_row rfl _ _ w.heap.size 31 _ (0, 0) _ rfl (heap_alloc_new _ _) Tryz.underlying31 rfl (by kernel_rfl)) rfl ?_
  exact ⟨rfl, (Below.refl _ _).alloc (Nat.le_refl _) _⟩
set_option maxHeartbeats 1000000 in
set_option maxRecDepth 100000 in
theorem lowest04_any (s a : Nat) (w : World) (hs : s < 1000000000) (ha : a < 1000000000) (ha0 : a ≠ 0) (hp : Pow w) :
    Calls Tryz.prog 48 #[.bool false, .string (NS s), .string (NS a)] w fun en w' => en = .returned (RV false (low17 s a)) ∧ Below w.heap.size w w' := by
  have HP := hide hp
  clear hp
  by_cases h0 : s = 0
  · subst h0
    have e0 : ((NS 0).toList == [48]) = true := by rw [ns_is0]; rfl
    go_enter Tryz.func48, Tryz.ntmps48
    have HB1 : Hid (Below w.heap.size w (w.alloc (Obj.cells #[.bool false, .string ⟨#[]⟩, .string ⟨#[]⟩] 31))) := hide ((Below.refl _ _).alloc (Nat.le_refl _) _)
    have HK1 := hide (Blk.new w 31 #[.bool false, .string ⟨#[]⟩, .string ⟨#[]⟩])
    have HL0 : Hid (low17 0 a = (0, 1)) := hide (by unfold low17; rw [if_pos rfl])
    go_wp2_with fail
    generalize w.alloc (Obj.cells #[.bool false, .string ⟨#[]⟩, .string ⟨#[]⟩] 31) = w1 at HB1 HK1 ⊢
    obtain ⟨g, hgq⟩ : ∃ g, g = w.heap.size := ⟨_, rfl⟩
    have HQ := hide hgq
    rw [← hgq] at HB1 HK1 ⊢
    clear hgq
    refine (zero04_any w1).mono ?_
    rintro en w2 ⟨rfl, hb2⟩
    have HB2 := hide (HB1.out.trans (hb2.mono (Nat.le_of_lt HK1.out.lt)))
    have hk4 := HK1.out.below hb2 HK1.out.lt
    have c0 : w2.cell? ⟨g, 0, none⟩ = some (.bool false) := hk4.cell 0
    have c1 : w2.cell? ⟨g, 1, none⟩ = some (.string ⟨#[]⟩) := hk4.cell 1
    have c2 : w2.cell? ⟨g, 2, none⟩ = some (.string ⟨#[]⟩) := hk4.cell 2
    have f0 := hk4.frozen 0
    have f1 := hk4.frozen 1
    have f2 := hk4.frozen 2
    have hk4b : w2.heap[g]? = some (.cells #[.bool false, .string ⟨#[]⟩, .string ⟨#[]⟩] 31 (0, 0)) := hk4
    have SET := hide (set3 hk4 (.bool false) (.string ⟨#[48]⟩) (.string ⟨#[49]⟩))
    have HBS := hide (below3 HB2.out (g := g) (Nat.le_refl _) (.bool false) (.string ⟨#[48]⟩) (.string ⟨#[49]⟩))
    clear hb2 HB1 HK1 hk4
    go_wp2
    refine bodyPost_ret (results_cell_row rfl _ _ g 31 _ (0, 0) _ rfl SET.out Tryz.underlying31 rfl (by kernel_rfl)) rfl ?_
    exact ⟨by rw [HL0.out]; unfold RV; rw [ns_zero, ns_one], by rw [← HQ.out]; exact HBS.out⟩
  · have e0 : ((NS s).toList == [48]) = false := by rw [ns_is0]; exact decide_eq_false h0
    go_enter Tryz.func48, Tryz.ntmps48
    have hg : 0 < Nat.gcd s a := Nat.gcd_pos_of_pos_right _ (by omega)
    have hgl : Nat.gcd s a < 1000000000 := Nat.lt_of_le_of_lt (Nat.gcd_le_right _ (by omega)) ha
    have HL : Hid (low17 s a = (s / Nat.gcd s a, a / Nat.gcd s a)) := hide (by unfold low17; rw [if_neg h0])
    have hb1 : Below w.heap.size w (w.alloc (Obj.cells #[.bool false, .string ⟨#[]⟩, .string ⟨#[]⟩] 31)) := (Below.refl _ _).alloc (Nat.le_refl _) _
    have HB1 := hide hb1
    have HK1 := hide (Blk.new w 31 #[.bool false, .string ⟨#[]⟩, .string ⟨#[]⟩])
    go_wp2_with fail
    generalize w.alloc (Obj.cells #[.bool false, .string ⟨#[]⟩, .string ⟨#[]⟩] 31) = w1 at HB1 HK1 ⊢
    obtain ⟨g, hgq⟩ : ∃ g, g = w.heap.size := ⟨_, rfl⟩
    have HQ := hide hgq
    rw [← hgq] at HB1 HK1 ⊢
    clear hb1 hgq
    refine (rgcd03_any s a w1 hs ha hgl (HP.out.below HB1.out (by rw [HQ.out]; exact HP.out.lt))).mono ?_
    rintro en w2 ⟨rfl, hb2⟩
    have HB2 := hide (HB1.out.trans (hb2.mono (Nat.le_of_lt HK1.out.lt)))
    have HK2 := hide (HK1.out.below hb2 HK1.out.lt)
    generalize Nat.gcd s a = q at hg hgl HL ⊢
    clear hb2 HB1 HK1
    have HD1 := hide (rdiv03_any s q w2 hs hgl (by omega) (HP.out.below HB2.out (by rw [HQ.out]; exact HP.out.lt)))
    go_wp2_with fail
    refine HD1.out.mono ?_
    rintro en w3 ⟨rfl, hb3⟩
    have HB3 := hide (HB2.out.trans (hb3.mono (Nat.le_of_lt HK2.out.lt)))
    have HK3 := hide (HK2.out.below hb3 HK2.out.lt)
    have HD2 := hide (rdiv03_any a q w3 ha hgl (by omega) (HP.out.below HB3.out (by rw [HQ.out]; exact HP.out.lt)))
    clear hb3 HB2 HK2 HD1
    go_wp2_with fail
    refine HD2.out.mono ?_
    rintro en w4 ⟨rfl, hb4⟩
    have HB4 := hide (HB3.out.trans (hb4.mono (Nat.le_of_lt HK3.out.lt)))
    have hk4 := HK3.out.below hb4 HK3.out.lt
    have c0 : w4.cell? ⟨g, 0, none⟩ = some (.bool false) := hk4.cell 0
    have c1 : w4.cell? ⟨g, 1, none⟩ = some (.string ⟨#[]⟩) := hk4.cell 1
    have c2 : w4.cell? ⟨g, 2, none⟩ = some (.string ⟨#[]⟩) := hk4.cell 2
    have f0 := hk4.frozen 0
    have f1 := hk4.frozen 1
    have f2 := hk4.frozen 2
    have hk4b : w4.heap[g]? = some (.cells #[.bool false, .string ⟨#[]⟩, .string ⟨#[]⟩] 31 (0, 0)) := hk4
    have SET := hide (set3 hk4 (.bool false) (.string (NS (s / q))) (.string (NS (a / q))))
    have HBS := hide (below3 HB4.out (g := g) (Nat.le_refl _) (.bool false) (.string (NS (s / q))) (.string (NS (a / q))))
    clear hb4 HB3 HK3 HD2 hk4
    go_wp2
    refine bodyPost_ret (results_cell_row rfl _ _ g 31 _ (0, 0) _ rfl SET.out Tryz.underlying31 rfl (by kernel_rfl)) rfl ?_
    exact ⟨by rw [HL.out]; rfl, by rw [← HQ.out]; exact HBS.out⟩
set_option maxHeartbeats 1000000 in
set_option maxRecDepth 100000 in
theorem make04_any (s a : Nat) (w : World) (hs : s < 1000000000) (ha : a < 1000000000) (ha0 : a ≠ 0) (hp : Pow w) :
    Calls Tryz.prog 29 #[.bool false, .string (NS s), .string (NS a)] w fun en w' => en = .returned (.tuple #[RV false (low17 s a), .int .i64 0]) ∧ Below w.heap.size w w' := by
  have HP := hide hp
  clear hp
  have e0 : ((NS a).toList == [48]) = false := by rw [ns_is0]; exact decide_eq_false ha0
  have HB1 : Hid (Below w.heap.size w (w.alloc (Obj.cells #[.bool false, .string ⟨#[]⟩, .string ⟨#[]⟩] 31))) := hide ((Below.refl _ _).alloc (Nat.le_refl _) _)
  have HK1 := hide (Blk.new w 31 #[.bool false, .string ⟨#[]⟩, .string ⟨#[]⟩])
  go_enter Tryz.func29, Tryz.ntmps29
  go_wp2_with fail
  generalize w.alloc (Obj.cells #[.bool false, .string ⟨#[]⟩, .string ⟨#[]⟩] 31) = w1 at HB1 HK1 ⊢
  obtain ⟨g, hgq⟩ : ∃ g, g = w.heap.size := ⟨_, rfl⟩
  have HQ := hide hgq
  rw [← hgq] at HB1 HK1 ⊢
  clear hgq
  refine (rv03_any s hs w1).mono ?_
  rintro en w2 ⟨rfl, hw2⟩
  subst hw2
  go_wp2_with fail
  refine (rv03_any a ha w1).mono ?_
  rintro en w3 ⟨rfl, hw3⟩
  subst hw3
  have HB3 := HB1
  have HK3 := HK1
  clear HB1 HK1
  have HLW := hide (lowest04_any s a w1 hs ha ha0 (HP.out.below HB3.out (by rw [HQ.out]; exact HP.out.lt)))
  go_wp2_with fail
  refine HLW.out.mono ?_
  rintro en w4 ⟨rfl, hb4⟩
  have HB4 := hide (HB3.out.trans (hb4.mono (Nat.le_of_lt HK3.out.lt)))
  have hk4 := HK3.out.below hb4 HK3.out.lt
  have c0 : w4.cell? ⟨g, 0, none⟩ = some (.bool false) := hk4.cell 0
  have c1 : w4.cell? ⟨g, 1, none⟩ = some (.string ⟨#[]⟩) := hk4.cell 1
  have c2 : w4.cell? ⟨g, 2, none⟩ = some (.string ⟨#[]⟩) := hk4.cell 2
  have f0 := hk4.frozen 0
  have f1 := hk4.frozen 1
  have f2 := hk4.frozen 2
  have hk4b : w4.heap[g]? = some (.cells #[.bool false, .string ⟨#[]⟩, .string ⟨#[]⟩] 31 (0, 0)) := hk4
  have SET := hide (set3 hk4 (.bool false) (.string (NS (low17 s a).1)) (.string (NS (low17 s a).2)))
  have HBS := hide (below3 HB4.out (g := g) (Nat.le_refl _) (.bool false) (.string (NS (low17 s a).1)) (.string (NS (low17 s a).2)))
  clear hb4 HB3 HK3 HLW hk4
  unfold RV
  go_wp2
  refine bodyPost_ret (results_cell1 rfl _ _ g 31 _ (0, 0) _ rfl SET.out Tryz.underlying31 rfl (by kernel_rfl)) rfl ?_
  exact ⟨rfl, by rw [← HQ.out]; exact HBS.out⟩
end Go.Proofs.YtlkgoljpjeieiaaGreatDoor

set_option linter.unusedVariables false
set_option linter.unusedSimpArgs false
namespace Go.Proofs.YtlkgoljpjeieiaaGreatDoor
open Go.RowKit Go.Deep Go.Maps

/-- The first offsets are in range. -/
theorem valid17_iff (tape : List Int) : valid17 tape = (decide (1 ≤ tape.length) && decide (tape.length ≤ 9) && tape.all fun t => decide (-50 ≤ t) && decide (t ≤ 50)) := rfl
theorem valid17_bad {tape : List Int} {k : Nat} (hk : k < tape.length) (h : nth tape k < -50 ∨ 50 < nth tape k) : valid17 tape = false := by
  have hall : (tape.all fun t => decide (-50 ≤ t) && decide (t ≤ 50)) = false := by
    rw [List.all_eq_false]
    refine ⟨nth tape k, ?_, ?_⟩
    · rw [nth_eq hk]
      exact List.getElem_mem hk
    · intro he
      simp only [Bool.and_eq_true, decide_eq_true_eq] at he
      omega
  unfold valid17
  rw [hall, Bool.and_false]
theorem valid17_good {tape : List Int} (h : ∀ k, k < tape.length → -50 ≤ nth tape k ∧ nth tape k ≤ 50) : valid17 tape = (decide (1 ≤ tape.length) && decide (tape.length ≤ 9)) := by
  have hall : (tape.all fun t => decide (-50 ≤ t) && decide (t ≤ 50)) = true := by
    rw [List.all_eq_true]
    intro t ht
    obtain ⟨k, hk, rfl⟩ := List.getElem_of_mem ht
    have := h k hk
    rw [nth_eq hk] at this
    rw [decide_eq_true this.1, decide_eq_true this.2]
    rfl
  unfold valid17
  rw [hall, Bool.and_true]
set_option maxHeartbeats 1000000 in
set_option maxRecDepth 100000 in
theorem rvalid17_any (A : Option Addr) (ca : Nat) (tape : List Int) (w : World) (h : RI w w.heap.size A tape.length tape) (hm : tape.length ≤ maxLen) :
    Calls Tryz.prog 16 #[.slice A tape.length ca] w fun en w' => en = .returned (.bool (valid17 tape)) ∧ ∃ q, w' = w.drewN q := by
  have H := hide h
  unfold maxLen at hm
  clear h
  have BAD := hide (fun k (hk : k < tape.length) h => valid17_bad (tape := tape) hk h)
  have GOOD := hide (fun h => valid17_good (tape := tape) h)
  obtain ⟨L, hL⟩ : ∃ L, L = tape.length := ⟨_, rfl⟩
  rw [← hL] at H hm BAD GOOD ⊢
  clear hL
  go_enter Tryz.func16, Tryz.ntmps16
  go_wp2
  go_loopw [3] (fun t3 wr => ∃ k : Nat, k ≤ L ∧ t3 = .int .i64 k ∧ (∀ j, j < k → -50 ≤ nth tape j ∧ nth tape j ≤ 50) ∧ ∃ q, wr = w.drewN q) (fun t3 _ => L - (intOf t3).toNat)
  case atStart => exact ⟨0, Nat.zero_le _, rfl, fun j hj => absurd hj (by omega), 0, rfl⟩
  case round =>
    obtain ⟨k, hk, rfl, hall, q, hw⟩ := hrel
    have HA := hide hall
    have HW := hide hw
    clear hall hw
    by_cases hkL : k < L
    · obtain ⟨b, o, rfl, _, x0⟩ := H.out.at_ hkL
      have x0 : wr.cell? ⟨b, o + k, none⟩ = some (.int .i64 (nth tape k)) := by rw [HW.out]; exact x0
      by_cases h1 : nth tape k < -50
      · have HF := hide (BAD.out k hkL (.inl h1))
        generalize nth tape k = t at x0 h1
        go_wp2
        go_ret
        exact ⟨by rw [HF.out]; rfl, q, HW.out⟩
      · by_cases h2 : 50 < nth tape k
        · have HF := hide (BAD.out k hkL (.inr h2))
          generalize nth tape k = t at x0 h1 h2
          go_wp2
          go_ret
          exact ⟨by rw [HF.out]; rfl, q, HW.out⟩
        · have HN : Hid (∀ j, j < k + 1 → -50 ≤ nth tape j ∧ nth tape j ≤ 50) := hide (fun j hj => by
            by_cases hj2 : j < k
            · exact HA.out j hj2
            · obtain rfl : j = k := by omega
              omega)
          generalize nth tape k = t at x0 h1 h2
          go_wp2
          go_roundw
          case rel => exact ⟨k + 1, by omega, by go_num, HN.out, q, HW.out⟩
          case measure => simp [intOf] <;> omega
    · obtain rfl : k = L := by omega
      have HG := hide (GOOD.out HA.out)
      by_cases h1 : 1 ≤ k
      · by_cases h9 : k ≤ 9
        · rw [decide_eq_true h1, decide_eq_true h9] at HG
          have d1 : decide ((1 : Int) ≤ (k : Int)) = true := decide_eq_true (by omega)
          have d9 : decide ((k : Int) ≤ 9) = true := decide_eq_true (by omega)
          go_wp2
          go_ret
          exact ⟨by rw [HG.out]; rfl, q, HW.out⟩
        · rw [decide_eq_true h1, decide_eq_false h9] at HG
          have d1 : decide ((1 : Int) ≤ (k : Int)) = true := decide_eq_true (by omega)
          have d9 : decide ((k : Int) ≤ 9) = false := decide_eq_false (by omega)
          go_wp2
          go_ret
          exact ⟨by rw [HG.out]; rfl, q, HW.out⟩
      · rw [decide_eq_false h1] at HG
        have d1 : decide ((1 : Int) ≤ (k : Int)) = false := decide_eq_false (by omega)
        go_wp2
        go_ret
        exact ⟨by rw [HG.out]; rfl, q, HW.out⟩
end Go.Proofs.YtlkgoljpjeieiaaGreatDoor

set_option linter.unusedVariables false
set_option linter.unusedSimpArgs false
namespace Go.Proofs.YtlkgoljpjeieiaaGreatDoor
open Go.RowKit Go.Deep Go.Maps

/-- A row of the call's own that is a distribution: what put returns. -/
def PutPost (base : Nat) (N : Int → Nat) (w : World) (en : Ending) (w' : World) : Prop :=
  ∃ (A : Option Addr) (n c : Nat) (l : List (Int × Nat)), en = .returned (.slice A n c) ∧ n = l.length ∧ OrdL l N ∧ Own w' base 38 2 A n c (cellsO l) ∧ Below base w w'
theorem cellsO_set {l : List (Int × Nat)} {k : Nat} {v : Int} {c : Nat} (hk : k < l.length) (hv : (oAt l k).1 = v) : (cellsO l).set (k * 2 + 1) (.string (NS c)) = cellsO (l.set k (v, c)) := by
  induction l generalizing k with
  | nil => simp at hk
  | cons p l ih =>
    cases k with
    | zero =>
      have : p.1 = v := hv
      rw [← this]
      rfl
    | succ k =>
      have := ih (k := k) (by simpa using hk) hv
      show ([Value.int .i64 p.1, .string (NS p.2)] ++ cellsO l).set ((k + 1) * 2 + 1) _ = [Value.int .i64 p.1, .string (NS p.2)] ++ cellsO (l.set k (v, c))
      rw [← this, show (k + 1) * 2 + 1 = 2 + (k * 2 + 1) by omega]
      rw [List.set_append_right _ _ (by simp)]
      simp
theorem dAt_oAt (l : List (Int × Nat)) (k : Nat) : dAt l k = oAt l k := rfl
theorem cellsO_take (l : List (Int × Nat)) (k : Nat) : (cellsO l).take (k * 2) = cellsO (l.take k) := by
  have h := cellsO_append (l.take k) (l.drop k)
  rw [List.take_append_drop] at h
  by_cases hk : k ≤ l.length
  · rw [h, List.take_left' (by rw [cellsO_len, List.length_take, Nat.min_eq_left hk])]
  · have h1 : l.take k = l := List.take_of_length_le (by omega)
    rw [h1]
    exact List.take_of_length_le (by rw [cellsO_len]; omega)
theorem cellsO_drop (l : List (Int × Nat)) (k : Nat) (hk : k ≤ l.length) : (cellsO l).drop (k * 2) = cellsO (l.drop k) := by
  have h := cellsO_append (l.take k) (l.drop k)
  rw [List.take_append_drop] at h
  rw [h, List.drop_left' (by rw [cellsO_len, List.length_take, Nat.min_eq_left hk])]
theorem put_new {w w' : World} {base n c : Nat} {A : Option Addr} {l : List (Int × Nat)} {k : Nat} {v : Int} {q : Nat} (h : Own w' w.heap.size 38 2 A n c (cellsO (l.take k) ++ [.int .i64 v, .string (NS q)] ++ cellsO (l.drop k))) (hb : base ≤ w.heap.size) : Own w' base 38 2 A n c (cellsO (l.take k ++ (v, q) :: l.drop k)) := by
  have e : cellsO (l.take k) ++ [.int .i64 v, .string (NS q)] ++ cellsO (l.drop k) = cellsO (l.take k ++ (v, q) :: l.drop k) := by
    rw [cellsO_append, List.append_assoc]
    rfl
  rw [e] at h
  exact h.lower hb
set_option maxHeartbeats 4000000 in
set_option maxRecDepth 100000 in
theorem put17_any (A : Option Addr) (c n : Nat) (l : List (Int × Nat)) (N : Int → Nat) (v : Int) (q base : Nat) (w : World) (h : Own w base 38 2 A n c (cellsO l)) (hn : n = l.length) (hN : OrdL l N) (hnn : n = 0 → A = none ∧ c = 0) (hb : base ≤ w.heap.size)
    (hl : n ≤ 1000) (hq : q < 500000000) (hq0 : q ≠ 0) (hbd : ∀ x, N x < 500000000) :
    Calls Tryz.prog 26 #[.slice A n c, .int .i64 v, .string (NS q)] w (PutPost base (plus17 N v q) w) := by
  have H := hide h
  have HR := hide h.reads
  have HN := hide hn
  have HORD := hide hN
  have HCAP := h.cap
  have HMAX : Hid (0 < n → c ≤ maxLen) := hide (fun h0 => h.max h0)
  clear h hN hn
  go_enter Tryz.func26, Tryz.ntmps26
  go_wp2
  go_loopw [7] (fun t7 wr => ∃ k : Nat, k ≤ n ∧ t7 = .int .i64 k ∧ (∀ j, j < k → (oAt l j).1 < v) ∧ wr = w) (fun t7 _ => n - (intOf t7).toNat)
  case atStart => exact ⟨0, Nat.zero_le _, rfl, fun j hj => absurd hj (by omega), rfl⟩
  case round =>
    obtain ⟨k, hk, rfl, hall, hw⟩ := hrel
    subst hw
    have HA := hide hall
    clear hall
    by_cases hkn : k < n
    · obtain ⟨b, o, hA, hblt, x0, x1⟩ := RD.at_ HR.out hkn
      rw [dAt_oAt] at x0 x1
      have hv2 : (oAt l k).2 < 500000000 := by rw [ord_val HORD.out (by rw [← HN.out]; exact hkn)]; exact hbd _
      by_cases hlt : (oAt l k).1 < v
      · subst hA
        have HA2 : Hid (∀ j, j < k + 1 → (oAt l j).1 < v) := hide (fun j hj => by
          by_cases hj2 : j < k
          · exact HA.out j hj2
          · obtain rfl : j = k := by omega
            exact hlt)
        generalize (oAt l k).1 = vk at x0 hlt
        clear x1 hnn
        go_wp2
        go_roundw
        case rel => exact ⟨k + 1, by omega, by go_num, HA2.out, trivial⟩
        case measure => simp [intOf] <;> omega
      · by_cases heq : (oAt l k).1 = v
        · have HNEW := hide (ord_same (c := q) HORD.out (k := k) (v := v) (by rw [← HN.out]; exact hkn) heq)
          have HCS := hide (cellsO_set (l := l) (k := k) (v := v) (c := (oAt l k).2 + q) (by rw [← HN.out]; exact hkn) heq)
          obtain ⟨g, hg, hgb, hglt⟩ := H.out.form2 (by omega)
          rw [hg] at hA
          injection hA with hA
          injection hA with e1 e2
          subst e1 e2 hg
          rw [heq] at x0
          have hkk : k * 2 + 1 < n * 2 := by omega
          have f1 := H.out.thaw (k := k * 2 + 1) hkk
          have hx1 : wr.cell? ⟨g, k * 2 + 1, none⟩ = some (.string (NS (oAt l k).2)) := by rw [Nat.zero_add] at x1; exact x1
          have hx0 : wr.cell? ⟨g, k * 2, none⟩ = some (.int .i64 v) := by rw [Nat.zero_add] at x0; exact x0
          have HADD := hide (radd03_any (oAt l k).2 q wr hv2 hq)
          have KEEP : Hid (∀ W, Below wr.heap.size wr W → W.cell? ⟨g, k * 2 + 1, none⟩ = some (.string (NS (oAt l k).2)) ∧ W.frozen? ⟨g, k * 2 + 1, none⟩ = false ∧ Own W base 38 2 (some ⟨g, 0, none⟩) n c (cellsO l)) := hide (fun W hW => ⟨(hW.cell (p := ⟨g, k * 2 + 1, none⟩) hglt).trans hx1, (H.out.below hW).thaw hkk, H.out.below hW⟩)
          generalize (oAt l k).2 = ck at hx1 hv2 HADD HNEW HCS KEEP
          clear x0 x1 hlt heq hnn
          go_wp2_with fail
          refine HADD.out.mono ?_
          rintro en w2 ⟨rfl, hb2⟩
          obtain ⟨y1, y2, y3⟩ := KEEP.out w2 hb2
          have HB2 := hide hb2
          have HO2 := hide (y3.set (k * 2 + 1) (.string (NS (ck + q))))
          rw [HCS.out] at HO2
          clear y3 hx0 hx1 f1 hb2
          go_wp2
          go_ret
          refine ⟨_, _, _, _, rfl, ?_, HNEW.out, HO2.out, (HB2.out.mono hb).setCell (p := ⟨g, k * 2 + 1, none⟩) hgb _⟩
          rw [List.length_set]
          exact HN.out
        · have HNEW := hide (ord_new (c := q) HORD.out (k := k) (v := v) (by rw [← HN.out]; exact hk) hq0 HA.out (.inr (by omega)))
          obtain ⟨g, hg, hgb, hglt⟩ := H.out.form2 (by omega)
          rw [hg] at hA
          injection hA with hA
          injection hA with e1 e2
          subst e1 e2 hg
          rw [Nat.zero_add] at x0
          have hck : ¬ c = k := by omega
          have hck' : (c = k) = False := eq_false hck
          have HR2 := HR.out.cut (k := k) hk HCAP
          have d0 : decide ((k : Int) < (n : Int)) = true := decide_eq_true (by omega)
          generalize hvk : (oAt l k).1 = vk at x0 hlt heq
          clear x1 hvk hnn
          have d1 : (vk == v) = false := beq_eq_false_iff_ne.2 heq
          clear HR2
          have FR := hide (HR.out.front (k := k) hk)
          rw [cellsO_take] at FR
          have bk := HR.out.cut (k := k) hk HCAP
          rw [if_neg hck, Option.map_some, add_lit, Nat.zero_add] at bk
          have BK := hide bk
          clear bk
          rw [cellsO_drop l k (by rw [← HN.out]; exact hk)] at BK
          have T2 := two_rats wr 38 #[] #[.int .i64 v, .string (NS q)]
          have T3 := two_rats wr 38 #[.int .i64 v, .string (NS q)] #[]
          have K1 : Hid (Blk (wr.alloc (Obj.cells #[] 38)).drew wr.heap.size 38 #[]) := hide (Blk.new wr 38 #[]).drew
          have B1 : Hid (Below wr.heap.size wr (wr.alloc (Obj.cells #[] 38)).drew) := hide (((Below.refl _ _).alloc (Nat.le_refl _) _).drew)
          have K2 : Hid (Blk ((wr.alloc (Obj.cells #[] 38)).alloc (Obj.cells #[.int .i64 v, .string (NS q)] 38)).drew wr.heap.size 38 #[] ∧ Blk ((wr.alloc (Obj.cells #[] 38)).alloc (Obj.cells #[.int .i64 v, .string (NS q)] 38)).drew (wr.heap.size + 1) 38 #[.int .i64 v, .string (NS q)]) := hide ⟨T2.2.1.drew, T2.2.2.drew⟩
          have B2 : Hid (Below wr.heap.size wr ((wr.alloc (Obj.cells #[] 38)).alloc (Obj.cells #[.int .i64 v, .string (NS q)] 38)).drew) := hide T2.1.drew
          have K3 : Hid (Blk ((wr.alloc (Obj.cells #[.int .i64 v, .string (NS q)] 38)).alloc (Obj.cells #[] 38)).drew wr.heap.size 38 #[.int .i64 v, .string (NS q)] ∧ Blk ((wr.alloc (Obj.cells #[.int .i64 v, .string (NS q)] 38)).alloc (Obj.cells #[] 38)).drew (wr.heap.size + 1) 38 #[]) := hide ⟨T3.2.1.drew, T3.2.2.drew⟩
          have B3 : Hid (Below wr.heap.size wr ((wr.alloc (Obj.cells #[.int .i64 v, .string (NS q)] 38)).alloc (Obj.cells #[] 38)).drew) := hide T3.1.drew
          clear T2 T3
          have hmx0 : k ≤ maxLen := by unfold maxLen; omega
          have hmx1 : k + 1 ≤ maxLen := by unfold maxLen; omega
          have hmx2 : k + 1 + (n - k) ≤ maxLen := by unfold maxLen; omega
          have hby0 : k * 24 ≤ 140737488355328 := by omega
          have hby1 : (k + 1) * 24 ≤ 140737488355328 := by omega
          have hby2 : (k + 1 + (n - k)) * 24 ≤ 140737488355328 := by omega
          have hk0 : (0 : Int) ≤ (k : Int) := by omega
          have hk1 : (k : Int) ≤ (n : Int) := by omega
          have hk2 : (k : Int) ≤ (c : Int) := by omega
          have hk3 : k ≤ c := by omega
          go_upto_region 8 with (fail)
          go_cut [6] (fun t6 wx => ∃ (A9 : Option Addr) (c9 : Nat), t6 = .slice A9 (k + 1 + (n - k)) c9 ∧ Own wx wr.heap.size 38 2 A9 (k + 1 + (n - k)) c9 (cellsO (l.take k) ++ [.int .i64 v, .string (NS q)] ++ cellsO (l.drop k)) ∧ Below wr.heap.size wr wx)
          case first =>
            go_region_law ((first
              | (refine step_app0_at (by rfl) (.tmp 54) (.tmp 57) 25 (by rfl) wr.heap.size 38 (.agg #[.int .i64 0, .string ⟨#[]⟩]) 2 24 Tryz.underlying25 out_info rfl (by omega) (some ⟨wr.heap.size, 0, none⟩) 0 (by rfl) (by exact Own.empty K1.out (by omega)) wr.heap.size _ k _ (cellsO (l.take k)) (by rfl) (by exact FR.out.below B1.out) (cellsO_one _) hmx0 hby0 B1.out.size ?_; intro A9 c9 w9 hown9 hb9 hg9; have HB8 := hide (B1.out.trans hb9); have HO9 : Hid (Own (w9.alloc (Obj.cells #[.int .i64 v, .string (NS q)] 38)) wr.heap.size 38 2 A9 k c9 (cellsO (l.take k))) := hide (hown9.alloc _); have HB9 : Hid (Below wr.heap.size wr (w9.alloc (Obj.cells #[.int .i64 v, .string (NS q)] 38))) := hide (HB8.out.alloc HB8.out.size _); have RX9 : Hid (Reads (w9.alloc (Obj.cells #[.int .i64 v, .string (NS q)] 38)) (w9.alloc (Obj.cells #[.int .i64 v, .string (NS q)] 38)).heap.size 2 (some ⟨w9.heap.size, 0, none⟩) 1 [.int .i64 v, .string (NS q)]) := hide (Reads.one (Blk.new w9 38 #[.int .i64 v, .string (NS q)]) rfl); clear hown9 hb9 hg9)
              | (refine step_app0_at (by rfl) (.tmp 54) (.tmp 57) 25 (by rfl) wr.heap.size 38 (.agg #[.int .i64 0, .string ⟨#[]⟩]) 2 24 Tryz.underlying25 out_info rfl (by omega) (some ⟨wr.heap.size, 0, none⟩) 0 (by rfl) (by exact Own.empty K2.out.1 (by omega)) wr.heap.size _ k _ (cellsO (l.take k)) (by rfl) (by exact FR.out.below B2.out) (cellsO_one _) hmx0 hby0 B2.out.size ?_; intro A9 c9 w9 hown9 hb9 hg9; have HB8 := hide (B2.out.trans hb9); have HO9 := hide hown9; have HB9 := HB8; have RX9 : Hid (Reads w9 w9.heap.size 2 (some ⟨wr.heap.size + 1, 0, none⟩) 1 [.int .i64 v, .string (NS q)]) := hide (Reads.one (K2.out.2.grown hg9 (by intro he; have he : some (wr.heap.size + 1) = some wr.heap.size := he; injection he with he; omega)) rfl); clear hown9 hb9 hg9)
              | (refine step_app0_at (by rfl) (.tmp 54) (.tmp 57) 25 (by rfl) wr.heap.size 38 (.agg #[.int .i64 0, .string ⟨#[]⟩]) 2 24 Tryz.underlying25 out_info rfl (by omega) (some ⟨wr.heap.size + 1, 0, none⟩) 0 (by rfl) (by exact Own.empty K3.out.2 (by omega)) wr.heap.size _ k _ (cellsO (l.take k)) (by rfl) (by exact FR.out.below B3.out) (cellsO_one _) hmx0 hby0 B3.out.size ?_; intro A9 c9 w9 hown9 hb9 hg9; have HB8 := hide (B3.out.trans hb9); have HO9 := hide hown9; have HB9 := HB8; have RX9 : Hid (Reads w9 w9.heap.size 2 (some ⟨wr.heap.size, 0, none⟩) 1 [.int .i64 v, .string (NS q)]) := hide (Reads.one (K3.out.1.grown hg9 (by intro he; have he : some wr.heap.size = some (wr.heap.size + 1) := he; injection he with he; omega)) rfl); clear hown9 hb9 hg9)
              | (refine step_app_at (by rfl) (.tmp 58) (.tmp 62) 25 (by rfl) wr.heap.size 38 (.agg #[.int .i64 0, .string ⟨#[]⟩]) 2 24 Tryz.underlying25 out_info rfl (by omega) A9 k c9 _ (by rfl) (by exact HO9.out) _ _ 1 _ _ (by rfl) (by exact RX9.out) (by simp [Value.oneCell']) hmx1 hby1 HB9.out.size ?_; intro A10 c10 w10 hown10 hb10 _; have HO10 := hide hown10; have HB10 := hide (HB9.out.trans hb10); have RB10 := hide (BK.out.below HB10.out); clear hown10 hb10)
              | (refine step_app_at (by rfl) (.tmp 63) (.tmp 66) 25 (by rfl) wr.heap.size 38 (.agg #[.int .i64 0, .string ⟨#[]⟩]) 2 24 Tryz.underlying25 out_info rfl (by omega) A10 (k + 1) c10 _ (by rfl) (by exact HO10.out) wr.heap.size _ (n - k) _ (cellsO (l.drop k)) (by rfl) (by exact RB10.out) (cellsO_one _) hmx2 hby2 HB10.out.size ?_; intro A11 c11 w11 hown11 hb11 _; have HO11 := hide hown11; have HB11 := hide (HB10.out.trans hb11); clear hown11 hb11)))
            all_goals
              go_wp2_with fail
              go_meet
              exact ⟨A11, c11, rfl, HO11.out, HB11.out⟩
          case rest =>
            obtain ⟨A9, c9, rfl, ho, hbl⟩ := hcut
            have HO9 := hide ho
            have HBL := hide hbl
            clear ho hbl
            go_wp2
            go_ret
            refine ⟨_, _, _, _, rfl, ?_, HNEW.out, put_new HO9.out hb, HBL.out.mono hb⟩
            rw [List.length_append, List.length_cons, List.length_take, List.length_drop, ← HN.out]
            omega
    · obtain rfl : k = n := by omega
      have HNEW := hide (ord_new (c := q) HORD.out (k := k) (v := v) (by rw [← HN.out]; exact hk) hq0 HA.out (.inl HN.out))
      have d0 : decide ((k : Int) < (k : Int)) = false := decide_eq_false (by omega)
      by_cases hck : c = k
      · have hck2 : k = c := hck.symm
        clear hck
        subst hck2
        have FR := hide (HR.out.front (k := k) hk)
        rw [cellsO_take] at FR
        have bk := HR.out.cut (k := k) hk HCAP
        rw [if_pos rfl, Nat.sub_self] at bk
        have BK := hide bk
        clear bk
        rw [cellsO_drop l k (by rw [← HN.out]; exact hk)] at BK
        have T2 := two_rats wr 38 #[] #[.int .i64 v, .string (NS q)]
        have T3 := two_rats wr 38 #[.int .i64 v, .string (NS q)] #[]
        have K1 : Hid (Blk (wr.alloc (Obj.cells #[] 38)).drew wr.heap.size 38 #[]) := hide (Blk.new wr 38 #[]).drew
        have B1 : Hid (Below wr.heap.size wr (wr.alloc (Obj.cells #[] 38)).drew) := hide (((Below.refl _ _).alloc (Nat.le_refl _) _).drew)
        have K2 : Hid (Blk ((wr.alloc (Obj.cells #[] 38)).alloc (Obj.cells #[.int .i64 v, .string (NS q)] 38)).drew wr.heap.size 38 #[] ∧ Blk ((wr.alloc (Obj.cells #[] 38)).alloc (Obj.cells #[.int .i64 v, .string (NS q)] 38)).drew (wr.heap.size + 1) 38 #[.int .i64 v, .string (NS q)]) := hide ⟨T2.2.1.drew, T2.2.2.drew⟩
        have B2 : Hid (Below wr.heap.size wr ((wr.alloc (Obj.cells #[] 38)).alloc (Obj.cells #[.int .i64 v, .string (NS q)] 38)).drew) := hide T2.1.drew
        have K3 : Hid (Blk ((wr.alloc (Obj.cells #[.int .i64 v, .string (NS q)] 38)).alloc (Obj.cells #[] 38)).drew wr.heap.size 38 #[.int .i64 v, .string (NS q)] ∧ Blk ((wr.alloc (Obj.cells #[.int .i64 v, .string (NS q)] 38)).alloc (Obj.cells #[] 38)).drew (wr.heap.size + 1) 38 #[]) := hide ⟨T3.2.1.drew, T3.2.2.drew⟩
        have B3 : Hid (Below wr.heap.size wr ((wr.alloc (Obj.cells #[.int .i64 v, .string (NS q)] 38)).alloc (Obj.cells #[] 38)).drew) := hide T3.1.drew
        clear T2 T3
        have hmx0 : k ≤ maxLen := by unfold maxLen; omega
        have hmx1 : k + 1 ≤ maxLen := by unfold maxLen; omega
        have hmx2 : k + 1 + 0 ≤ maxLen := by unfold maxLen; omega
        have hby0 : k * 24 ≤ 140737488355328 := by omega
        have hby1 : (k + 1) * 24 ≤ 140737488355328 := by omega
        have hby2 : (k + 1 + 0) * 24 ≤ 140737488355328 := by omega
        have hk0 : (0 : Int) ≤ (k : Int) := by omega
        have hk1 : (k : Int) ≤ (k : Int) := by omega
        have hk2 : (k : Int) ≤ (k : Int) := by omega
        have hk3 : k ≤ k := by omega
        go_upto_region 8 with (fail)
        go_cut [6] (fun t6 wx => ∃ (A9 : Option Addr) (c9 : Nat), t6 = .slice A9 (k + 1 + 0) c9 ∧ Own wx wr.heap.size 38 2 A9 (k + 1 + 0) c9 (cellsO (l.take k) ++ [.int .i64 v, .string (NS q)] ++ cellsO (l.drop k)) ∧ Below wr.heap.size wr wx)
        case first =>
          go_region_law ((first
            | (refine step_app0_at (by rfl) (.tmp 54) (.tmp 57) 25 (by rfl) wr.heap.size 38 (.agg #[.int .i64 0, .string ⟨#[]⟩]) 2 24 Tryz.underlying25 out_info rfl (by omega) (some ⟨wr.heap.size, 0, none⟩) 0 (by rfl) (by exact Own.empty K1.out (by omega)) wr.heap.size _ k _ (cellsO (l.take k)) (by rfl) (by exact FR.out.below B1.out) (cellsO_one _) hmx0 hby0 B1.out.size ?_; intro A9 c9 w9 hown9 hb9 hg9; have HB8 := hide (B1.out.trans hb9); have HO9 : Hid (Own (w9.alloc (Obj.cells #[.int .i64 v, .string (NS q)] 38)) wr.heap.size 38 2 A9 k c9 (cellsO (l.take k))) := hide (hown9.alloc _); have HB9 : Hid (Below wr.heap.size wr (w9.alloc (Obj.cells #[.int .i64 v, .string (NS q)] 38))) := hide (HB8.out.alloc HB8.out.size _); have RX9 : Hid (Reads (w9.alloc (Obj.cells #[.int .i64 v, .string (NS q)] 38)) (w9.alloc (Obj.cells #[.int .i64 v, .string (NS q)] 38)).heap.size 2 (some ⟨w9.heap.size, 0, none⟩) 1 [.int .i64 v, .string (NS q)]) := hide (Reads.one (Blk.new w9 38 #[.int .i64 v, .string (NS q)]) rfl); clear hown9 hb9 hg9)
            | (refine step_app0_at (by rfl) (.tmp 54) (.tmp 57) 25 (by rfl) wr.heap.size 38 (.agg #[.int .i64 0, .string ⟨#[]⟩]) 2 24 Tryz.underlying25 out_info rfl (by omega) (some ⟨wr.heap.size, 0, none⟩) 0 (by rfl) (by exact Own.empty K2.out.1 (by omega)) wr.heap.size _ k _ (cellsO (l.take k)) (by rfl) (by exact FR.out.below B2.out) (cellsO_one _) hmx0 hby0 B2.out.size ?_; intro A9 c9 w9 hown9 hb9 hg9; have HB8 := hide (B2.out.trans hb9); have HO9 := hide hown9; have HB9 := HB8; have RX9 : Hid (Reads w9 w9.heap.size 2 (some ⟨wr.heap.size + 1, 0, none⟩) 1 [.int .i64 v, .string (NS q)]) := hide (Reads.one (K2.out.2.grown hg9 (by intro he; have he : some (wr.heap.size + 1) = some wr.heap.size := he; injection he with he; omega)) rfl); clear hown9 hb9 hg9)
            | (refine step_app0_at (by rfl) (.tmp 54) (.tmp 57) 25 (by rfl) wr.heap.size 38 (.agg #[.int .i64 0, .string ⟨#[]⟩]) 2 24 Tryz.underlying25 out_info rfl (by omega) (some ⟨wr.heap.size + 1, 0, none⟩) 0 (by rfl) (by exact Own.empty K3.out.2 (by omega)) wr.heap.size _ k _ (cellsO (l.take k)) (by rfl) (by exact FR.out.below B3.out) (cellsO_one _) hmx0 hby0 B3.out.size ?_; intro A9 c9 w9 hown9 hb9 hg9; have HB8 := hide (B3.out.trans hb9); have HO9 := hide hown9; have HB9 := HB8; have RX9 : Hid (Reads w9 w9.heap.size 2 (some ⟨wr.heap.size, 0, none⟩) 1 [.int .i64 v, .string (NS q)]) := hide (Reads.one (K3.out.1.grown hg9 (by intro he; have he : some wr.heap.size = some (wr.heap.size + 1) := he; injection he with he; omega)) rfl); clear hown9 hb9 hg9)
            | (refine step_app_at (by rfl) (.tmp 58) (.tmp 62) 25 (by rfl) wr.heap.size 38 (.agg #[.int .i64 0, .string ⟨#[]⟩]) 2 24 Tryz.underlying25 out_info rfl (by omega) A9 k c9 _ (by rfl) (by exact HO9.out) _ _ 1 _ _ (by rfl) (by exact RX9.out) (by simp [Value.oneCell']) hmx1 hby1 HB9.out.size ?_; intro A10 c10 w10 hown10 hb10 _; have HO10 := hide hown10; have HB10 := hide (HB9.out.trans hb10); have RB10 := hide (BK.out.below HB10.out); clear hown10 hb10)
            | (refine step_app_at (by rfl) (.tmp 63) (.tmp 66) 25 (by rfl) wr.heap.size 38 (.agg #[.int .i64 0, .string ⟨#[]⟩]) 2 24 Tryz.underlying25 out_info rfl (by omega) A10 (k + 1) c10 _ (by rfl) (by exact HO10.out) wr.heap.size _ 0 _ (cellsO (l.drop k)) (by rfl) (by exact RB10.out) (cellsO_one _) hmx2 hby2 HB10.out.size ?_; intro A11 c11 w11 hown11 hb11 _; have HO11 := hide hown11; have HB11 := hide (HB10.out.trans hb11); clear hown11 hb11)))
          all_goals
            go_wp2_with fail
            go_meet
            exact ⟨A11, c11, rfl, HO11.out, HB11.out⟩
        case rest =>
          obtain ⟨A9, c9, rfl, ho, hbl⟩ := hcut
          have HO9 := hide ho
          have HBL := hide hbl
          clear ho hbl
          go_wp2
          go_ret
          refine ⟨_, _, _, _, rfl, ?_, HNEW.out, put_new HO9.out hb, HBL.out.mono hb⟩
          rw [List.length_append, List.length_cons, List.length_take, List.length_drop, ← HN.out]
          omega
      · have hck' : (c = k) = False := eq_false hck
        have FR := hide (HR.out.front (k := k) hk)
        rw [cellsO_take] at FR
        have bk := HR.out.cut (k := k) hk HCAP
        rw [if_neg hck, Nat.sub_self] at bk
        have BK := hide bk
        clear bk
        rw [cellsO_drop l k (by rw [← HN.out]; exact hk)] at BK
        have T2 := two_rats wr 38 #[] #[.int .i64 v, .string (NS q)]
        have T3 := two_rats wr 38 #[.int .i64 v, .string (NS q)] #[]
        have K1 : Hid (Blk (wr.alloc (Obj.cells #[] 38)).drew wr.heap.size 38 #[]) := hide (Blk.new wr 38 #[]).drew
        have B1 : Hid (Below wr.heap.size wr (wr.alloc (Obj.cells #[] 38)).drew) := hide (((Below.refl _ _).alloc (Nat.le_refl _) _).drew)
        have K2 : Hid (Blk ((wr.alloc (Obj.cells #[] 38)).alloc (Obj.cells #[.int .i64 v, .string (NS q)] 38)).drew wr.heap.size 38 #[] ∧ Blk ((wr.alloc (Obj.cells #[] 38)).alloc (Obj.cells #[.int .i64 v, .string (NS q)] 38)).drew (wr.heap.size + 1) 38 #[.int .i64 v, .string (NS q)]) := hide ⟨T2.2.1.drew, T2.2.2.drew⟩
        have B2 : Hid (Below wr.heap.size wr ((wr.alloc (Obj.cells #[] 38)).alloc (Obj.cells #[.int .i64 v, .string (NS q)] 38)).drew) := hide T2.1.drew
        have K3 : Hid (Blk ((wr.alloc (Obj.cells #[.int .i64 v, .string (NS q)] 38)).alloc (Obj.cells #[] 38)).drew wr.heap.size 38 #[.int .i64 v, .string (NS q)] ∧ Blk ((wr.alloc (Obj.cells #[.int .i64 v, .string (NS q)] 38)).alloc (Obj.cells #[] 38)).drew (wr.heap.size + 1) 38 #[]) := hide ⟨T3.2.1.drew, T3.2.2.drew⟩
        have B3 : Hid (Below wr.heap.size wr ((wr.alloc (Obj.cells #[.int .i64 v, .string (NS q)] 38)).alloc (Obj.cells #[] 38)).drew) := hide T3.1.drew
        clear T2 T3
        have hmx0 : k ≤ maxLen := by unfold maxLen; omega
        have hmx1 : k + 1 ≤ maxLen := by unfold maxLen; omega
        have hmx2 : k + 1 + 0 ≤ maxLen := by unfold maxLen; omega
        have hby0 : k * 24 ≤ 140737488355328 := by omega
        have hby1 : (k + 1) * 24 ≤ 140737488355328 := by omega
        have hby2 : (k + 1 + 0) * 24 ≤ 140737488355328 := by omega
        have hk0 : (0 : Int) ≤ (k : Int) := by omega
        have hk1 : (k : Int) ≤ (k : Int) := by omega
        have hk2 : (k : Int) ≤ (c : Int) := by omega
        have hk3 : k ≤ c := by omega
        go_upto_region 8 with (fail)
        go_cut [6] (fun t6 wx => ∃ (A9 : Option Addr) (c9 : Nat), t6 = .slice A9 (k + 1 + 0) c9 ∧ Own wx wr.heap.size 38 2 A9 (k + 1 + 0) c9 (cellsO (l.take k) ++ [.int .i64 v, .string (NS q)] ++ cellsO (l.drop k)) ∧ Below wr.heap.size wr wx)
        case first =>
          go_region_law ((first
            | (refine step_app0_at (by rfl) (.tmp 54) (.tmp 57) 25 (by rfl) wr.heap.size 38 (.agg #[.int .i64 0, .string ⟨#[]⟩]) 2 24 Tryz.underlying25 out_info rfl (by omega) (some ⟨wr.heap.size, 0, none⟩) 0 (by rfl) (by exact Own.empty K1.out (by omega)) wr.heap.size _ k _ (cellsO (l.take k)) (by rfl) (by exact FR.out.below B1.out) (cellsO_one _) hmx0 hby0 B1.out.size ?_; intro A9 c9 w9 hown9 hb9 hg9; have HB8 := hide (B1.out.trans hb9); have HO9 : Hid (Own (w9.alloc (Obj.cells #[.int .i64 v, .string (NS q)] 38)) wr.heap.size 38 2 A9 k c9 (cellsO (l.take k))) := hide (hown9.alloc _); have HB9 : Hid (Below wr.heap.size wr (w9.alloc (Obj.cells #[.int .i64 v, .string (NS q)] 38))) := hide (HB8.out.alloc HB8.out.size _); have RX9 : Hid (Reads (w9.alloc (Obj.cells #[.int .i64 v, .string (NS q)] 38)) (w9.alloc (Obj.cells #[.int .i64 v, .string (NS q)] 38)).heap.size 2 (some ⟨w9.heap.size, 0, none⟩) 1 [.int .i64 v, .string (NS q)]) := hide (Reads.one (Blk.new w9 38 #[.int .i64 v, .string (NS q)]) rfl); clear hown9 hb9 hg9)
            | (refine step_app0_at (by rfl) (.tmp 54) (.tmp 57) 25 (by rfl) wr.heap.size 38 (.agg #[.int .i64 0, .string ⟨#[]⟩]) 2 24 Tryz.underlying25 out_info rfl (by omega) (some ⟨wr.heap.size, 0, none⟩) 0 (by rfl) (by exact Own.empty K2.out.1 (by omega)) wr.heap.size _ k _ (cellsO (l.take k)) (by rfl) (by exact FR.out.below B2.out) (cellsO_one _) hmx0 hby0 B2.out.size ?_; intro A9 c9 w9 hown9 hb9 hg9; have HB8 := hide (B2.out.trans hb9); have HO9 := hide hown9; have HB9 := HB8; have RX9 : Hid (Reads w9 w9.heap.size 2 (some ⟨wr.heap.size + 1, 0, none⟩) 1 [.int .i64 v, .string (NS q)]) := hide (Reads.one (K2.out.2.grown hg9 (by intro he; have he : some (wr.heap.size + 1) = some wr.heap.size := he; injection he with he; omega)) rfl); clear hown9 hb9 hg9)
            | (refine step_app0_at (by rfl) (.tmp 54) (.tmp 57) 25 (by rfl) wr.heap.size 38 (.agg #[.int .i64 0, .string ⟨#[]⟩]) 2 24 Tryz.underlying25 out_info rfl (by omega) (some ⟨wr.heap.size + 1, 0, none⟩) 0 (by rfl) (by exact Own.empty K3.out.2 (by omega)) wr.heap.size _ k _ (cellsO (l.take k)) (by rfl) (by exact FR.out.below B3.out) (cellsO_one _) hmx0 hby0 B3.out.size ?_; intro A9 c9 w9 hown9 hb9 hg9; have HB8 := hide (B3.out.trans hb9); have HO9 := hide hown9; have HB9 := HB8; have RX9 : Hid (Reads w9 w9.heap.size 2 (some ⟨wr.heap.size, 0, none⟩) 1 [.int .i64 v, .string (NS q)]) := hide (Reads.one (K3.out.1.grown hg9 (by intro he; have he : some wr.heap.size = some (wr.heap.size + 1) := he; injection he with he; omega)) rfl); clear hown9 hb9 hg9)
            | (refine step_app_at (by rfl) (.tmp 58) (.tmp 62) 25 (by rfl) wr.heap.size 38 (.agg #[.int .i64 0, .string ⟨#[]⟩]) 2 24 Tryz.underlying25 out_info rfl (by omega) A9 k c9 _ (by rfl) (by exact HO9.out) _ _ 1 _ _ (by rfl) (by exact RX9.out) (by simp [Value.oneCell']) hmx1 hby1 HB9.out.size ?_; intro A10 c10 w10 hown10 hb10 _; have HO10 := hide hown10; have HB10 := hide (HB9.out.trans hb10); have RB10 := hide (BK.out.below HB10.out); clear hown10 hb10)
            | (refine step_app_at (by rfl) (.tmp 63) (.tmp 66) 25 (by rfl) wr.heap.size 38 (.agg #[.int .i64 0, .string ⟨#[]⟩]) 2 24 Tryz.underlying25 out_info rfl (by omega) A10 (k + 1) c10 _ (by rfl) (by exact HO10.out) wr.heap.size _ 0 _ (cellsO (l.drop k)) (by rfl) (by exact RB10.out) (cellsO_one _) hmx2 hby2 HB10.out.size ?_; intro A11 c11 w11 hown11 hb11 _; have HO11 := hide hown11; have HB11 := hide (HB10.out.trans hb11); clear hown11 hb11)))
          all_goals
            go_wp2_with fail
            go_meet
            exact ⟨A11, c11, rfl, HO11.out, HB11.out⟩
        case rest =>
          obtain ⟨A9, c9, rfl, ho, hbl⟩ := hcut
          have HO9 := hide ho
          have HBL := hide hbl
          clear ho hbl
          go_wp2
          go_ret
          refine ⟨_, _, _, _, rfl, ?_, HNEW.out, put_new HO9.out hb, HBL.out.mono hb⟩
          rw [List.length_append, List.length_cons, List.length_take, List.length_drop, ← HN.out]
          omega
end Go.Proofs.YtlkgoljpjeieiaaGreatDoor

set_option linter.unusedVariables false
set_option linter.unusedSimpArgs false
namespace Go.Proofs.YtlkgoljpjeieiaaGreatDoor
open Go.RowKit Go.Deep Go.Maps

theorem dist0 (tape : List Int) : dist17 tape 0 = [(0, 1)] := rfl
theorem incr_len : ∀ (l : List Int) (lo hi : Int), l.Pairwise (· < ·) → (∀ x ∈ l, lo ≤ x ∧ x ≤ hi) → l.length ≤ (hi - lo + 1).toNat
  | [], _, _, _, _ => Nat.zero_le _
  | x :: l, lo, hi, hp, hb => by
    rw [List.pairwise_cons] at hp
    have h1 := incr_len l (x + 1) hi hp.2 fun y hy => by
      have := hp.1 y hy
      have := hb y (List.mem_cons_of_mem _ hy)
      omega
    have h2 := hb x List.mem_cons_self
    rw [List.length_cons]
    omega
/-- Which values are still to come. -/
def leftK (L : List Int) (k : Nat) (v : Int) : Bool := decide (v ∈ L.drop k)
theorem leftK_head {L : List Int} {k : Nat} (hk : k < L.length) : leftK L k (nth L k) = true := by
  unfold leftK
  rw [nth_eq hk, List.drop_eq_getElem_cons hk]
  exact decide_eq_true List.mem_cons_self
theorem leftK_step {L : List Int} (hn : L.Nodup) {k : Nat} (hk : k < L.length) (v : Int) : leftK L (k + 1) v = (leftK L k v && !decide (v = nth L k)) := by
  unfold leftK
  have hd := List.drop_eq_getElem_cons hk
  have hnd : (L.drop k).Nodup := hn.sublist (List.drop_sublist k L)
  rw [hd, List.nodup_cons] at hnd
  rw [hd, nth_eq hk]
  by_cases e : v = L[k]
  · rw [e, decide_eq_false hnd.1, decide_eq_true rfl]
    simp
  · rw [decide_eq_false e, Bool.not_false, Bool.and_true]
    apply decide_eq_decide.2
    rw [List.mem_cons]
    exact ⟨.inr, fun h => h.resolve_left e⟩
theorem leftK_end {L : List Int} (v : Int) : leftK L L.length v = false := by
  unfold leftK
  rw [List.drop_length]
  exact decide_eq_false (by simp)
/-- What put has been given: the values before k, and the first j offsets at value k. -/
def upto17 (tape : List Int) (i k j : Nat) (v : Int) : Nat := part17 tape i (leftK (supp17 tape i) k) v + inn17 tape ((sums17 tape i).count (nth (supp17 tape i) k)) (nth (supp17 tape i) k) j v
theorem upto17_start (tape : List Int) (i v) : part17 tape i (leftK (supp17 tape i) 0) v = 0 := part17_start (fun k hk => by unfold leftK; exact decide_eq_true hk) v
theorem upto17_zero (tape : List Int) (i k : Nat) (v : Int) : part17 tape i (leftK (supp17 tape i) k) v = upto17 tape i k 0 v := by
  unfold upto17
  rw [inn17_zero, Nat.add_zero]
theorem upto17_step {tape : List Int} {i k j : Nat} (hj : j < tape.length) : upto17 tape i k (j + 1) = plus17 (upto17 tape i k j) (nth (supp17 tape i) k + nth tape j) ((sums17 tape i).count (nth (supp17 tape i) k)) := by
  funext v
  unfold upto17 plus17
  rw [inn17_step hj, Nat.add_assoc]
theorem upto17_full {tape : List Int} {i k : Nat} (hk : k < (supp17 tape i).length) (v : Int) : upto17 tape i k tape.length v = part17 tape i (leftK (supp17 tape i) (k + 1)) v := by
  unfold upto17
  have hs : nth (supp17 tape i) k ∈ supp17 tape i := by rw [nth_eq hk]; exact List.getElem_mem hk
  rw [inn17_full, part17_step hs (leftK_head hk) (leftK_step (incr_nodup (supp17_incr tape i)) hk) v]
theorem upto17_bd {tape : List Int} (ht : ∀ t ∈ tape, -50 ≤ t ∧ t ≤ 50) (h9 : tape.length ≤ 9) {i k : Nat} (hi : i + 1 ≤ 6) (hk : k < (supp17 tape i).length) (j : Nat) (v : Int) : upto17 tape i k j v ≤ 531441 := by
  have hs : nth (supp17 tape i) k ∈ supp17 tape i := by rw [nth_eq hk]; exact List.getElem_mem hk
  exact step17_bd ht h9 hi hs (leftK_head hk) (leftK_step (incr_nodup (supp17_incr tape i)) hk) j v
theorem upto17_len {tape : List Int} (ht : ∀ t ∈ tape, -50 ≤ t ∧ t ≤ 50) {i k j : Nat} (hi : i + 1 ≤ 6) (hk : k < (supp17 tape i).length) {l : List (Int × Nat)} (h : OrdL l (upto17 tape i k j)) : l.length ≤ 1000 := by
  have h1 := incr_len (l.map (·.1)) (-300) 300 h.1 fun x hx => by
    have hne := (h.2.1 x).1 hx
    have hs : nth (supp17 tape i) k ∈ supp17 tape i := by rw [nth_eq hk]; exact List.getElem_mem hk
    have h2 := part17_step (tape := tape) (n := i) hs (leftK_head hk) (leftK_step (incr_nodup (supp17_incr tape i)) hk) x
    have h3 := part17_le ht (n := i) (leftK (supp17 tape i) (k + 1)) x
    have h4 := inn17_le tape ((sums17 tape i).count (nth (supp17 tape i) k)) (nth (supp17 tape i) k) j x
    unfold upto17 at hne
    have hc : (sums17 tape (i + 1)).count x ≠ 0 := by omega
    have hm : x ∈ sums17 tape (i + 1) := List.count_pos_iff.1 (Nat.pos_of_ne_zero hc)
    have hb := sums17_bd ht (i + 1) x hm
    have : ((i + 1 : Nat) : Int) * 50 ≤ 300 := by omega
    omega
  rw [List.length_map] at h1
  omega
/-- A row of the call's own that is a distribution, or none. -/
def RowO (w : World) (base : Nat) (A : Option Addr) (n c : Nat) (N : Int → Nat) : Prop :=
  ∃ l : List (Int × Nat), n = l.length ∧ OrdL l N ∧ Own w base 38 2 A n c (cellsO l) ∧ (n = 0 → A = none ∧ c = 0)
theorem RowO.ext {w : World} {base : Nat} {A : Option Addr} {n c : Nat} {N M : Int → Nat} (h : RowO w base A n c N) (e : ∀ v, N v = M v) : RowO w base A n c M := by
  obtain ⟨l, h1, h2, h3⟩ := h
  exact ⟨l, h1, ord_ext h2 e, h3⟩
theorem plus17_pos {l : List (Int × Nat)} {N : Int → Nat} {v : Int} {c : Nat} (hc : c ≠ 0) (h : OrdL l (plus17 N v c)) : l.length ≠ 0 := by
  intro h0
  have hl : l = [] := List.eq_nil_of_length_eq_zero h0
  subst hl
  have := (h.2.1 v).2 (by unfold plus17; rw [if_pos rfl]; omega)
  simp at this
set_option maxHeartbeats 4000000 in
set_option maxRecDepth 100000 in
theorem rdist_ok (A : Option Addr) (ca : Nat) (tape : List Int) (m : Nat) (w : World) (h : RI w w.heap.size A tape.length tape) (hv : valid17 tape = true) (hm : m ≤ 6) :
    Calls Tryz.prog 12 #[.slice A tape.length ca, .int .i64 m] w (DistPost tape m w) := by
  obtain ⟨t1, t9, ht⟩ := valid17_ok hv
  have H := hide h
  have HT := hide ht
  have HV := hide (rvalid17_any A ca tape w h (by unfold maxLen; omega))
  rw [hv] at HV
  clear h hv ht
  obtain ⟨L, hL⟩ : ∃ L, L = tape.length := ⟨_, rfl⟩
  have HL := hide hL
  rw [← hL] at H HV t1 t9 ⊢
  clear hL
  unfold DistPost
  go_enter Tryz.func12, Tryz.ntmps12
  go_wp2_with fail
  refine HV.out.mono ?_
  rintro en w1 ⟨rfl, q1, hw1⟩
  have HB1 : Hid (Below w.heap.size w w1) := hide (by rw [hw1]; exact drewN_below _ _ _)
  have H1 := hide (H.out.next HB1.out)
  clear hw1 HV H
  have HO0 : Hid (RowO (w1.alloc (Obj.cells #[.int .i64 0, .string ⟨#[49]⟩] 38)) w.heap.size (some ⟨w1.heap.size, 0, none⟩) 1 1 (fun v => (sums17 tape 0).count v)) := hide (by
    refine ⟨[(0, 1)], rfl, ?_, ?_, fun h => absurd h (by omega)⟩
    · have := dist_ord HT.out 0
      rw [dist0] at this
      exact this
    · have := Own.of_lit w1 (e := 38) (size := 2) (base := w.heap.size) #[.int .i64 0, .string ⟨#[49]⟩] 1 HB1.out.size (by unfold maxLen; omega) rfl
      have e : cellsO [(0, 1)] = [.int .i64 0, .string ⟨#[49]⟩] := by simp [cellsO, ns_one]
      rw [e]
      exact this)
  have HB2 : Hid (Below w.heap.size w (w1.alloc (Obj.cells #[.int .i64 0, .string ⟨#[49]⟩] 38))) := hide (HB1.out.alloc HB1.out.size _)
  have H2 := hide (H1.out.allocs (Obj.cells #[.int .i64 0, .string ⟨#[49]⟩] 38))
  go_upto_region 4 with (fail)
  generalize w1.alloc (Obj.cells #[.int .i64 0, .string ⟨#[49]⟩] 38) = w2 at HO0 HB2 H2 ⊢
  generalize w1.heap.size = g1 at HO0 ⊢
  clear HB1 H1
  go_wp2
  go_loopw [6, 7] (fun t6 t7 wr => ∃ (i : Nat) (A6 : Option Addr) (n6 c6 : Nat), i ≤ m ∧ t7 = .int .i64 i ∧ t6 = .slice A6 n6 c6 ∧ RowO wr w.heap.size A6 n6 c6 (fun v => (sums17 tape i).count v) ∧ Below w.heap.size w wr ∧ RI wr wr.heap.size A L tape) (fun _ t7 _ => m - (intOf t7).toNat)
  case atStart => exact ⟨0, _, 1, 1, Nat.zero_le _, rfl, rfl, HO0.out, HB2.out, H2.out⟩
  case round =>
    clear HO0 HB2 H2
    obtain ⟨i, A6, n6, c6, hi, rfl, rfl, hrow, hbel, hri⟩ := hrel
    have HRW := hide hrow
    have HB := hide hbel
    have HRI := hide hri
    clear hrow hbel hri
    by_cases him : i < m
    · obtain ⟨l, hn6, hord, hown, _⟩ := HRW.out
      have hld := ord_dist HT.out hord
      have HRD : Hid (RD wr wr.heap.size A6 n6 l) := hide hown.reads
      have hlen6 : n6 ≤ 601 := by rw [hn6, hld]; exact dist_len_le tape (by omega)
      have HN6 := hide hn6
      have HLD := hide hld
      have hsup : (supp17 tape i).length = n6 := by rw [hn6, hld]; unfold dist17; rw [List.length_map]
      have HSUP := hide hsup
      clear hown hord hn6 hld hsup HRW
      obtain ⟨wo, hwo⟩ : ∃ wo : World, wo = wr := ⟨_, rfl⟩
      subst hwo
      have HSZ := hide HB.out.size
      go_wp2
      go_loopw [8, 9] (fun t8 t9 wr => ∃ (k : Nat) (A8 : Option Addr) (n8 c8 : Nat), k ≤ n6 ∧ t9 = .int .i64 k ∧ t8 = .slice A8 n8 c8 ∧ RowO wr wo.heap.size A8 n8 c8 (part17 tape i (leftK (supp17 tape i) k)) ∧ Below wo.heap.size wo wr) (fun _ t9 _ => n6 - (intOf t9).toNat)
      case atStart => exact ⟨0, none, 0, 0, Nat.zero_le _, rfl, rfl, ⟨[], rfl, ord_ext ord_nil (fun v => (upto17_start tape i v).symm), Own.nil _ _ _ _, fun _ => ⟨rfl, rfl⟩⟩, Below.refl _ _⟩
      case round =>
        obtain ⟨k, A8, n8, c8, hk, rfl, rfl, hrow, hbel⟩ := hrel
        have HRW := hide hrow
        have HBK := hide hbel
        clear hrow hbel
        by_cases hkn : k < n6
        · obtain ⟨wk, hwk⟩ : ∃ wk : World, wk = wr := ⟨_, rfl⟩
          subst hwk
          have hks : k < (supp17 tape i).length := by rw [HSUP.out]; exact hkn
          have HKS := hide hks
          have hdf := dist_fst (tape := tape) (n := i) (k := k) (by rw [← HLD.out, ← HN6.out]; exact hkn)
          obtain ⟨b1, o1, hA6, hb1, x0, x1⟩ := HRD.out.at_ hkn
          rw [HLD.out, hdf.1] at x0
          rw [HLD.out, hdf.2] at x1
          subst hA6
          have hvb : -300 ≤ nth (supp17 tape i) k ∧ nth (supp17 tape i) k ≤ 300 := by
            have := dist_val_bd HT.out (n := i) (by omega) (k := k) (by rw [← HLD.out, ← HN6.out]; exact hkn)
            rw [hdf.1] at this
            exact this
          have hc0 : (sums17 tape i).count (nth (supp17 tape i) k) ≠ 0 := by
            have hm2 : nth (supp17 tape i) k ∈ supp17 tape i := by rw [nth_eq hks]; exact List.getElem_mem hks
            have := List.count_pos_iff.2 ((supp17_mem HT.out).1 hm2)
            omega
          have hc1 : (sums17 tape i).count (nth (supp17 tape i) k) < 500000000 := by
            have := count_bd (tape := tape) (by rw [← HL.out]; exact t9) (n := i) (by omega) (nth (supp17 tape i) k)
            omega
          have UB := hide (fun j v => upto17_bd HT.out (by rw [← HL.out]; exact t9) (i := i) (by omega) hks j v)
          have ULEN := hide (fun j (l8 : List (Int × Nat)) (h : OrdL l8 (upto17 tape i k j)) => upto17_len HT.out (i := i) (k := k) (j := j) (by omega) hks h)
          have USTEP := hide (fun j (hj : j < tape.length) => upto17_step (tape := tape) (i := i) (k := k) hj)
          have UFULL := hide (fun v => upto17_full (tape := tape) (i := i) hks v)
          have UZERO := hide (fun v => upto17_zero tape i k v)
          rw [← HL.out] at USTEP UFULL
          have hunf : ∀ _ : Nat, cnt17 tape i (nth (supp17 tape i) k) = (sums17 tape i).count (nth (supp17 tape i) k) := fun _ => rfl
          rw [hunf 0] at x1
          generalize upto17 tape i k = U at UB ULEN USTEP UFULL UZERO
          generalize (sums17 tape i).count (nth (supp17 tape i) k) = cnt at x1 hc0 hc1 USTEP
          generalize nth (supp17 tape i) k = s at x0 hvb USTEP
          clear hdf hunf
          go_wp2
          go_loopw [8, 10] (fun t8 t10 wr => ∃ (j : Nat) (A8 : Option Addr) (n8 c8 : Nat), j ≤ L ∧ t10 = .int .i64 j ∧ t8 = .slice A8 n8 c8 ∧ RowO wr wo.heap.size A8 n8 c8 (U j) ∧ Below wo.heap.size wo wr) (fun _ t10 _ => L - (intOf t10).toNat)
          case atStart => exact ⟨0, A8, n8, c8, Nat.zero_le _, rfl, rfl, HRW.out.ext UZERO.out, HBK.out⟩
          case round =>
            clear HRW HBK
            obtain ⟨j, A8, n8, c8, hj, rfl, rfl, hrow, hbel⟩ := hrel
            have HBJ := hide hbel
            obtain ⟨l8, hn8, hord8, hown8, hnn8⟩ := hrow
            have HORD8 := hide hord8
            clear hbel
            by_cases hjL : j < L
            · obtain ⟨b2, o2, hA, hb2, y0⟩ := HRI.out.at_ hjL
              subst hA
              have htb : -50 ≤ nth tape j ∧ nth tape j ≤ 50 := nth_in HT.out (by rw [← HL.out]; exact hjL)
              have hst := USTEP.out j hjL
              generalize nth tape j = t at y0 htb hst
              have hl8 := ULEN.out j l8 hord8
              have HPUT := hide (put17_any A8 c8 n8 l8 (U j) (s + t) cnt wo.heap.size wr.drew (hown8.below (Below.drew (Below.refl _ _))) hn8 hord8 hnn8 HBJ.out.size (by rw [hn8]; exact hl8) hc1 hc0 (fun x => by have := UB.out j x; omega))
              have KEEP : Hid (∀ W, Below wo.heap.size wo W → W.cell? ⟨b1, o1 + k * 2, none⟩ = some (.int .i64 s) ∧ W.cell? ⟨b1, o1 + k * 2 + 1, none⟩ = some (.string (NS cnt)) ∧ W.cell? ⟨b2, o2 + j, none⟩ = some (.int .i64 t)) := hide (fun W hW => ⟨(hW.cell (p := ⟨b1, o1 + k * 2, none⟩) hb1).trans x0, (hW.cell (p := ⟨b1, o1 + k * 2 + 1, none⟩) hb1).trans x1, (hW.cell (p := ⟨b2, o2 + j, none⟩) hb2).trans y0⟩)
              have K5 := hide (KEEP.out wr.drew (HBJ.out.drew))
              obtain ⟨z0, z1, z2⟩ := KEEP.out wr HBJ.out
              have hw : IntKind.i64.wrap (s + t) = s + t := IntWalk.i64_in _ (by omega)
              have g1 : (0 : Int) ≤ (k : Int) := by omega
              have g2 : (k : Int) < (n6 : Int) := by omega
              have g3 : (0 : Int) ≤ (j : Int) := by omega
              have g4 : (j : Int) < (L : Int) := by omega
              have HST := hide hst
              clear hown8 hn8 hord8 hnn8 hl8 hst y0
              go_upto_region 14 with (fail)
              go_region_held3 (fun w' => w'.cell? ⟨b1, o1 + k * 2, none⟩ = some (.int .i64 s) ∧ w'.cell? ⟨b1, o1 + k * 2 + 1, none⟩ = some (.string (NS cnt)) ∧ w'.cell? ⟨b2, o2 + j, none⟩ = some (.int .i64 t))
                (first | go_keep | exact K5.out | exact K6.out)
                (first
                  | (go_at_call 26; refine HPUT.out.mono ?_; rintro en w6 ⟨A9, n9, c9, l9, rfl, hn9, hord9, hown9, hb9⟩; have HO9 := hide hown9; have HORD9 := hide hord9; have HN9 := hide hn9; have B9 : Hid (Below wo.heap.size wo w6) := hide ((HBJ.out.drew).trans hb9); have K6 := hide (KEEP.out w6 B9.out); clear hn9 hord9 hown9 hb9))
              have hne := plus17_pos hc0 HORD9.out
              have HNE := hide (show n9 ≠ 0 by rw [HN9.out]; exact hne)
              clear K5 K6 KEEP z0 z1 z2 HPUT hne
              go_wp2
              go_roundw
              case rel => exact ⟨j + 1, A9, n9, c9, by omega, by go_num, rfl, ⟨l9, HN9.out, by rw [HST.out]; exact HORD9.out, HO9.out, fun h0 => absurd h0 HNE.out⟩, B9.out⟩
              case measure => simp [intOf] <;> omega
            · obtain rfl : j = L := by omega
              have HRW : Hid (RowO wr wo.heap.size A8 n8 c8 (part17 tape i (leftK (supp17 tape i) (k + 1)))) := hide (RowO.ext ⟨l8, hn8, hord8, hown8, hnn8⟩ UFULL.out)
              clear hown8 hn8 hord8 hnn8 HORD8 x0 x1
              go_wp2
              go_roundw
              case rel => exact ⟨k + 1, A8, n8, c8, by omega, by go_num, rfl, HRW.out, HBJ.out⟩
              case measure => simp [intOf] <;> omega
        · obtain rfl : k = n6 := by omega
          have HE := hide (show RowO wr wo.heap.size A8 n8 c8 (fun v => (sums17 tape (i + 1)).count v) from HRW.out.ext (fun v => by
            rw [← HSUP.out]
            exact part17_end HT.out (leftK_end (L := supp17 tape i)) v))
          have HE2 : Hid (RowO wr w.heap.size A8 n8 c8 (fun v => (sums17 tape (i + 1)).count v)) := hide (by
            obtain ⟨l8, h1, h2, h3, h4⟩ := HE.out
            exact ⟨l8, h1, h2, h3.lower HSZ.out, h4⟩)
          have HB3 := hide (HB.out.trans (HBK.out.mono HSZ.out))
          have HRI3 := hide (HRI.out.next HBK.out)
          clear HE HRW HBK HRD
          go_wp2
          go_roundw
          case rel => exact ⟨i + 1, A8, n8, c8, by omega, by go_num, rfl, HE2.out, HB3.out, HRI3.out⟩
          case measure => simp [intOf] <;> omega
    · obtain rfl : i = m := by omega
      obtain ⟨l, hn6, hord, hown, _⟩ := HRW.out
      have hld := ord_dist HT.out hord
      have HRD : Hid (RD wr wr.heap.size A6 n6 l) := hide hown.reads
      have HLD := hide hld
      have HN6 := hide hn6
      clear hown hord hn6 hld HRW
      go_wp2
      go_ret2
      refine ⟨A6, c6, ?_, ?_, HB.out⟩
      · rw [← HLD.out, ← HN6.out]
        rfl
      · rw [← HLD.out, ← HN6.out]
        exact HRD.out
end Go.Proofs.YtlkgoljpjeieiaaGreatDoor

set_option linter.unusedVariables false
set_option linter.unusedSimpArgs false
namespace Go.Proofs.YtlkgoljpjeieiaaGreatDoor
open Go.RowKit Go.Deep Go.Maps

set_option maxRecDepth 100000 in
theorem rdist_err (A : Option Addr) (ca : Nat) (tape : List Int) (n : Int) (w : World) (h : RI w w.heap.size A tape.length tape) (hm : tape.length ≤ maxLen) (hv : valid17 tape = false ∨ n < 0 ∨ 40 < n) :
    Calls Tryz.prog 12 #[.slice A tape.length ca, .int .i64 n] w fun en w' => en = .returned (.tuple #[.slice none 0 0, .int .i64 1]) ∧ Below w.heap.size w w' := by
  have HV := hide (rvalid17_any A ca tape w h hm)
  unfold maxLen at hm
  clear h
  go_enter Tryz.func12, Tryz.ntmps12
  go_wp2_with fail
  refine HV.out.mono ?_
  rintro en w' ⟨rfl, q1, hw1⟩
  have HB : Hid (Below w.heap.size w w') := hide (by rw [hw1]; exact drewN_below _ _ _)
  clear hw1
  cases hva : valid17 tape
  · go_wp2
    go_ret2
    exact ⟨rfl, HB.out⟩
  · rw [hva] at hv
    have hv : n < 0 ∨ 40 < n := hv.resolve_left (by decide)
    by_cases h0 : n < 0
    · go_wp2
      go_ret2
      exact ⟨rfl, HB.out⟩
    · have h4 : 40 < n := hv.resolve_left h0
      go_wp2
      go_ret2
      exact ⟨rfl, HB.out⟩
set_option maxHeartbeats 1000000 in
set_option maxRecDepth 100000 in
theorem rtail_err (A : Option Addr) (ca : Nat) (tape : List Int) (n b : Int) (w : World) (h : RI w w.heap.size A tape.length tape) (hm : tape.length ≤ maxLen) (hv : valid17 tape = false ∨ n < 0 ∨ 40 < n) :
    Calls Tryz.prog 14 #[.slice A tape.length ca, .int .i64 n, .int .i64 b] w fun en w' => en = .returned (.tuple #[.agg #[.bool false, .string ⟨#[]⟩, .string ⟨#[]⟩], .int .i64 1]) ∧ Below w.heap.size w w' := by
  have hb1 : Below w.heap.size w (w.alloc (Obj.cells #[.bool false, .string ⟨#[]⟩, .string ⟨#[]⟩] 31)) := (Below.refl _ _).alloc (Nat.le_refl _) _
  have HB1 := hide hb1
  have HK1 := hide (Blk.new w 31 #[.bool false, .string ⟨#[]⟩, .string ⟨#[]⟩])
  have HD := hide (rdist_err A ca tape n (w.alloc (Obj.cells #[.bool false, .string ⟨#[]⟩, .string ⟨#[]⟩] 31)) (h.allocs _) hm hv)
  clear h hb1 hv
  unfold maxLen at hm
  go_enter Tryz.func14, Tryz.ntmps14
  go_wp2_with fail
  generalize w.alloc (Obj.cells #[.bool false, .string ⟨#[]⟩, .string ⟨#[]⟩] 31) = w1 at HB1 HK1 HD ⊢
  obtain ⟨g, hgq⟩ : ∃ g, g = w.heap.size := ⟨_, rfl⟩
  have HQ := hide hgq
  rw [← hgq] at HB1 HK1 ⊢
  clear hgq
  refine HD.out.mono ?_
  rintro en w2 ⟨rfl, hb2⟩
  have HB2 := hide (HB1.out.trans (hb2.mono (Nat.le_of_lt HK1.out.lt)))
  have hk2 := HK1.out.below hb2 HK1.out.lt
  have c0 : w2.cell? ⟨g, 0, none⟩ = some (.bool false) := hk2.cell 0
  have c1 : w2.cell? ⟨g, 1, none⟩ = some (.string ⟨#[]⟩) := hk2.cell 1
  have c2 : w2.cell? ⟨g, 2, none⟩ = some (.string ⟨#[]⟩) := hk2.cell 2
  have f0 := hk2.frozen 0
  have f1 := hk2.frozen 1
  have f2 := hk2.frozen 2
  have hk4b : w2.heap[g]? = some (.cells #[.bool false, .string ⟨#[]⟩, .string ⟨#[]⟩] 31 (0, 0)) := hk2
  have SET := hide (set3 hk2 (.bool false) (.string ⟨#[]⟩) (.string ⟨#[]⟩))
  have HBS := hide (below3 HB2.out (g := g) (Nat.le_refl _) (.bool false) (.string ⟨#[]⟩) (.string ⟨#[]⟩))
  clear hb2 HB2 HB1 HK1 HD hk2
  go_wp2
  refine bodyPost_ret (results_cell1 rfl _ _ g 31 _ (0, 0) _ rfl SET.out Tryz.underlying31 rfl (by kernel_rfl)) rfl ?_
  exact ⟨rfl, by rw [← HQ.out]; exact HBS.out⟩
set_option maxHeartbeats 1000000 in
set_option maxRecDepth 100000 in
theorem rtail_ok (A : Option Addr) (ca : Nat) (tape : List Int) (n : Nat) (b : Int) (w : World) (h : RI w w.heap.size A tape.length tape) (hv : valid17 tape = true) (hn : n ≤ 6) (hp : Pow w) :
    Calls Tryz.prog 14 #[.slice A tape.length ca, .int .i64 n, .int .i64 b] w fun en w' => en = .returned (.tuple #[RV false (low17 (someT (dist17 tape n) b) (allT (dist17 tape n))), .int .i64 0]) ∧ Below w.heap.size w w' := by
  obtain ⟨t1, t9, ht⟩ := valid17_ok hv
  have HP := hide hp
  obtain ⟨ha1, ha2⟩ := allT_dist ht t1 t9 hn
  have hb1 : Below w.heap.size w (w.alloc (Obj.cells #[.bool false, .string ⟨#[]⟩, .string ⟨#[]⟩] 31)) := (Below.refl _ _).alloc (Nat.le_refl _) _
  have HB1 := hide hb1
  have HK1 := hide (Blk.new w 31 #[.bool false, .string ⟨#[]⟩, .string ⟨#[]⟩])
  have hd0 := rdist_ok A ca tape n (w.alloc (Obj.cells #[.bool false, .string ⟨#[]⟩, .string ⟨#[]⟩] 31)) (h.allocs _) hv hn
  unfold DistPost at hd0
  obtain ⟨l, hl⟩ : ∃ l, l = dist17 tape n := ⟨_, rfl⟩
  have hlb : (dist17 tape n).length ≤ 601 := by
    unfold dist17 supp17
    rw [List.length_map]
    refine Nat.le_trans (List.length_filter_le _ _) ?_
    rw [List.length_map, List.length_range]
    omega
  rw [← hl] at hd0 ha1 ha2 hlb ⊢
  have HD := hide hd0
  have HALL : Hid (∀ j, allT (l.take j) ≤ 531441 ∧ someT (l.take j) b ≤ 531441) := hide (fun j => by
    have h1 := allT_le l j
    have h2 := someT_le (l.take j) b
    omega)
  clear h hb1 hv ht hp hd0 hl
  go_enter Tryz.func14, Tryz.ntmps14
  go_wp2_with fail
  generalize w.alloc (Obj.cells #[.bool false, .string ⟨#[]⟩, .string ⟨#[]⟩] 31) = w1 at HB1 HK1 HD ⊢
  obtain ⟨g, hgq⟩ : ∃ g, g = w.heap.size := ⟨_, rfl⟩
  have HQ := hide hgq
  rw [← hgq] at HB1 HK1 ⊢
  clear hgq
  refine HD.out.mono ?_
  rintro en w2 ⟨A2, c2, rfl, hrd, hb2⟩
  have HRD := hide hrd
  have HB2 := hide (HB1.out.trans (hb2.mono (Nat.le_of_lt HK1.out.lt)))
  have HK2 := hide (HK1.out.below hb2 HK1.out.lt)
  obtain ⟨N, hN⟩ : ∃ N, N = l.length := ⟨_, rfl⟩
  have HN := hide hN
  rw [← hN] at HRD hlb ⊢
  clear hrd hb2 HB1 HK1 HD hN
  go_wp2
  rw [← ns_zero]
  go_loopw [10, 11, 12] (fun t10 t11 t12 wr => ∃ j : Nat, j ≤ N ∧ t12 = .int .i64 j ∧ t11 = .string (NS (someT (l.take j) b)) ∧ t10 = .string (NS (allT (l.take j))) ∧ Below w2.heap.size w2 wr) (fun _ _ t12 _ => N - (intOf t12).toNat)
  case atStart => exact ⟨0, Nat.zero_le _, rfl, rfl, rfl, Below.refl _ _⟩
  case round =>
    obtain ⟨j, hj, rfl, rfl, rfl, hbr⟩ := hrel
    have HBR := hide hbr
    clear hbr
    obtain ⟨hs1, hs2⟩ := HALL.out j
    by_cases hjl : j < N
    · obtain ⟨b2, o2, rfl, hb2, x0, x1⟩ := HRD.out.at_ hjl
      have x1' := (HBR.out.cell (p := ⟨b2, o2 + j * 2 + 1, none⟩) hb2).trans x1
      have KEEP : Hid (∀ W, Below wr.heap.size wr W → W.cell? ⟨b2, o2 + j * 2, none⟩ = some (.int .i64 (dAt l j).1) ∧ W.cell? ⟨b2, o2 + j * 2 + 1, none⟩ = some (.string (NS (dAt l j).2))) := hide (fun W hW => ⟨(hW.cell (p := ⟨b2, o2 + j * 2, none⟩) (Nat.lt_of_lt_of_le hb2 HBR.out.size)).trans ((HBR.out.cell (p := ⟨b2, o2 + j * 2, none⟩) hb2).trans x0), (hW.cell (p := ⟨b2, o2 + j * 2 + 1, none⟩) (Nat.lt_of_lt_of_le hb2 HBR.out.size)).trans x1'⟩)
      obtain ⟨hs3, hs4⟩ := HALL.out (j + 1)
      have htk := take_snocO (l := l) (j := j) (by rw [← HN.out]; exact hjl)
      rw [htk, allT_snoc] at hs3
      rw [htk, someT_snoc] at hs4
      have HTK := hide htk
      clear x0 x1 htk
      have x1 := x1'
      clear x1'
      generalize dAt l j = p at x1 hs3 hs4 HTK KEEP
      have HA2 : Hid (allT (l.take (j + 1)) = allT (l.take j) + p.2 ∧ someT (l.take (j + 1)) b = someT (l.take j) b + if b ≤ p.1 then p.2 else 0) := hide (by rw [HTK.out]; exact ⟨allT_snoc _ _, someT_snoc _ _ _⟩)
      generalize allT (l.take j) = al at hs1 hs3 HA2 ⊢
      generalize someT (l.take j) b = so at hs2 hs4 HA2 ⊢
      have HAD := hide (radd03_any al p.2 wr (by omega) (by omega))
      go_wp2_with fail
      refine HAD.out.mono ?_
      rintro en w6 ⟨rfl, hb6⟩
      have HB6 := hide (HBR.out.trans (hb6.mono HBR.out.size))
      obtain ⟨z0, z1⟩ := KEEP.out w6 hb6
      clear hb6 HAD x1 KEEP
      by_cases hle : b ≤ p.1
      · rw [if_pos hle] at hs4 HA2
        have HAD2 := hide (radd03_any so p.2 w6 (by omega) (by omega))
        have d1 : decide (b ≤ p.1) = true := decide_eq_true hle
        go_wp2_with fail
        refine HAD2.out.mono ?_
        rintro en w7 ⟨rfl, hb7⟩
        have HB7 := hide (HB6.out.trans (hb7.mono HB6.out.size))
        clear hb7 HAD2 z0 z1
        go_wp2
        go_roundw
        case rel => exact ⟨j + 1, by omega, by go_num, by rw [HA2.out.2], by rw [HA2.out.1], HB7.out⟩
        case measure => simp [intOf] <;> omega
      · rw [if_neg hle] at hs4 HA2
        have d1 : decide (b ≤ p.1) = false := decide_eq_false hle
        go_wp2
        go_roundw
        case rel => exact ⟨j + 1, by omega, by go_num, by rw [HA2.out.2, Nat.add_zero], by rw [HA2.out.1], HB6.out⟩
        case measure => simp [intOf] <;> omega
    · obtain rfl : j = N := by omega
      have htl : l.take j = l := by rw [HN.out]; exact List.take_length
      rw [htl]
      have hs5 : someT l b ≤ 531441 := by rw [← htl]; exact hs2
      have HB4 := hide (HB2.out.trans (HBR.out.mono (by have := HK2.out.lt; omega)))
      have HK4 := hide (HK2.out.below HBR.out HK2.out.lt)
      have HM := hide (make04_any (someT l b) (allT l) wr (by omega) (by omega) ha2 (HP.out.below HB4.out (by rw [HQ.out]; exact HP.out.lt)))
      clear HK2 HB2 HBR HRD htl hs1 hs2 hs5
      go_wp2_with fail
      refine HM.out.mono ?_
      rintro en w5 ⟨rfl, hb5⟩
      have hk5 := HK4.out.below hb5 HK4.out.lt
      have HB5 := hide (HB4.out.trans (hb5.mono (Nat.le_of_lt HK4.out.lt)))
      have c0 : w5.cell? ⟨g, 0, none⟩ = some (.bool false) := hk5.cell 0
      have c1 : w5.cell? ⟨g, 1, none⟩ = some (.string ⟨#[]⟩) := hk5.cell 1
      have c2 : w5.cell? ⟨g, 2, none⟩ = some (.string ⟨#[]⟩) := hk5.cell 2
      have f0 := hk5.frozen 0
      have f1 := hk5.frozen 1
      have f2 := hk5.frozen 2
      have hk4b : w5.heap[g]? = some (.cells #[.bool false, .string ⟨#[]⟩, .string ⟨#[]⟩] 31 (0, 0)) := hk5
      have SET := hide (set3 hk5 (.bool false) (.string (NS (low17 (someT l b) (allT l)).1)) (.string (NS (low17 (someT l b) (allT l)).2)))
      have HBS := hide (below3 HB5.out (g := g) (Nat.le_refl _) (.bool false) (.string (NS (low17 (someT l b) (allT l)).1)) (.string (NS (low17 (someT l b) (allT l)).2)))
      clear hb5 HB5 HM hk5 HK4 HB4
      unfold RV
      go_wp2
      refine bodyPost_ret (results_cell1 rfl _ _ g 31 _ (0, 0) _ rfl SET.out Tryz.underlying31 rfl (by kernel_rfl)) rfl ?_
      exact ⟨rfl, by rw [← HQ.out]; exact HBS.out⟩
end Go.Proofs.YtlkgoljpjeieiaaGreatDoor

set_option linter.unusedVariables false
set_option linter.unusedSimpArgs false
namespace Go.Proofs.YtlkgoljpjeieiaaGreatDoor
open Go.RowKit Go.Deep Go.Maps

set_option maxHeartbeats 2000000 in
set_option maxRecDepth 100000 in
theorem matches_ok (A : Option Addr) (ca : Nat) (tape : List Int) (m : Nat) (b : Int) (w : World) (h : RI w w.heap.size A tape.length tape) (hm : tape.length ≤ maxLen) (hp : Pow w) (hf : few17 tape.length m = true) (hv : valid17 tape = true) (hm6 : m ≤ 6) :
    Calls Tryz.prog 3 #[.slice A tape.length ca, .int .i64 m, .int .i64 b] w fun en w' => en = .returned (.bool true) ∧ Below w.heap.size w w' := by
  have H := hide h
  have HP := hide hp
  have HM := hide hm
  obtain ⟨t1, t9, ht⟩ := valid17_ok hv
  have D1 := hide (fun (W : World) (h : RI W W.heap.size A tape.length tape) (hp : Pow W) => dist_ok A ca tape m W h hv hm6 hp)
  have D2 := hide (fun (W : World) (h : RI W W.heap.size A tape.length tape) => rdist_ok A ca tape m W h hv hm6)
  have D3 := hide (fun (W : World) (h : RI W W.heap.size A tape.length tape) (hp : Pow W) => tail_ok A ca tape m b W h hv hm6 hp)
  have D4 := hide (fun (W : World) (h : RI W W.heap.size A tape.length tape) (hp : Pow W) => rtail_ok A ca tape m b W h hv hm6 hp)
  have V1 := hide (fun (W : World) (h : RI W W.heap.size A tape.length tape) => nv17_any A ca tape W h HM.out)
  have V2 := hide (fun (W : World) (h : RI W W.heap.size A tape.length tape) => rvalid17_any A ca tape W h HM.out)
  rw [hv] at V1 V2
  unfold DistPost at D1 D2
  have LA := dist_len_le tape (n := m) hm6
  have CA := hide (dist_cnt_bd ht t9 (n := m) hm6)
  obtain ⟨x1, y1, e1⟩ : ∃ x y, low17 (someT (dist17 tape m) b) (allT (dist17 tape m)) = (x, y) := ⟨_, _, rfl⟩
  rw [e1] at D3 D4
  unfold RV at D3 D4
  generalize dist17 tape m = l at D1 D2 LA CA
  unfold maxLen at hm
  clear h hp e1 ht t1 t9 hv
  go_enter Tryz.func3, Tryz.ntmps3
  go_wp2_with fail
  refine (head17_any w HP.out).mono ?_
  rintro en w1 ⟨rfl, hb1⟩
  have HB1 := hide hb1
  have HP1 := hide (HP.out.below hb1 HP.out.lt)
  have H1 := hide (H.out.next hb1)
  clear hb1 H HP
  go_wp2_with fail
  refine (few17_any A ca tape.length m w1 HM.out).mono ?_
  rintro en w' ⟨rfl, hw⟩
  subst hw
  rw [hf]
  go_wp2_with fail
  refine (D1.out _ H1.out HP1.out).mono ?_
  rintro en w2 ⟨A2, c2, rfl, hrd, hb2⟩
  have R2 := hide hrd
  have HB2 := hide (HB1.out.trans (hb2.mono HB1.out.size))
  have HP2 := hide (HP1.out.below hb2 HP1.out.lt)
  have H2 := hide (H1.out.next hb2)
  clear hrd hb2 D1 H1 HP1 HB1
  go_wp2_with fail
  refine (D2.out _ H2.out).mono ?_
  rintro en w3 ⟨A3, c3, rfl, hrd, hb3⟩
  have R3 := hide hrd
  have R2b := hide (R2.out.next hb3)
  have HB3 := hide (HB2.out.trans (hb3.mono HB2.out.size))
  have HP3 := hide (HP2.out.below hb3 HP2.out.lt)
  have H3 := hide (H2.out.next hb3)
  clear hrd hb3 D2 H2 HP2 HB2 R2
  go_wp2_with fail
  refine (D3.out _ H3.out HP3.out).mono ?_
  rintro en w4 ⟨rfl, hb4⟩
  have hal : Below w4.heap.size w4 (w4.alloc (.cells #[.bool false, .string (NS x1), .string (NS y1)] 31)) := (Below.refl _ _).alloc (Nat.le_refl _) _
  have hb4' := hb4.trans (hal.mono hb4.size)
  have K4 := hide (Blk.new w4 31 #[.bool false, .string (NS x1), .string (NS y1)])
  have HB4 := hide (HB3.out.trans (hb4'.mono HB3.out.size))
  have HP4 := hide (HP3.out.below hb4' HP3.out.lt)
  have H4 := hide (H3.out.next hb4')
  have R24 := hide (R2b.out.next hb4')
  have R34 := hide (R3.out.next hb4')
  clear hb4 hal hb4' D3 H3 HP3 HB3 R2b R3
  go_upto_region 7 with (fail)
  generalize w4.alloc (.cells #[.bool false, .string (NS x1), .string (NS y1)] 31) = w5 at K4 HB4 HP4 H4 R24 R34 ⊢
  generalize w4.heap.size = g4 at K4 ⊢
  go_wp2_with fail
  refine (D4.out _ H4.out HP4.out).mono ?_
  rintro en w6 ⟨rfl, hb6⟩
  have hal : Below w6.heap.size w6 (w6.alloc (.cells #[.bool false, .string (NS x1), .string (NS y1)] 31)) := (Below.refl _ _).alloc (Nat.le_refl _) _
  have hb6' := hb6.trans (hal.mono hb6.size)
  have K6 := hide (Blk.new w6 31 #[.bool false, .string (NS x1), .string (NS y1)])
  have K4b := hide (K4.out.below hb6' K4.out.lt)
  have HB6 := hide (HB4.out.trans (hb6'.mono HB4.out.size))
  have H6 := hide (H4.out.next hb6')
  have R26 := hide (R24.out.next hb6')
  have R36 := hide (R34.out.next hb6')
  clear hb6 hal hb6' D4 H4 HP4 HB4 R24 R34 K4
  go_upto_region 8 with (fail)
  generalize w6.alloc (.cells #[.bool false, .string (NS x1), .string (NS y1)] 31) = w7 at K6 K4b HB6 H6 R26 R36 ⊢
  generalize w6.heap.size = g6 at K6 ⊢
  go_wp2_with fail
  refine (V1.out _ H6.out).mono ?_
  rintro en wv ⟨rfl, hw8⟩
  subst hw8
  go_wp2_with fail
  refine (V2.out _ H6.out).mono ?_
  rintro en w8 ⟨rfl, q8, hw8⟩
  have B8 : Hid (Below wv.heap.size wv w8) := hide (by rw [hw8]; exact drewN_below _ _ _)
  have HB8 := hide (HB6.out.trans (B8.out.mono HB6.out.size))
  have R28 := hide (R26.out.next B8.out)
  have R38 := hide (R36.out.next B8.out)
  have K48 := hide (K4b.out.below B8.out K4b.out.lt)
  have K68 := hide (K6.out.below B8.out K6.out.lt)
  clear hw8 B8 V1 V2 H6 HB6 R26 R36 K4b K6
  go_wp2_with fail
  refine (same17_any A2 A3 c2 c3 l.length l w8 R28.out R38.out (by omega) CA.out).mono ?_
  rintro en w9 ⟨rfl, q9, hw9⟩
  have B9 : Hid (Below w8.heap.size w8 w9) := hide (by rw [hw9]; exact drewN_below _ _ _)
  have HB9 := hide (HB8.out.trans (B9.out.mono HB8.out.size))
  have K49 := K48.out.below B9.out K48.out.lt
  have K69 := K68.out.below B9.out K68.out.lt
  clear hw9 B9 R28 R38 K48 K68 HB8
  have a0 : w9.cell? ⟨g4, 0, none⟩ = some (.bool false) := K49.cell 0
  have a1 : w9.cell? ⟨g4, 1, none⟩ = some (.string (NS x1)) := K49.cell 1
  have a2 : w9.cell? ⟨g4, 2, none⟩ = some (.string (NS y1)) := K49.cell 2
  have b0 : w9.cell? ⟨g6, 0, none⟩ = some (.bool false) := K69.cell 0
  have b1 : w9.cell? ⟨g6, 1, none⟩ = some (.string (NS x1)) := K69.cell 1
  have b2 : w9.cell? ⟨g6, 2, none⟩ = some (.string (NS y1)) := K69.cell 2
  have hk1 : w9.heap[g4]? = some (.cells #[.bool false, .string (NS x1), .string (NS y1)] 31 (0, 0)) := K49
  have hk2 : w9.heap[g6]? = some (.cells #[.bool false, .string (NS x1), .string (NS y1)] 31 (0, 0)) := K69
  clear K49 K69
  go_wp2
  go_ret
  exact ⟨rfl, HB9.out⟩
set_option maxHeartbeats 2000000 in
set_option maxRecDepth 100000 in
theorem matches_err (A : Option Addr) (ca : Nat) (tape : List Int) (n b : Int) (w : World) (h : RI w w.heap.size A tape.length tape) (hm : tape.length ≤ maxLen) (hp : Pow w) (hf : few17 tape.length n = true) (herr : valid17 tape = false ∨ n < 0 ∨ 40 < n) :
    Calls Tryz.prog 3 #[.slice A tape.length ca, .int .i64 n, .int .i64 b] w fun en w' => en = .returned (.bool true) ∧ Below w.heap.size w w' := by
  have H := hide h
  have HP := hide hp
  have HM := hide hm
  have D1 := hide (fun (W : World) (h : RI W W.heap.size A tape.length tape) => dist_err A ca tape n W h HM.out herr)
  have D2 := hide (fun (W : World) (h : RI W W.heap.size A tape.length tape) => rdist_err A ca tape n W h HM.out herr)
  have D3 := hide (fun (W : World) (h : RI W W.heap.size A tape.length tape) => tail_err A ca tape n b W h HM.out herr)
  have D4 := hide (fun (W : World) (h : RI W W.heap.size A tape.length tape) => rtail_err A ca tape n b W h HM.out herr)
  have V1 := hide (fun (W : World) (h : RI W W.heap.size A tape.length tape) => nv17_any A ca tape W h HM.out)
  have V2 := hide (fun (W : World) (h : RI W W.heap.size A tape.length tape) => rvalid17_any A ca tape W h HM.out)
  generalize valid17 tape = vv at V1 V2
  have hvv : (vv == vv) = true := by cases vv <;> rfl
  unfold maxLen at hm
  clear h hp herr
  go_enter Tryz.func3, Tryz.ntmps3
  go_wp2_with fail
  refine (head17_any w HP.out).mono ?_
  rintro en w1 ⟨rfl, hb1⟩
  have HB1 := hide hb1
  have H1 := hide (H.out.next hb1)
  clear hb1 H HP
  go_wp2_with fail
  refine (few17_any A ca tape.length n w1 HM.out).mono ?_
  rintro en w' ⟨rfl, hw⟩
  subst hw
  rw [hf]
  go_wp2_with fail
  refine (D1.out _ H1.out).mono ?_
  rintro en w2 ⟨rfl, hb2⟩
  have HB2 := hide (HB1.out.trans (hb2.mono HB1.out.size))
  have H2 := hide (H1.out.next hb2)
  clear hb2 D1 H1 HB1
  go_wp2_with fail
  refine (D2.out _ H2.out).mono ?_
  rintro en w3 ⟨rfl, hb3⟩
  have HB3 := hide (HB2.out.trans (hb3.mono HB2.out.size))
  have H3 := hide (H2.out.next hb3)
  clear hb3 D2 H2 HB2
  go_wp2_with fail
  refine (D3.out _ H3.out).mono ?_
  rintro en w4 ⟨rfl, hb4⟩
  have hal : Below w4.heap.size w4 (w4.alloc (.cells #[.bool false, .string ⟨#[]⟩, .string ⟨#[]⟩] 31)) := (Below.refl _ _).alloc (Nat.le_refl _) _
  have hb4' := hb4.trans (hal.mono hb4.size)
  have K4 := hide (Blk.new w4 31 #[.bool false, .string ⟨#[]⟩, .string ⟨#[]⟩])
  have HB4 := hide (HB3.out.trans (hb4'.mono HB3.out.size))
  have H4 := hide (H3.out.next hb4')
  clear hb4 hal hb4' D3 H3 HB3
  go_upto_region 7 with (fail)
  generalize w4.alloc (.cells #[.bool false, .string ⟨#[]⟩, .string ⟨#[]⟩] 31) = w5 at K4 HB4 H4 ⊢
  generalize w4.heap.size = g4 at K4 ⊢
  go_wp2_with fail
  refine (D4.out _ H4.out).mono ?_
  rintro en w6 ⟨rfl, hb6⟩
  have hal : Below w6.heap.size w6 (w6.alloc (.cells #[.bool false, .string ⟨#[]⟩, .string ⟨#[]⟩] 31)) := (Below.refl _ _).alloc (Nat.le_refl _) _
  have hb6' := hb6.trans (hal.mono hb6.size)
  have K6 := hide (Blk.new w6 31 #[.bool false, .string ⟨#[]⟩, .string ⟨#[]⟩])
  have K4b := hide (K4.out.below hb6' K4.out.lt)
  have HB6 := hide (HB4.out.trans (hb6'.mono HB4.out.size))
  have H6 := hide (H4.out.next hb6')
  clear hb6 hal hb6' D4 H4 HB4 K4
  go_upto_region 8 with (fail)
  generalize w6.alloc (.cells #[.bool false, .string ⟨#[]⟩, .string ⟨#[]⟩] 31) = w7 at K6 K4b HB6 H6 ⊢
  generalize w6.heap.size = g6 at K6 ⊢
  go_wp2_with fail
  refine (V1.out _ H6.out).mono ?_
  rintro en wv ⟨rfl, hw8⟩
  subst hw8
  go_wp2_with fail
  refine (V2.out _ H6.out).mono ?_
  rintro en w8 ⟨rfl, q8, hw8⟩
  have B8 : Hid (Below wv.heap.size wv w8) := hide (by rw [hw8]; exact drewN_below _ _ _)
  have HB8 := hide (HB6.out.trans (B8.out.mono HB6.out.size))
  have K48 := hide (K4b.out.below B8.out K4b.out.lt)
  have K68 := hide (K6.out.below B8.out K6.out.lt)
  clear hw8 B8 V1 V2 H6 HB6 K4b K6
  go_wp2_with fail
  refine (same17_any none none 0 0 0 [] w8 RD.none_ RD.none_ (by omega) (by simp)).mono ?_
  rintro en w9 ⟨rfl, q9, hw9⟩
  have B9 : Hid (Below w8.heap.size w8 w9) := hide (by rw [hw9]; exact drewN_below _ _ _)
  have HB9 := hide (HB8.out.trans (B9.out.mono HB8.out.size))
  have K49 := K48.out.below B9.out K48.out.lt
  have K69 := K68.out.below B9.out K68.out.lt
  clear hw9 B9 K48 K68 HB8
  have a0 : w9.cell? ⟨g4, 0, none⟩ = some (.bool false) := K49.cell 0
  have a1 : w9.cell? ⟨g4, 1, none⟩ = some (.string ⟨#[]⟩) := K49.cell 1
  have a2 : w9.cell? ⟨g4, 2, none⟩ = some (.string ⟨#[]⟩) := K49.cell 2
  have b0 : w9.cell? ⟨g6, 0, none⟩ = some (.bool false) := K69.cell 0
  have b1 : w9.cell? ⟨g6, 1, none⟩ = some (.string ⟨#[]⟩) := K69.cell 1
  have b2 : w9.cell? ⟨g6, 2, none⟩ = some (.string ⟨#[]⟩) := K69.cell 2
  have hk1 : w9.heap[g4]? = some (.cells #[.bool false, .string ⟨#[]⟩, .string ⟨#[]⟩] 31 (0, 0)) := K49
  have hk2 : w9.heap[g6]? = some (.cells #[.bool false, .string ⟨#[]⟩, .string ⟨#[]⟩] 31 (0, 0)) := K69
  clear K49 K69
  go_wp2
  go_ret
  exact ⟨rfl, HB9.out⟩
set_option maxRecDepth 100000 in
theorem matches_walk (A : Option Addr) (len ca : Nat) (tape : List Int) (n b : Int) (W : World) (hp : Pow W) (h : RI W W.heap.size A len tape) (hm : len ≤ maxLen) (hb : ∀ z ∈ tape, -9223372036854775808 ≤ z ∧ z ≤ 9223372036854775807) (hn : (Lit.int .i64 n).wf = true) (hz : (Lit.int .i64 b).wf = true) :
    Calls Tryz.prog 3 #[.slice A len ca, .int .i64 n, .int .i64 b] W fun en w' => en = .returned (.bool true) ∧ Below W.heap.size W w' := by
  obtain rfl : tape.length = len := h.len
  cases hf : few17 tape.length n
  · go_enter Tryz.func3, Tryz.ntmps3
    go_wp2_with fail
    refine (head17_any W hp).mono ?_
    rintro en w1 ⟨rfl, hb1⟩
    go_wp2_with fail
    refine (few17_any A ca tape.length n w1 hm).mono ?_
    rintro en w' ⟨rfl, hw⟩
    subst hw
    rw [hf]
    clear hf
    go_wp2
    go_ret
    exact ⟨rfl, hb1⟩
  · by_cases hok : valid17 tape = true ∧ 0 ≤ n ∧ n ≤ 40
    · obtain ⟨hv, h0, h40⟩ := hok
      have hn6 : n ≤ 6 := by
        have hf2 := hf
        unfold few17 at hf2
        simp only [Bool.and_eq_true, Bool.or_eq_true, decide_eq_true_eq] at hf2
        omega
      obtain ⟨m, rfl⟩ : ∃ m : Nat, n = m := ⟨n.toNat, by omega⟩
      exact matches_ok A ca tape m b W h hm hp hf hv (by omega)
    · have herr : valid17 tape = false ∨ n < 0 ∨ 40 < n := by
        cases hv : valid17 tape
        · exact .inl rfl
        · by_cases h0 : n < 0
          · exact .inr (.inl h0)
          · by_cases h40 : 40 < n
            · exact .inr (.inr h40)
            · exact absurd ⟨hv, by omega, by omega⟩ hok
      exact matches_err A ca tape n b W h hm hp hf herr
end Go.Proofs.YtlkgoljpjeieiaaGreatDoor
