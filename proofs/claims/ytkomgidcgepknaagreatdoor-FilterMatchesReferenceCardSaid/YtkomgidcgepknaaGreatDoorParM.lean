/-
  Chapter 37: FilterParts.
-/
import Derived.Test.YtkomgidcgepknaaGreatDoorFall
import Derived.Test.YtkomgidcgepknaaGreatDoorApp
set_option linter.unusedVariables false
set_option linter.unusedSimpArgs false
namespace Go.Proofs.YtkomgidcgepknaaGreatDoor
open Go.RowKit Go.Deep Go.Maps

theorem cellsSb_take : ∀ (e : List Sb) (ks : List (Option Addr × Nat)) (k : Nat), ks.length = e.length → (cellsSb e ks).take (k * 4) = cellsSb (e.take k) (ks.take k)
  | [], _, k, _ => by simp [cellsSb]
  | x :: e, [], k, h => by simp at h
  | x :: e, y :: ks, 0, h => by simp [cellsSb]
  | x :: e, y :: ks, k + 1, h => by
    have := cellsSb_take e ks k (by simpa using h)
    rw [show (k + 1) * 4 = k * 4 + 1 + 1 + 1 + 1 by omega]
    simp only [cellsSb, List.take_succ_cons, this]
theorem cellsSb_drop : ∀ (e : List Sb) (ks : List (Option Addr × Nat)) (k : Nat), ks.length = e.length → (cellsSb e ks).drop (k * 4) = cellsSb (e.drop k) (ks.drop k)
  | [], _, k, _ => by simp [cellsSb]
  | x :: e, [], k, h => by simp at h
  | x :: e, y :: ks, 0, h => by simp [cellsSb]
  | x :: e, y :: ks, k + 1, h => by
    have := cellsSb_drop e ks k (by simpa using h)
    rw [show (k + 1) * 4 = k * 4 + 1 + 1 + 1 + 1 by omega]
    simp only [cellsSb, List.drop_succ_cons, this]
section
variable {w : World} {B : Nat} {A : Option Addr} {l : List Sb}
theorem SubsAt.take (h : SubsAt w B A l) {k : Nat} (hk : k ≤ l.length) : SubsAt w B A (l.take k) := by
  obtain ⟨ks, h1, h2, h3⟩ := h
  refine ⟨ks.take k, by simp [h1], ?_, fun i x q hx hq => ?_⟩
  · rw [← cellsSb_take l ks k h1]
    refine ⟨?_, fun hn => ?_⟩
    · rw [List.length_take, List.length_take, h2.1]; omega
    · obtain ⟨ad, e1, e2, e3⟩ := h2.2 (by rw [List.length_take] at hn; omega)
      refine ⟨ad, e1, e2, fun j u hu => e3 j u ?_⟩
      rw [List.getElem?_take] at hu
      split at hu
      · exact hu
      · cases hu
  · rw [List.getElem?_take] at hx hq
    split at hx
    · rename_i hi
      rw [if_pos hi] at hq
      exact h3 i x q hx hq
    · cases hx
theorem SubsAt.drop (h : SubsAt w B A l) {k c : Nat} (hk : k ≤ l.length) (hc : l.length ≤ c) : SubsAt w B (if c = k then A else A.map (·.add (k * 4))) (l.drop k) := by
  obtain ⟨ks, h1, h2, h3⟩ := h
  refine ⟨ks.drop k, by simp [h1], ?_, fun i x q hx hq => ?_⟩
  · rw [← cellsSb_drop l ks k h1]
    have := h2.cut hk hc
    rwa [List.length_drop]
  · rw [List.getElem?_drop] at hx hq
    exact h3 _ x q hx hq
end
theorem sbsOk_take {l : List Sb} (h : SbsOk l) (k : Nat) : SbsOk (l.take k) := fun s hs => h s (List.mem_of_mem_take hs)
theorem sbsOk_drop {l : List Sb} (h : SbsOk l) (k : Nat) : SbsOk (l.drop k) := fun s hs => h s (List.mem_of_mem_drop hs)
/-- A loaded alert. -/
theorem al_hold {w : World} {q : Nat} {a : Al} (h : Blk w q 28 a.cells) : w.cell? ⟨q, 0, none⟩ = some (.int .i64 a.tile) ∧ w.cell? ⟨q, 1, none⟩ = some (.int .i64 a.cell) ∧ w.cell? ⟨q, 2, none⟩ = some (.int .i64 a.filt) ∧ w.cell? ⟨q, 3, none⟩ = some (.int .i64 a.val) ∧ w.cell? ⟨q, 4, none⟩ = some (.int .i64 a.mom) :=
  ⟨h.cell 0, h.cell 1, h.cell 2, h.cell 3, h.cell 4⟩
theorem fmatch_n (A : Option Addr) (n c : Nat) (l : List Sb) (a : Al) (w : World) (hl : l.length = n) (h : SubsAt w w.heap.size A l) (ho : SbsOk l) (hn : n ≤ maxLen) :
    Calls Tryz.prog 13 #[.slice A n c, .agg a.cells] w (FMPost w l a) := by
  subst hl
  exact fmatch_any A c l a w h ho hn
set_option maxRecDepth 100000 in
set_option maxHeartbeats 8000000 in
theorem fparts_any (A : Option Addr) (c : Nat) (l : List Sb) (r : Int) (a : Al) (w : World) (h : SubsAt w w.heap.size A l) (ho : SbsOk l) (hn : l.length ≤ maxLen) (hc : l.length ≤ c) (hr : 0 ≤ r ∧ r < 256) :
    Calls Tryz.prog 5 #[.slice A l.length c, .int .u8 r, .agg a.cells] w fun e w' => e = .returned (.bool true) ∧ Below w.heap.size w w' := by
  have HO := hide ho
  have hb0 : Below w.heap.size w (w.alloc (Obj.cells a.cells 28)) := (Below.refl _ _).alloc (Nat.le_refl _) _
  have hq0 : Blk (w.alloc (Obj.cells a.cells 28)) w.heap.size 28 a.cells := Blk.new _ _ _
  have H := hide (h.next hb0)
  have HN := hide hn
  have HC := hide hc
  have HR := hide hr
  have HB0 := hide hb0
  have HQ0 := hide hq0
  clear h ho hn hb0 hq0 hc hr
  go_enter Tryz.func5, Tryz.ntmps5
  go_wp2_with fail
  generalize w.alloc (Obj.cells a.cells 28) = w0 at H HB0 HQ0 ⊢
  obtain ⟨q, hq⟩ : ∃ q, q = w.heap.size := ⟨_, rfl⟩
  rw [← hq] at HQ0 ⊢
  clear hq
  refine (head37_any w0).mono ?_
  rintro e w1 ⟨rfl, hb1⟩
  have HB1 := hide (HB0.out.trans (hb1.mono HB0.out.size))
  have H1 := hide (H.out.next hb1)
  have HQ1 := hide (HQ0.out.below hb1 HQ0.out.lt)
  clear hb1 H HB0 HQ0
  go_wp2_with fail
  refine (lfew37_any A c l w1 H1.out HO.out HN.out).mono ?_
  rintro e w1' ⟨rfl, rfl⟩
  cases hf : few37 l
  · clear hf
    go_wp2
    go_ret
    exact ⟨rfl, HB1.out⟩
  have HL := hide (few37_len hf)
  clear hf
  obtain ⟨k, hk⟩ : ∃ k, k = r.toNat % (l.length + 1) := ⟨_, rfl⟩
  have HK : Hid (k ≤ l.length) := hide (by rw [hk]; exact Nat.lt_succ_iff.1 (Nat.mod_lt r.toNat (Nat.succ_pos l.length)))
  have hkr : r % ((l.length : Int) + 1) = (k : Int) := by
    obtain ⟨m, rfl⟩ : ∃ m : Nat, r = (m : Int) := ⟨r.toNat, by have := HR.out; omega⟩
    rw [hk]
    rfl
  have hr1 : (0 : Int) ≤ r := HR.out.1
  have hr2 : r < 256 := HR.out.2
  have hll : l.length ≤ 65 := HL.out
  have hkl : k ≤ l.length := HK.out
  have hcl : l.length ≤ c := HC.out
  clear hk
  obtain ⟨c0, c1, c2, c3, c4⟩ := al_hold HQ1.out
  go_wp2_with fail
  rw [hkr]
  clear hkr
  refine (fmatch_any A c l a w1 H1.out HO.out HN.out).mono ?_
  rintro e w2 ⟨A2, c2', rfl, hr2', hb2⟩
  have HR2 := hide hr2'
  have HB2 := hide (HB1.out.trans (hb2.mono HB1.out.size))
  have HQ2 := hide (HQ1.out.below hb2 HQ1.out.lt)
  have H2 := hide (H1.out.next hb2)
  have HF : Hid ((matchF l a).2 = 0 → (matchF (l.take k) a).2 = 0 ∧ (matchF (l.drop k) a).2 = 0 ∧ (matchF l a).1 = (matchF (l.take k) a).1 ++ (matchF (l.drop k) a).1.map (· + (k : Int))) := hide (fun h => matchF_parts h HK.out)
  have HE : Hid ((matchF l a).2 ≠ 0 → (matchF l a).2 = 1) := hide (fun h => by rw [(matchF_err h).1])
  have HML : Hid ((matchF l a).1.length ≤ 65) := hide (Nat.le_trans (matchF_len l a) HL.out)
  generalize matchF l a = mf at HR2 HF HE HML
  obtain ⟨mm, me⟩ := mf
  dsimp only at HR2 HF HE HML ⊢
  clear hr2' hb2 HQ1 HB1 H1 c0 c1 c2 c3 c4
  obtain ⟨c0, c1, c2, c3, c4⟩ := al_hold HQ2.out
  go_wp2_with fail
  have HT2 := hide (H2.out.take HK.out)
  have HTO := hide (sbsOk_take HO.out k)
  have HTE : Hid ((l.take k).length = k) := hide (by rw [List.length_take]; exact Nat.min_eq_left HK.out)
  have HTN : Hid (k ≤ maxLen) := hide (Nat.le_trans HK.out HN.out)
  have k0 : (0 : Int) ≤ (k : Int) := Int.natCast_nonneg k
  have kc : (k : Int) ≤ (c : Int) := Int.ofNat_le.2 (Nat.le_trans HK.out HC.out)
  have kc' : k ≤ c := Nat.le_trans HK.out HC.out
  go_region_held3 (fun w' => w'.cell? ⟨q, 0, none⟩ = some (.int .i64 a.tile) ∧ w'.cell? ⟨q, 1, none⟩ = some (.int .i64 a.cell) ∧ w'.cell? ⟨q, 2, none⟩ = some (.int .i64 a.filt) ∧ w'.cell? ⟨q, 3, none⟩ = some (.int .i64 a.val) ∧ w'.cell? ⟨q, 4, none⟩ = some (.int .i64 a.mom))
    (first | go_keep | exact al_hold HQ2.out | exact al_hold HQ3.out)
    (first
      | (go_at_call 13; refine (fmatch_n A k c (l.take k) a w2.drew HTE.out (HT2.out.next (Below.drew (Below.refl _ _))) HTO.out HTN.out).mono ?_; rintro en w3 ⟨A3, c3', rfl, hr3, b3⟩; have HR3 := hide hr3; have B3 : Hid (Below w2.heap.size w2 w3) := hide (Below.trans (Below.drew (Below.refl _ _)) b3); have HQ3 := hide (HQ2.out.below B3.out HQ2.out.lt); clear hr3 b3))
  have HB3 := hide (HB2.out.trans (B3.out.mono HB2.out.size))
  have H3 := hide (H2.out.next B3.out)
  have HR23 := hide (HR2.out.next B3.out)
  have HP2 : Hid ((matchF (l.take k) a).1.length ≤ 65) := hide (Nat.le_trans (matchF_len _ _) (by rw [HTE.out]; have := HK.out; have := HL.out; omega))
  generalize matchF (l.take k) a = pf at HR3 HF HP2 ⊢
  obtain ⟨pm, pe⟩ := pf
  dsimp only at HR3 HF HP2 ⊢
  clear B3 HQ2 HB2 H2 HT2 HTO HTE HTN HR2 c0 c1 c2 c3 c4
  obtain ⟨c0, c1, c2, c3, c4⟩ := al_hold HQ3.out
  go_wp2_with fail
  have HT2 : Hid (SubsAt w3 w3.heap.size (if c = k then A else A.map (·.add (k * 4))) (l.drop k)) := hide (H3.out.drop HK.out HC.out)
  have HTO := hide (sbsOk_drop HO.out k)
  have HTE : Hid ((l.drop k).length = l.length - k) := hide (by rw [List.length_drop])
  have HTN : Hid (l.length - k ≤ maxLen) := hide (Nat.le_trans (Nat.sub_le _ _) HN.out)
  have kl : (k : Int) ≤ (l.length : Int) := Int.ofNat_le.2 HK.out
  have lc : (l.length : Int) ≤ (c : Int) := Int.ofNat_le.2 HC.out
  go_cut [13, 14] (fun t13 t14 wx => ∃ (A4 : Option Addr) (c4 : Nat), t13 = .slice A4 (matchF (l.drop k) a).1.length c4 ∧ t14 = .int .i64 (matchF (l.drop k) a).2 ∧ RI wx wx.heap.size A4 (matchF (l.drop k) a).1.length (matchF (l.drop k) a).1 ∧ Below w3.heap.size w3 wx)
  case first =>
    by_cases hck : c = k
    · rw [if_pos hck] at HT2
      have hck' : (c = k) = True := eq_true hck
      clear hck
      go_region_held3 (fun w' => w'.cell? ⟨q, 0, none⟩ = some (.int .i64 a.tile) ∧ w'.cell? ⟨q, 1, none⟩ = some (.int .i64 a.cell) ∧ w'.cell? ⟨q, 2, none⟩ = some (.int .i64 a.filt) ∧ w'.cell? ⟨q, 3, none⟩ = some (.int .i64 a.val) ∧ w'.cell? ⟨q, 4, none⟩ = some (.int .i64 a.mom))
        (first | go_keep | exact al_hold HQ3.out | exact al_hold HQ4.out)
        (first
          | (go_at_call 13; refine (fmatch_n A (l.length - k) (c - k) (l.drop k) a w3.drew HTE.out (HT2.out.next (Below.drew (Below.refl _ _))) HTO.out HTN.out).mono ?_; rintro en w4 ⟨A4, c4', rfl, hr4, b4⟩; have HR4 := hide hr4; have B4 : Hid (Below w3.heap.size w3 w4) := hide (Below.trans (Below.drew (Below.refl _ _)) b4); have HQ4 := hide (HQ3.out.below B4.out HQ3.out.lt); clear hr4 b4))
      go_wp2
      go_meet
      exact ⟨A4, c4', rfl, rfl, HR4.out, B4.out⟩
    · rw [if_neg hck] at HT2
      have hck' : (c = k) = False := eq_false hck
      clear hck
      go_region_held3 (fun w' => w'.cell? ⟨q, 0, none⟩ = some (.int .i64 a.tile) ∧ w'.cell? ⟨q, 1, none⟩ = some (.int .i64 a.cell) ∧ w'.cell? ⟨q, 2, none⟩ = some (.int .i64 a.filt) ∧ w'.cell? ⟨q, 3, none⟩ = some (.int .i64 a.val) ∧ w'.cell? ⟨q, 4, none⟩ = some (.int .i64 a.mom))
        (first | go_keep | exact al_hold HQ3.out | exact al_hold HQ4.out)
        (first
          | (go_at_call 13; refine (fmatch_n (A.map (·.add (k * 4))) (l.length - k) (c - k) (l.drop k) a w3.drew HTE.out (HT2.out.next (Below.drew (Below.refl _ _))) HTO.out HTN.out).mono ?_; rintro en w4 ⟨A4, c4', rfl, hr4, b4⟩; have HR4 := hide hr4; have B4 : Hid (Below w3.heap.size w3 w4) := hide (Below.trans (Below.drew (Below.refl _ _)) b4); have HQ4 := hide (HQ3.out.below B4.out HQ3.out.lt); clear hr4 b4))
      go_wp2
      go_meet
      exact ⟨A4, c4', rfl, rfl, HR4.out, B4.out⟩
  case rest =>
  obtain ⟨A4, c4', rfl, rfl, hr4, b4⟩ := hcut
  have HR4 := hide hr4
  have B4 := hide b4
  clear hr4 b4
  generalize wc = w4 at HR4 B4 ⊢
  have HB4 := hide (HB3.out.trans (B4.out.mono HB3.out.size))
  have HR24 := hide (HR23.out.next B4.out)
  have HR34 := hide (HR3.out.next B4.out)
  have HD2 : Hid ((matchF (l.drop k) a).1.length ≤ 65) := hide (Nat.le_trans (matchF_len _ _) (by rw [HTE.out]; have := HL.out; omega))
  have HDB : Hid (∀ x ∈ (matchF (l.drop k) a).1, 0 ≤ x ∧ x ≤ 65) := hide (fun x hx => by have := matchF_bound hx; rw [HTE.out] at this; have := HL.out; omega)
  have HKB : Hid (k ≤ 65) := hide (Nat.le_trans HK.out HL.out)
  generalize matchF (l.drop k) a = df at HR4 HF HD2 HDB ⊢
  obtain ⟨dm, de⟩ := df
  dsimp only at HR4 HF HD2 HDB ⊢
  clear B4 HQ3 HB3 H3 HT2 HTO HTE HTN HR3 HR23 c0 c1 c2 c3 c4 kl lc kc kc' hcl hll hkl hr1 hr2
  by_cases hme : me = 0
  · obtain ⟨rfl, rfl, hmm⟩ := HF.out hme
    subst hme
    have HMM := hide hmm
    clear hmm HE HF
    obtain ⟨i0, hi0, hz0, hz1, hz2⟩ := info_parts int_info
    have HO5 : Hid (Own (w4.alloc (Obj.cells #[] 3)) w4.heap.size 3 1 (some ⟨w4.heap.size, 0, none⟩) 0 0 []) := hide (World.ownsRow_made w4 #[] 0 (Nat.le_refl _) (Nat.zero_le _) rfl)
    have HB5 : Hid (Below w4.heap.size w4 (w4.alloc (Obj.cells #[] 3))) := hide ((Below.refl _ _).alloc (Nat.le_refl _) _)
    have HR5 := hide (HR34.out.allocs (Obj.cells #[] 3))
    have hp0 : 0 + pm.length ≤ maxLen := by have := HP2.out; unfold maxLen; omega
    have hp1 : (0 + pm.length) * 8 ≤ 140737488355328 := by have := HP2.out; omega
    go_wp2_with (at_builtin; refine wpList_app_own (by rfl) (.tmp 57) (.tmp 58) 31 rfl w4.heap.size 3 (.int .i64 0) 1 8 Tryz.underlying31 int_info rfl (by omega) (some ⟨w4.heap.size, 0, none⟩) 0 0 [] rfl HO5.out _ _ pm.length _ (ints pm) rfl HR5.out (ints_oneCell _) hp0 hp1 HB5.out.size ?_; intro A6 c6 w6 hown6 hb6; have HO6 := hide hown6; have HB6 := hide (HB5.out.trans hb6); clear hown6 hb6)
    clear hp0 hp1 HO5 HB5 HR5
    obtain ⟨n, hn⟩ : ∃ n, n = dm.length := ⟨_, rfl⟩
    have HNN := hide hn
    have HR4n : Hid (RI w4 w4.heap.size A4 n dm) := hide (by rw [hn]; exact HR4.out)
    rw [← hn] at HD2 ⊢
    have hnd : n ≤ 65 := HD2.out
    have hke : (k : Int) ≤ 65 := by have := HKB.out; omega
    have hk0 : (0 : Int) ≤ (k : Int) := Int.natCast_nonneg k
    have HP3 := hide (Nat.zero_add pm.length)
    rw [Nat.zero_add] at HO6
    rw [List.nil_append] at HO6
    clear hn
    go_loopw [15, 16] (fun t15 t16 wr => ∃ (i : Nat) (Aw : Option Addr) (cw : Nat), i ≤ n ∧ t16 = .int .i64 i ∧ t15 = .slice Aw (pm.length + i) cw ∧ Own wr w4.heap.size 3 1 Aw (pm.length + i) cw (ints (pm ++ (dm.take i).map (· + (k : Int)))) ∧ Below w4.heap.size w4 wr) (fun _ t16 _ => n - (intOf t16).toNat)
    case atStart => exact ⟨0, A6, c6, Nat.zero_le _, rfl, rfl, by simpa using HO6.out, HB6.out⟩
    case round =>
      obtain ⟨i, Aw, cw, hi, rfl, rfl, hown, hb⟩ := hrel
      have HO7 := hide hown
      have HB7 := hide hb
      clear hown hb HO6 HB6
      by_cases hin : i < n
      · have hid : i < dm.length := by have := HNN.out; omega
        have HSN : Hid (ints (pm ++ (dm.take i).map (· + (k : Int))) ++ [.int .i64 (nth dm i + (k : Int))] = ints (pm ++ (dm.take (i + 1)).map (· + (k : Int)))) := hide (by
          rw [nth_take hid, List.map_append, ← List.append_assoc, ints_append (pm ++ _)]
          rfl)
        obtain ⟨b, off, rfl, hbb, g0⟩ := (HR4n.out.below HB7.out).at_ hin
        have hxb := HDB.out _ (nth_mem hid)
        generalize nth dm i = x at g0 hxb HSN
        have hx1 : (0 : Int) ≤ x := hxb.1
        have hx2 : x ≤ 65 := hxb.2
        have hwz : IntKind.i64.wrap (x + (k : Int)) = x + (k : Int) := by rw [IntWalk.i64_left]; exact IntWalk.wrap64_in _ (by omega)
        have RR : Hid (Reads (wr.alloc (Obj.cells #[.int .i64 (x + (k : Int))] 3)) (wr.heap.size + 1) 1 (some ⟨wr.heap.size, 0, none⟩) 1 [.int .i64 (x + (k : Int))]) := hide (reads_new wr _ 3 1 1 rfl)
        have HO8 := hide (HO7.out.alloc (Obj.cells #[.int .i64 (x + (k : Int))] 3))
        have HB8 : Hid (Below w4.heap.size w4 (wr.alloc (Obj.cells #[.int .i64 (x + (k : Int))] 3))) := hide (HB7.out.alloc HB7.out.size _)
        have hm0 : pm.length + i + 1 ≤ maxLen := by have := HP2.out; unfold maxLen; omega
        have hm1 : (pm.length + i + 1) * 8 ≤ 140737488355328 := by have := HP2.out; omega
        clear hid hxb
        go_wp2_with (at_builtin; refine wpList_app_own (by rfl) (.tmp 66) (.tmp 73) 31 rfl w4.heap.size 3 (.int .i64 0) 1 8 Tryz.underlying31 int_info rfl (by omega) Aw (pm.length + i) cw _ rfl HO8.out _ _ 1 _ [.int .i64 (x + (k : Int))] rfl RR.out (by simp [Value.oneCell']) hm0 hm1 HB8.out.size ?_; intro A9 c9 w9 hown9 hb9; rw [HSN.out] at hown9; have HO9 := hide hown9; have HB9 := hide (HB8.out.trans hb9); clear hown9 hb9)
        go_roundw
        case rel => exact ⟨i + 1, A9, c9, by omega, by go_num, rfl, HO9.out, HB9.out⟩
        case measure => simp [intOf]; omega
      · obtain rfl : i = n := by omega
        have HW : Hid (pm ++ (dm.take i).map (· + (k : Int)) = mm) := hide (by rw [HMM.out, HNN.out, List.take_length])
        rw [HW.out] at HO7
        have HLM : Hid (mm.length = pm.length + i) := hide (by rw [HMM.out, List.length_append, List.length_map, ← HNN.out])
        have HR7 := hide (HR24.out.next HB7.out)
        have HRO : Hid (RI wr wr.heap.size Aw mm.length mm) := hide (by rw [HLM.out]; exact Own.reads HO7.out)
        have hmx : mm.length ≤ 100000 := by have := HML.out; omega
        rw [← HLM.out]
        go_wp2_with fail
        refine (ints37_any A2 c2' mm Aw cw mm wr HR7.out HRO.out hmx hmx).mono ?_
        rintro e wz ⟨rfl, m, rfl⟩
        rw [decide_eq_true rfl]
        have HBZ := hide (below_drewN (HB4.out.trans (HB7.out.mono HB4.out.size)) m)
        generalize wr.drewN m = wz at HBZ ⊢
        go_wp2
        go_ret
        exact ⟨rfl, HBZ.out⟩
  · have h1 : me = 1 := HE.out hme
    subst h1
    clear hme HF HE
    go_wp2
    go_ret
    exact ⟨rfl, HB4.out⟩
theorem u8_in37 {r : Int} (hr : (Lit.int .u8 r).wf = true) : 0 ≤ r ∧ r < 256 := by
  have h1 : r ≤ IntKind.u8.max ∧ IntKind.u8.min ≤ r := by simpa [Lit.wf, and_comm] using hr
  have e1 : IntKind.u8.max = 255 := by decide
  have e2 : IntKind.u8.min = 0 := by decide
  omega
theorem fparts_walk (A : Option Addr) (c : Nat) (l : List Sb) (r : Int) (a : Al) (w : World) (h : SubsAt w w.heap.size A l) (ho : SbsOk l) (hn : l.length ≤ maxLen) (hc : l.length ≤ c) (hc2 : c ≤ maxLen) (hr : (Lit.int .u8 r).wf = true)
    (_ : (Lit.int .i64 a.tile).wf = true ∧ (Lit.int .i64 a.cell).wf = true ∧ (Lit.int .i64 a.filt).wf = true ∧ (Lit.int .i64 a.val).wf = true ∧ (Lit.int .i64 a.mom).wf = true) :
    Calls Tryz.prog 5 #[.slice A l.length c, .int .u8 r, .agg a.cells] w fun e w' => e = .returned (.bool true) ∧ Below w.heap.size w w' :=
  fparts_any A c l r a w h ho hn hc (u8_in37 hr)
end Go.Proofs.YtkomgidcgepknaaGreatDoor
