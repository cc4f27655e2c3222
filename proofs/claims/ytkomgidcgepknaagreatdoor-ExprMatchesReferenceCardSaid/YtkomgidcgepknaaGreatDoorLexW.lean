/-
  lexer.Lex.
-/
import Derived.Test.YtkomgidcgepknaaGreatDoorLexO
import Derived.Test.YtkomgidcgepknaaGreatDoorApp
set_option linter.unusedVariables false
set_option linter.unusedSimpArgs false
namespace Go.Proofs.YtkomgidcgepknaaGreatDoor
open Go.RowKit Go.Deep

/-- The cells of tokens. -/
def cellsT (ts : List Tok) : List Value := ts.flatMap fun t => t.cells.toList
theorem cellsT_snoc (ts : List Tok) (t : Tok) : cellsT (ts ++ [t]) = cellsT ts ++ t.cells.toList := by simp [cellsT]
theorem tok_one (t : Tok) : ∀ u ∈ t.cells.toList, u.oneCell' = true := by
  intro u hu
  simp only [Tok.cells, List.mem_cons, List.not_mem_nil, or_false] at hu
  rcases hu with rfl | rfl | rfl | rfl <;> rfl
theorem tok_info : (Tryz.prog.info? 166).map (fun i => (i.zero, i.size, i.bytes)) = some (some (.agg #[.int .i64 0, .string ByteArray.empty, .int .i64 0, .int .i64 0]), 4, 40) := by kernel_rfl
theorem scan_built (s : ByteArray) : Tryz.prog.built 164 [(0, .string s), (1, .agg (ints classL).toArray)] = some (Value.string s :: ints classL).toArray := by kernel_rfl

theorem Own.rebase {w : World} {base base' : Nat} {e : TypeId} {size : Nat} {A : Option Addr} {n c : Nat} {xs : List Value} (h : Own w base e size A n c xs) (hb : base' ≤ base) : Own w base' e size A n c xs := by
  refine ⟨h.1, ?_⟩
  rcases h.2 with h2 | ⟨g, cap, cur, hv, hg, hh, r⟩
  · exact Or.inl h2
  · exact Or.inr ⟨g, cap, cur, hv, Nat.le_trans hb hg, hh, r⟩

/-- What Lex hands back, in a world. -/
def LexV (W w : World) (r : LexR) (v : Value) : Prop := ∃ A c, v = .tuple #[.slice A r.toks.length c, .int .i64 r.err, .int .i64 r.off] ∧ Own w W.heap.size 166 4 A r.toks.length c (cellsT r.toks)

set_option maxHeartbeats 2000000 in
set_option maxRecDepth 100000 in
theorem lex_any (s : ByteArray) (w : World) (hs : s.size ≤ maxLen) :
    Calls Tryz.prog 64 #[.string s] w fun e w' => (∃ v, e = .returned v ∧ LexV w w' (lexL s) v) ∧ Below w.heap.size w w' := by
  unfold maxLen at hs
  by_cases hbig : 20000 < s.size
  · have HL : Hid (lexL s = ⟨[], 2, -1⟩) := by
      show lexL s = _
      unfold lexL
      rw [if_pos hbig]
    go_enter Tryz.func64, Tryz.ntmps64
    go_wp2
    go_ret3
    refine ⟨⟨_, rfl, ?_⟩, Below.refl _ _⟩
    rw [HL.out]
    exact ⟨none, 0, rfl, Own.nil _ _ _ _⟩
  · have HL : Hid (lexL s = lexI s (gapE s 0) []) := by
      show lexL s = _
      unfold lexL
      rw [if_neg hbig]
    go_enter Tryz.func64, Tryz.ntmps64
    go_wp2_with fail
    refine (classes_any w).mono ?_
    rintro e v0 ⟨rfl, hb0⟩
    generalize hza : (ints classL).toArray = za
    have hb : Tryz.prog.built 164 [(0, .string s), (1, .agg za)] = some (Value.string s :: ints classL).toArray := by rw [← hza]; exact scan_built s
    have hzsz : (Value.string s :: ints classL).toArray.size = 257 := by simp [classL_len]
    have hone : (Value.string s :: ints classL).toArray.all (·.oneCell') = true := Array.all_eq_true_iff_forall_mem.2 (fun u hu => by
      rcases List.mem_cons.1 (by simpa using hu) with rfl | h
      · rfl
      · exact ints_oneCell _ u h)
    have hB1 : Blk (v0.alloc (Obj.cells Tryz.zeroCells164 164)) v0.heap.size 164 Tryz.zeroCells164 := Blk.new _ _ _
    have hz0 : Tryz.zeroCells164.size = 257 := by kernel_rfl
    have hi : (Tryz.prog.info? 164).map (·.size) = some 257 := by kernel_rfl
    have hs1 : Scan ((v0.alloc (Obj.cells Tryz.zeroCells164 164)).setRow v0.heap.size (Value.string s :: ints classL).toArray) v0.heap.size s := setRow_heap _ _ _ _ _ _ hB1
    have hb1 : Below w.heap.size w ((v0.alloc (Obj.cells Tryz.zeroCells164 164)).setRow v0.heap.size (Value.string s :: ints classL).toArray) := below_setRow (hb0.alloc hb0.size _) hb0.size _
    have hp := hb0.size
    generalize (Value.string s :: ints classL).toArray = zs at hb hzsz hone hs1 hb1
    have HBS : Hid ((Tryz.prog.built 164 [(0, .string s), (1, .agg za)]).isSome = true) := by show Option.isSome _ = true; rw [hb]; rfl
    have HBG : Hid ((Tryz.prog.built 164 [(0, .string s), (1, .agg za)]).getD #[] = zs) := by show Option.getD _ _ = _; rw [hb]; rfl
    have HB1 := hide hB1
    have HI : Hid ((Tryz.prog.info? 164).map (·.size) = some zs.size) := by show _ = _; rw [hi, hzsz]
    have HO : Hid (Tryz.zeroCells164.size = zs.size) := by show _ = _; rw [hz0, hzsz]
    have HC := hide hone
    clear hb hzsz hone hB1 hz0 hi hza hb0
    dsimp only
    rename_i K1 hK1
    refine hK1 _ _ ?_
    refine wpList_build rfl 164 #[(0, .tmp 14), (1, .tmp 15)] rfl ?_ ?_
    · simp only [List.map_toArray, List.map_cons, List.map_nil]; exact HBS.out
    simp only [List.map_toArray, List.map_cons, List.map_nil]
    change wpList _ _ _ _ (Act.put _ _ (.agg ((Tryz.prog.built 164 [(0, .string s), (1, .agg za)]).getD #[]))) _
    rw [HBG.out]
    clear HBG HBS
    go_wp2_with ((refine wpList_store_row rfl 164 (.tmp 5) (.tmp 16) rfl _ zs rfl rfl _ _ HB1.out HI.out HO.out HC.out ?_); generalize World.setRow _ _ zs = v1 at hs1 hb1 ⊢)
    clear HB1 HI HO HC hK1
    refine (gap_any v0.heap.size s 0 v1 hs1 (Nat.zero_le _) (by unfold maxLen; omega)).mono ?_
    rintro e v2 ⟨rfl, hg⟩
    have hb2 := hb1.trans (hg.mono hb1.size)
    have hs2 := hs1.below hg (Scan.lt hs1)
    have hk0 := (gapE_ge s 0 (Nat.zero_le _)).2
    clear hs1 hb1 hg
    generalize v0.heap.size = p at hs2 hp ⊢
    generalize hgz : gapE s 0 = k0 at HL hk0 ⊢
    clear hgz
    go_wp2
    go_loopw [6, 7] (fun t i wr => ∃ (k : Nat) (acc : List Tok) (A : Option Addr) (c : Nat), k ≤ s.size ∧ i = .int .i64 k ∧ t = .slice A acc.length c ∧ acc.length ≤ 5000 ∧ lexL s = lexI s k acc ∧
        Own wr (p + 1) 166 4 A acc.length c (cellsT acc) ∧ Scan wr p s ∧ Below w.heap.size w wr) (fun _ i _ => s.size - (intOf i).toNat)
    case atStart => exact ⟨k0, [], none, 0, hk0, rfl, rfl, by simp, HL.out, Own.nil _ _ _ _, hs2, hb2⟩
    case round =>
      clear hs2 hb2 hk0 HL
      obtain ⟨k, acc, A, c, hk, rfl, rfl, hacc, hL, hown, hsc, hbr⟩ := hrel
      have HL := hide hL
      have hpl := hsc.lt
      clear hL
      by_cases hlt : k < s.size
      · have hv : nextV s k = .tuple #[.agg #[.int .i64 (nextT s k).2.1.kind, .string (nextT s k).2.1.text, .int .i64 (nextT s k).2.1.n, .int .i64 (nextT s k).2.1.off], .int .i64 ((nextT s k).2.2 : Nat), .int .i64 (nextT s k).1] := rfl
        have F1 := hide (fun he => lexI_err hlt he acc)
        have F2 := hide (fun he ha => lexI_full hlt he acc ha)
        have F3 := hide (fun he ha => lexI_next hlt he acc ha)
        have F4 := hide (nextT_end hlt)
        go_wp2_with fail
        refine (next_any p s k wr hsc hlt (by omega)).mono ?_
        rintro e w2 ⟨rfl, hbn⟩
        rw [hv]
        clear hv
        generalize nextT s k = q at F1 F2 F3 F4 ⊢
        obtain ⟨err, t, en⟩ := q
        obtain ⟨tk, tt, tn, tf⟩ := t
        dsimp only at F1 F2 F3 F4 ⊢
        have hb2 := hbr.trans (hbn.mono hbr.size)
        have hs2 := hsc.below hbn hpl
        have hown2 := hown.below hbn
        have hsz2 := hbn.size
        clear hbr hsc hown hbn
        have hb3 := hb2.alloc hb2.size (Obj.cells #[.int .i64 tk, .string tt, .int .i64 tn, .int .i64 tf] 166)
        by_cases he : err = 0
        · subst he
          by_cases ha : acc.length = 5000
          · have HR := hide (F2.out rfl ha)
            clear F1 F2 F3 F4
            have ha' : ((acc.length : Nat) : Int) = 5000 := by omega
            go_wp2
            go_ret3
            refine ⟨⟨_, rfl, ?_⟩, hb3⟩
            rw [HL.out, HR.out]
            exact ⟨none, 0, rfl, Own.nil _ _ _ _⟩
          · have HR := hide (F3.out rfl ha)
            have hen := F4.out rfl
            clear F1 F2 F3 F4
            have ha' : (((acc.length : Nat) : Int) == 5000) = false := beq_eq_false_iff_ne.2 (by omega)
            have hw2p : p < w2.heap.size := hs2.lt
            have RR : Hid (Reads ((w2.alloc (Obj.cells #[.int .i64 tk, .string tt, .int .i64 tn, .int .i64 tf] 166)).alloc (Obj.cells #[.int .i64 tk, .string tt, .int .i64 tn, .int .i64 tf] 166)) (w2.heap.size + 1 + 1) 4 (some ⟨w2.heap.size + 1, 0, none⟩) 1 (Tok.cells ⟨tk, tt, tn, tf⟩).toList) := by
              have := reads_new (w2.alloc (Obj.cells #[.int .i64 tk, .string tt, .int .i64 tn, .int .i64 tf] 166)) #[.int .i64 tk, .string tt, .int .i64 tn, .int .i64 tf] 166 4 1 rfl
              refine hide ?_
              simpa [Tok.cells] using this
            have OWN := hide ((hown2.alloc (Obj.cells #[.int .i64 tk, .string tt, .int .i64 tn, .int .i64 tf] 166)).alloc (Obj.cells #[.int .i64 tk, .string tt, .int .i64 tn, .int .i64 tf] 166))
            have hs4 : Scan ((w2.alloc (Obj.cells #[.int .i64 tk, .string tt, .int .i64 tn, .int .i64 tf] 166)).alloc (Obj.cells #[.int .i64 tk, .string tt, .int .i64 tn, .int .i64 tf] 166)) p s := Blk.alloc (Blk.alloc hs2 _) _
            have hb4 : Below w.heap.size w ((w2.alloc (Obj.cells #[.int .i64 tk, .string tt, .int .i64 tn, .int .i64 tf] 166)).alloc (Obj.cells #[.int .i64 tk, .string tt, .int .i64 tn, .int .i64 tf] 166)) := hb3.alloc hb3.size _
            have hz4 : p + 1 ≤ ((w2.alloc (Obj.cells #[.int .i64 tk, .string tt, .int .i64 tn, .int .i64 tf] 166)).alloc (Obj.cells #[.int .i64 tk, .string tt, .int .i64 tn, .int .i64 tf] 166)).heap.size := by simp; omega
            have hmx : acc.length + 1 ≤ maxLen := by unfold maxLen; omega
            clear hb2 hs2 hown2 hb3
            go_upto_region 14 with (at_builtin; refine wpList_app_own (by rfl) (.tmp 41) (.tmp 43) 103 rfl (p + 1) 166 (.agg #[.int .i64 0, .string ByteArray.empty, .int .i64 0, .int .i64 0]) 4 40 Tryz.underlying103 tok_info rfl (by omega) A acc.length c (cellsT acc) rfl OWN.out _ _ 1 _ _ rfl RR.out (tok_one _) hmx (by omega) hz4 ?_; intro A5 c5 w5 hown5 hb5; have HO5 := hide hown5; have HB5 := hide hb5; clear hown5 hb5)
            have hs5 : Scan w5 p s := hs4.below HB5.out (Nat.lt_succ_self p)
            have hb5 : Below w.heap.size w w5 := hb4.trans (HB5.out.mono (by omega))
            have hl5 : p + 1 ≤ w5.heap.size := hs5.lt
            clear RR OWN hs4 hb4 hz4 HB5
            go_wp2_with fail
            refine (gap_any p s en w5 hs5 hen.2 (by unfold maxLen; omega)).mono ?_
            rintro e w6 ⟨rfl, hg⟩
            have hb6 := hb5.trans (hg.mono hb5.size)
            have hs6 := hs5.below hg hs5.lt
            have hown6 := HO5.out.below hg
            have hge := gapE_ge s en hen.2
            clear hb5 hs5 hg HO5
            generalize gapE s en = k2 at HR hge ⊢
            go_wp2
            go_roundw
            case rel => exact ⟨k2, acc ++ [⟨tk, tt, tn, tf⟩], A5, c5, hge.2, rfl, by simp, by simp; omega, by rw [HL.out, HR.out], by rw [cellsT_snoc]; simpa using hown6, hs6, hb6⟩
            case measure => simp [intOf]; omega
        · have HR := hide (F1.out he)
          clear F1 F2 F3 F4
          go_wp2
          go_ret3
          refine ⟨⟨_, rfl, ?_⟩, hb3⟩
          rw [HL.out, HR.out]
          exact ⟨none, 0, rfl, Own.nil _ _ _ _⟩
      · have HR := hide (lexI_end hlt acc)
        go_wp2
        go_ret3
        refine ⟨⟨_, rfl, ?_⟩, hbr⟩
        rw [HL.out, HR.out]
        exact ⟨A, c, rfl, hown.rebase (by omega)⟩
end Go.Proofs.YtkomgidcgepknaaGreatDoor
