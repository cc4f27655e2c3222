/-
  Chapter 54: Texts, few, do; the chapter's examples.
-/
import Derived.Test.YtnoihbbfodkejaaSend
import Derived.Test.YtnoihbbfodkejaaTurn
import Derived.Test.YtnoihbbfodkejaaDeliver
namespace Go.Proofs.Ytnoihbbfodkejaa
open Go.RowKit Go.Maps

/-- '.slice A n c' reads as the texts xs, below block B. -/
def RS (w : World) (B : Nat) (A : Option Addr) (n : Nat) (xs : List ByteArray) : Prop := Reads w B 1 A n (strs xs)
def txt (xs : List ByteArray) (k : Nat) : ByteArray := xs.getD k ByteArray.empty
theorem strs_get {xs : List ByteArray} {k : Nat} (h : k < xs.length) : (strs xs)[k]? = some (.string (txt xs k)) := by
  simp [strs, txt, List.getElem?_eq_getElem h]
section
variable {w w' : World} {B B' n : Nat} {A : Option Addr} {xs : List ByteArray}
theorem RS.len (h : RS w B A n xs) : xs.length = n := by have := h.1; simpa [strs_length] using this
theorem RS.at_ {k : Nat} (h : RS w B A n xs) (hk : k < n) : ∃ b off, A = some ⟨b, off, none⟩ ∧ b < B ∧ w.cell? ⟨b, off + k, none⟩ = some (.string (txt xs k)) := by
  obtain ⟨ad, e, hb, hc⟩ := h.2 (by omega)
  have h0 := hc k _ (strs_get (by rw [h.len]; exact hk))
  obtain ⟨b, off, spot⟩ := ad
  have hsp : spot = none := by
    have := hc 0 _ (strs_get (by rw [h.len]; omega))
    simpa [Addr.add] using World.cell?_spot this
  subst hsp
  rw [add_lit] at h0
  exact ⟨b, off, e, hb, h0⟩
theorem RS.below (h : RS w B A n xs) (hb : Below B w w') : RS w' B A n xs := Reads.below h hb
theorem RS.more (h : RS w B A n xs) (hB : B ≤ B') : RS w B' A n xs := Reads.more h hB
theorem RS.next (h : RS w w.heap.size A n xs) (hb : Below w.heap.size w w') : RS w' w'.heap.size A n xs := (Reads.below h hb).more hb.size
theorem RS.none_ : RS w B A 0 [] := Reads.none_
theorem Own.rs {base c : Nat} (h : Own w base 9 1 A n c (strs xs)) : RS w w.heap.size A n xs := Own.reads h
end

theorem toList_ne {x y : ByteArray} (h : x ≠ y) : (x.toList == y.toList) = false := by
  refine beq_eq_false_iff_ne.2 (fun e => h ?_)
  rw [ByteArray.toList_eq, ByteArray.toList_eq] at e
  exact ByteArray.ext (Array.toList_inj.1 e)
theorem toList_eq (x : ByteArray) : (x.toList == x.toList) = true := by simp

set_option maxHeartbeats 2000000 in
theorem texts_any (A : Option Addr) (n c : Nat) (A' : Option Addr) (n' c' : Nat) (xs ys : List ByteArray) (w : World) (h : RS w w.heap.size A n xs) (h' : RS w w.heap.size A' n' ys) (hn : n ≤ maxLen) :
    Calls Try.prog 14 #[.slice A n c, .slice A' n' c'] w fun e w' => e = .returned (.bool (decide (xs = ys))) ∧ ∃ m, w' = w.drewN m := by
  have HL : Hid (xs.length = n) := h.len
  have HL' : Hid (ys.length = n') := h'.len
  unfold maxLen at hn
  by_cases hl : n = n'
  · subst hl
    have hne : ((n : Int) != (n : Int)) = false := by simp
    go_enter Try.func14, Try.ntmps14
    go_wp2
    go_loopw [5] (fun i wr => ∃ k : Nat, k ≤ n ∧ i = .int .i64 k ∧ xs.take k = ys.take k ∧ ∃ m, wr = w.drewN m) (fun i _ => n - (intOf i).toNat)
    case atStart => exact ⟨0, Nat.zero_le _, rfl, by simp, 0, rfl⟩
    case round =>
      obtain ⟨k, hk, rfl, hr, m, rfl⟩ := hrel
      have HR := hide hr
      clear hr
      by_cases hlt : k < n
      · obtain ⟨b, off, rfl, hb, hc⟩ := h.at_ hlt
        obtain ⟨b', off', rfl, hb', hc'⟩ := h'.at_ hlt
        by_cases he : txt xs k = txt ys k
        · have he1 : ((txt xs k).toList == (txt ys k).toList) = true := by rw [he]; exact toList_eq _
          have HE := hide he
          clear he
          go_wp2_with fail
          go_quiet (fail)
          go_wp2
          go_round
          case rel => 
            refine ⟨k + 1, by omega, by go_num, ?_, _, rfl⟩
            rw [List.take_succ_eq_append_getElem (by rw [HL.out]; exact hlt), List.take_succ_eq_append_getElem (by rw [HL'.out]; exact hlt), HR.out]
            have e1 := HE.out
            have l1 : k < xs.length := by rw [HL.out]; exact hlt
            have l2 : k < ys.length := by rw [HL'.out]; exact hlt
            have e2 : txt xs k = xs[k] := by simp [txt, List.getElem?_eq_getElem l1]
            have e3 : txt ys k = ys[k] := by simp [txt, List.getElem?_eq_getElem l2]
            rw [← e2, ← e3, e1]
          case measure => simp [intOf]; omega
        · have he1 : ((txt xs k).toList == (txt ys k).toList) = false := toList_ne he
          have HE := hide he
          clear he
          go_wp2_with fail
          go_quiet (fail)
          go_wp2
          go_ret
          refine ⟨?_, _, World.drewN_drewN _ _ _⟩
          have : xs ≠ ys := fun e => HE.out (by rw [e])
          simp [this]
      · go_wp2
        go_ret
        refine ⟨?_, _, rfl⟩
        have e := HR.out
        rw [List.take_of_length_le (by rw [HL.out]; omega), List.take_of_length_le (by rw [HL'.out]; omega)] at e
        simp [e]
  · have hne : ((n : Int) != (n' : Int)) = true := by simp; omega
    have HN := hide hl
    clear hl
    go_enter Try.func14, Try.ntmps14
    go_wp2
    go_ret
    refine ⟨?_, 0, rfl⟩
    have : xs ≠ ys := fun e => HN.out (by rw [← HL.out, ← HL'.out, e])
    simp [this]

/-- A step as cells. -/
def St.cells (x : St) : List Value := [.int .i64 x.kind, .int .i64 x.a, .int .i64 x.b, .int .i64 x.n, .string x.text, .bool x.lost, .bool x.again]
def St.none_ : St := ⟨0, 0, 0, 0, ByteArray.empty, false, false⟩
def stp (xs : List St) (k : Nat) : St := xs.getD k St.none_
def steps (xs : List St) : List Value := xs.flatMap St.cells
theorem steps_length (xs : List St) : (steps xs).length = xs.length * 7 := by
  induction xs with
  | nil => rfl
  | cons x xs ih => simp only [steps, List.flatMap_cons, List.length_append, List.length_cons] at ih ⊢; rw [ih]; simp [St.cells]; omega
theorem steps_get : ∀ (xs : List St) (k j : Nat), k < xs.length → j < 7 → (steps xs)[k * 7 + j]? = (stp xs k).cells[j]?
  | x :: xs, 0, j, _, hj => by
    simp only [steps, List.flatMap_cons, stp]
    rw [List.getElem?_append_left (by simp [St.cells]; omega)]
    simp
  | x :: xs, k + 1, j, hk, hj => by
    have := steps_get xs k j (by simpa using hk) hj
    simp only [steps, List.flatMap_cons, stp] at this ⊢
    rw [List.getElem?_append_right (by simp [St.cells]; omega)]
    have e : (k + 1) * 7 + j - x.cells.length = k * 7 + j := by simp [St.cells]; omega
    rw [e, this]
    simp
/-- '.slice A n c' reads as the steps xs, below block B. -/
def RSt (w : World) (B : Nat) (A : Option Addr) (n : Nat) (xs : List St) : Prop := Reads w B 7 A n (steps xs)
section
variable {w w' : World} {B B' n : Nat} {A : Option Addr} {xs : List St}
theorem RSt.len (h : RSt w B A n xs) : xs.length = n := by have := h.1; rw [steps_length] at this; omega
theorem RSt.at_ {k : Nat} (h : RSt w B A n xs) (hk : k < n) : ∃ b off, A = some ⟨b, off, none⟩ ∧ b < B ∧ ∀ j, j < 7 → w.cell? ⟨b, off + k * 7 + j, none⟩ = (stp xs k).cells[j]? := by
  obtain ⟨ad, e, hb, hc⟩ := h.2 (by omega)
  obtain ⟨b, off, spot⟩ := ad
  have hg : ∀ k j, k < n → j < 7 → (steps xs)[k * 7 + j]? = (stp xs k).cells[j]? := fun k j h1 h2 => steps_get xs k j (by rw [h.len]; exact h1) h2
  have hs : ∀ j, j < 7 → ∃ u, (stp xs k).cells[j]? = some u := fun j hj => ⟨_, List.getElem?_eq_getElem (by simp [St.cells]; omega)⟩
  have hsp : spot = none := by
    have h0 := hg 0 0 (by omega) (by omega)
    have := hc 0 _ (by rw [show (0 : Nat) = 0 * 7 + 0 by omega, h0]; rfl)
    simpa [Addr.add] using World.cell?_spot this
  subst hsp
  refine ⟨b, off, e, hb, fun j hj => ?_⟩
  obtain ⟨u, hu⟩ := hs j hj
  have := hc (k * 7 + j) u (by rw [hg k j hk hj]; exact hu)
  rw [add_lit] at this
  rw [hu, Nat.add_assoc]
  exact this
theorem RSt.below (h : RSt w B A n xs) (hb : Below B w w') : RSt w' B A n xs := Reads.below h hb
theorem RSt.more (h : RSt w B A n xs) (hB : B ≤ B') : RSt w B' A n xs := Reads.more h hB
theorem RSt.next (h : RSt w w.heap.size A n xs) (hb : Below w.heap.size w w') : RSt w' w'.heap.size A n xs := (Reads.below h hb).more hb.size
end

def fewL (xs : List St) : Bool := decide (xs.length ≤ 150) && xs.all fun x => decide (x.text.size ≤ 100)

set_option maxHeartbeats 2000000 in
theorem Few_any (A : Option Addr) (n c : Nat) (xs : List St) (w : World) (h : RSt w w.heap.size A n xs) :
    Calls Try.prog 27 #[.slice A n c] w fun e w' => e = .returned (.bool (fewL xs)) ∧ w = w' := by
  have HL : Hid (xs.length = n) := h.len
  by_cases h150 : n ≤ 150
  · have h150' : (n : Int) ≤ 150 := by omega
    go_enter Try.func27, Try.ntmps27
    go_wp2
    go_loop [3] (fun i => ∃ k : Nat, k ≤ n ∧ i = .int .i64 k ∧ ((xs.take k).all fun x => decide (x.text.size ≤ 100)) = true) (fun i => n - (intOf i).toNat)
    case atStart => exact ⟨0, Nat.zero_le _, rfl, by simp⟩
    case round =>
      obtain ⟨k, hk, rfl, hr⟩ := hrel
      have HR := hide hr
      clear hr
      by_cases hlt : k < n
      · obtain ⟨b, off, rfl, hb, hc⟩ := h.at_ hlt
        have c4 : w.cell? ⟨b, off + k * 7 + 4, none⟩ = some (.string (stp xs k).text) := (hc 4 (by omega)).trans rfl
        have hx : stp xs k ∈ xs := by
          have : k < xs.length := by rw [HL.out]; exact hlt
          unfold stp
          rw [List.getD_eq_getElem?_getD, List.getElem?_eq_getElem this]
          exact List.getElem_mem _
        have HX := hide hx
        clear hc hx
        by_cases ht : (100 : Int) < ((stp xs k).text.size : Int)
        · go_wp2
          go_ret
          refine ⟨?_, rfl⟩
          have : fewL xs = false := by
            unfold fewL
            rw [Bool.and_eq_false_iff]
            right
            rw [List.all_eq_false]
            exact ⟨_, HX.out, by simp; omega⟩
          rw [this]
          rfl
        · have HT := hide ht
          go_wp2
          go_round
          case rel =>
            refine ⟨k + 1, by omega, by go_num, ?_⟩
            have l1 : k < xs.length := by rw [HL.out]; exact hlt
            rw [List.take_succ_eq_append_getElem l1, List.all_append, HR.out]
            have e2 : stp xs k = xs[k] := by simp [stp, List.getElem?_eq_getElem l1]
            have := HT.out
            rw [e2] at this
            simp
            omega
          case measure => simp [intOf]; omega
      · go_wp2
        go_ret
        refine ⟨?_, rfl⟩
        have e := HR.out
        rw [List.take_of_length_le (by rw [HL.out]; omega)] at e
        have : fewL xs = true := by
          unfold fewL
          rw [e, HL.out]
          simp [h150]
        rw [this]
        rfl
  · have h150' : ¬ (n : Int) ≤ 150 := by omega
    go_enter Try.func27, Try.ntmps27
    go_wp2
    go_loop [3] (fun i => i = .int .i64 0) (fun i => 0)
    case atStart => rfl
    case round =>
      obtain rfl := hrel
      go_wp2
      go_ret
      refine ⟨?_, rfl⟩
      have : fewL xs = false := by
        unfold fewL
        rw [HL.out]
        simp [h150]
      rw [this]
      exact ret_bool (decide_eq_false (by omega))

theorem set3 {w : World} {g : Nat} {t : TypeId} {c0 c1 c2 : Value} (h : Blk w g t #[c0, c1, c2]) (v0 v1 v2 : Value) :
    Blk (((w.setCell ⟨g, 0, none⟩ v0).setCell ⟨g, 1, none⟩ v1).setCell ⟨g, 2, none⟩ v2) g t #[v0, v1, v2] ∧ Moved (fun k => k = g) w (((w.setCell ⟨g, 0, none⟩ v0).setCell ⟨g, 1, none⟩ v1).setCell ⟨g, 2, none⟩ v2) := by
  have m : ∀ (u : World) (i : Nat) (v : Value), Moved (fun k => k = g) u (u.setCell ⟨g, i, none⟩ v) := fun u i v => ⟨rfl, rfl, rfl, by simp [World.setCell], fun k _ hn => Below.heap_setCell _ _ _ _ hn⟩
  refine ⟨?_, ((m _ _ _).trans (m _ _ _) (fun _ h => .inl h)).trans (m _ _ _) (fun _ h => .inl h)⟩
  have := ((h.set_ 0 v0).set_ 1 v1).set_ 2 v2
  simpa using this

set_option maxHeartbeats 4000000 in
theorem do_any (p n : Nat) (s : NS) (F : Nat → Prop) (x : St) (w : World) (h : NetAt w p n s F) (ha : (Lit.int .i64 x.a).wf = true) (hb : (Lit.int .i64 x.b).wf = true) (hn : n + 4 < maxLen) (hq : s.Small) :
    Calls Try.prog 18 #[.pointer (some ⟨p, 0, none⟩), .agg #[.int .i64 x.kind, .int .i64 x.a, .int .i64 x.b, .int .i64 x.n, .string x.text, .bool x.lost, .bool x.again]] w
      fun e w' => e = .returned (.agg #[.int .i64 (s.res x).err, .string (s.res x).text, .bool (s.res x).ok]) ∧ ∃ F', NetAt w' p (n + 4) (s.do_ x) F' ∧ NetGo F F' w w' := by
  have hW : Below w.heap.size w ((w.alloc (.cells #[.int .i64 x.kind, .int .i64 x.a, .int .i64 x.b, .int .i64 x.n, .string x.text, .bool x.lost, .bool x.again] 46)).alloc (.cells #[.int .i64 0, .string ⟨#[]⟩, .bool false] 43)) :=
    ((Below.refl _ _).alloc (Nat.le_refl _) _).alloc (by simp) _
  have hG : Blk ((w.alloc (.cells #[.int .i64 x.kind, .int .i64 x.a, .int .i64 x.b, .int .i64 x.n, .string x.text, .bool x.lost, .bool x.again] 46)).alloc (.cells #[.int .i64 0, .string ⟨#[]⟩, .bool false] 43)) (w.heap.size + 1) 43 #[.int .i64 0, .string ⟨#[]⟩, .bool false] := by
    have := Blk.new (w.alloc (.cells #[.int .i64 x.kind, .int .i64 x.a, .int .i64 x.b, .int .i64 x.n, .string x.text, .bool x.lost, .bool x.again] 46)) 43 #[.int .i64 0, .string ⟨#[]⟩, .bool false]
    simpa using this
  have HN := hide h
  have HW := hide hW
  have HG := hide hG
  clear h hW hG
  obtain ⟨W0, hW0⟩ : ∃ W0, W0 = ((w.alloc (.cells #[.int .i64 x.kind, .int .i64 x.a, .int .i64 x.b, .int .i64 x.n, .string x.text, .bool x.lost, .bool x.again] 46)).alloc (.cells #[.int .i64 0, .string ⟨#[]⟩, .bool false] 43)) := ⟨_, rfl⟩
  rw [← hW0] at HW HG
  have N0 : Hid (NetAt W0 p n s F) := HN.out.below HW.out
  have FIN : Hid (∀ (w1 : World) (F1 : Nat → Prop) (s1 : NS) (n1 : Nat), NetAt w1 p n1 s1 F1 → NetGo F F1 W0 w1 → n1 ≤ n + 4 → Blk w1 (w.heap.size + 1) 43 #[.int .i64 0, .string ⟨#[]⟩, .bool false] ∧
      ∀ v0 v1 v2, Blk (((w1.setCell ⟨w.heap.size + 1, 0, none⟩ v0).setCell ⟨w.heap.size + 1, 1, none⟩ v1).setCell ⟨w.heap.size + 1, 2, none⟩ v2) (w.heap.size + 1) 43 #[v0, v1, v2] ∧
        ∃ F', NetAt (((w1.setCell ⟨w.heap.size + 1, 0, none⟩ v0).setCell ⟨w.heap.size + 1, 1, none⟩ v1).setCell ⟨w.heap.size + 1, 2, none⟩ v2) p (n + 4) s1 F' ∧ NetGo F F' w (((w1.setCell ⟨w.heap.size + 1, 0, none⟩ v0).setCell ⟨w.heap.size + 1, 1, none⟩ v1).setCell ⟨w.heap.size + 1, 2, none⟩ v2)) := by
    intro w1 F1 s1 n1 hnet hgo hn1
    have hg0 : w.heap.size + 1 < W0.heap.size := Blk.lt HG.out
    have hgF : ¬ F (w.heap.size + 1) := fun hf => by have := HN.out.lt _ hf; omega
    have hgF1 : ¬ F1 (w.heap.size + 1) := fun hf => by
      rcases hgo.grow _ hf with h1 | h1
      · exact hgF h1
      · omega
    have hb1 : Blk w1 (w.heap.size + 1) 43 #[.int .i64 0, .string ⟨#[]⟩, .bool false] := (hgo.moved.block _ hg0 hgF).trans HG.out
    refine ⟨hb1, fun v0 v1 v2 => ?_⟩
    obtain ⟨h1, h2⟩ := set3 hb1 v0 v1 v2
    refine ⟨h1, F1, (hnet.moved h2 (fun k hk e => hgF1 (e ▸ hk))).mono hn1, ?_, ?_⟩
    · intro k hk
      rcases hgo.grow k hk with h3 | h3
      · exact .inl h3
      · exact .inr (Nat.le_trans HW.out.size h3)
    · have m1 : Moved F w w1 := (Moved.of_below HW.out).trans hgo.moved (fun _ h => .inl h)
      exact m1.trans h2 (fun k hk => by right; rw [hk]; omega)
  subst hW0
  by_cases k0 : x.kind = 0
  · have hr : s.res x = ⟨s.sendErr x.a x.b x.text, ByteArray.empty, false⟩ := by unfold NS.res; rw [if_pos k0]; try rfl
    have hd : s.do_ x = s.send x.a x.b x.text := by unfold NS.do_; rw [if_pos k0]; try rfl
    have k0' : (x.kind == 0) = true := by simp [k0]
    have HR := hide hr
    have HD := hide hd
    clear k0 hr hd
    go_enter Try.func18, Try.ntmps18
    go_wp2_with fail
    refine (send_any p n s F x.a x.b x.text _ N0.out ha hb (by omega)).mono ?_
    rintro e w1 ⟨rfl, F1, hnet, hgo⟩
    obtain ⟨hb1, hfin⟩ := FIN.out w1 F1 _ _ hnet hgo (by omega)
    have g0 := hb1.cell 0
    have g1 := hb1.cell 1
    have g2 := hb1.cell 2
    have z0 := hb1.frozen 0
    have z1 := hb1.frozen 1
    have z2 := hb1.frozen 2
    have HF := hide hfin
    simp only [List.size_toArray, List.length_cons, List.length_nil, Nat.zero_add, Nat.reduceAdd, Nat.lt_add_one, getElem?_pos, List.getElem_toArray, List.getElem_cons_zero, List.getElem_cons_succ, Nat.reduceLT] at g0 g1 g2
    clear hfin hb1 hgo hnet FIN
    go_wp2
    obtain ⟨hb2, hnet2⟩ := HF.out (.int .i64 (s.sendErr x.a x.b x.text)) (.string (⟨#[]⟩)) (.bool (false))
    refine bodyPost_ret (results_cell_row rfl _ _ (w.heap.size + 1) 43 _ (0, 0) _ rfl hb2 Try.underlying43 rfl (by kernel_rfl)) rfl ?_
    rw [HR.out, HD.out]
    exact ⟨rfl, hnet2⟩
  · by_cases k1 : x.kind = 1
    · have hr : s.res x = ⟨0, s.dText x.a x.b x.n x.lost, s.dOk x.a x.b x.n x.lost⟩ := by unfold NS.res; rw [if_neg k0, if_pos k1]; try rfl
      have hd : s.do_ x = s.deliver x.a x.b x.n x.lost x.again := by unfold NS.do_; rw [if_neg k0, if_pos k1]; try rfl
      have k0' : (x.kind == 0) = false := by simp [k0]
      have k1' : (x.kind == 1) = true := by simp [k1]
      have HR := hide hr
      have HD := hide hd
      clear k0 k1 hr hd
      go_enter Try.func18, Try.ntmps18
      go_wp2_with fail
      refine (deliver_any p n s F x.a x.b x.n x.lost x.again _ N0.out ha hb (by omega) hq).mono ?_
      rintro e w1 ⟨rfl, F1, hnet, hgo⟩
      obtain ⟨hb1, hfin⟩ := FIN.out w1 F1 _ _ hnet hgo (by omega)
      have g0 := hb1.cell 0
      have g1 := hb1.cell 1
      have g2 := hb1.cell 2
      have z0 := hb1.frozen 0
      have z1 := hb1.frozen 1
      have z2 := hb1.frozen 2
      have HF := hide hfin
      simp only [List.size_toArray, List.length_cons, List.length_nil, Nat.zero_add, Nat.reduceAdd, Nat.lt_add_one, getElem?_pos, List.getElem_toArray, List.getElem_cons_zero, List.getElem_cons_succ, Nat.reduceLT] at g0 g1 g2
      clear hfin hb1 hgo hnet FIN
      go_wp2
      obtain ⟨hb2, hnet2⟩ := HF.out (.int .i64 (0)) (.string (s.dText x.a x.b x.n x.lost)) (.bool (s.dOk x.a x.b x.n x.lost))
      refine bodyPost_ret (results_cell_row rfl _ _ (w.heap.size + 1) 43 _ (0, 0) _ rfl hb2 Try.underlying43 rfl (by kernel_rfl)) rfl ?_
      rw [HR.out, HD.out]
      exact ⟨rfl, hnet2⟩
    · by_cases k2 : x.kind = 2
      · have hr : s.res x = ⟨s.turnErr x.a x.b true, ByteArray.empty, false⟩ := by unfold NS.res; rw [if_neg k0, if_neg k1, if_pos k2]; try rfl
        have hd : s.do_ x = s.turn x.a x.b true := by unfold NS.do_; rw [if_neg k0, if_neg k1, if_pos k2]; try rfl
        have k0' : (x.kind == 0) = false := by simp [k0]
        have k1' : (x.kind == 1) = false := by simp [k1]
        have k2' : (x.kind == 2) = true := by simp [k2]
        have HR := hide hr
        have HD := hide hd
        clear k0 k1 k2 hr hd
        go_enter Try.func18, Try.ntmps18
        go_wp2_with fail
        refine (cut_any p n s F x.a x.b _ N0.out ha hb (by omega)).mono ?_
        rintro e w1 ⟨rfl, hnet, hmv⟩
        obtain ⟨F1, hF1⟩ : ∃ F1, F1 = F := ⟨F, rfl⟩
        have hgo : NetGo F F1 _ w1 := ⟨fun _ h => .inl (hF1 ▸ h), hmv⟩
        rw [← hF1] at hnet
        clear hmv hF1
        obtain ⟨hb1, hfin⟩ := FIN.out w1 F1 _ _ hnet hgo (by omega)
        have g0 := hb1.cell 0
        have g1 := hb1.cell 1
        have g2 := hb1.cell 2
        have z0 := hb1.frozen 0
        have z1 := hb1.frozen 1
        have z2 := hb1.frozen 2
        have HF := hide hfin
        simp only [List.size_toArray, List.length_cons, List.length_nil, Nat.zero_add, Nat.reduceAdd, Nat.lt_add_one, getElem?_pos, List.getElem_toArray, List.getElem_cons_zero, List.getElem_cons_succ, Nat.reduceLT] at g0 g1 g2
        clear hfin hb1 hgo hnet FIN
        go_wp2
        obtain ⟨hb2, hnet2⟩ := HF.out (.int .i64 (s.turnErr x.a x.b true)) (.string (⟨#[]⟩)) (.bool (false))
        refine bodyPost_ret (results_cell_row rfl _ _ (w.heap.size + 1) 43 _ (0, 0) _ rfl hb2 Try.underlying43 rfl (by kernel_rfl)) rfl ?_
        rw [HR.out, HD.out]
        exact ⟨rfl, hnet2⟩
      · have hr : s.res x = ⟨s.turnErr x.a x.b false, ByteArray.empty, false⟩ := by unfold NS.res; rw [if_neg k0, if_neg k1, if_neg k2]; try rfl
        have hd : s.do_ x = s.turn x.a x.b false := by unfold NS.do_; rw [if_neg k0, if_neg k1, if_neg k2]; try rfl
        have k0' : (x.kind == 0) = false := by simp [k0]
        have k1' : (x.kind == 1) = false := by simp [k1]
        have k2' : (x.kind == 2) = false := by simp [k2]
        have HR := hide hr
        have HD := hide hd
        clear k0 k1 k2 hr hd
        go_enter Try.func18, Try.ntmps18
        go_wp2_with fail
        refine (heal_any p n s F x.a x.b _ N0.out ha hb (by omega)).mono ?_
        rintro e w1 ⟨rfl, hnet, hmv⟩
        obtain ⟨F1, hF1⟩ : ∃ F1, F1 = F := ⟨F, rfl⟩
        have hgo : NetGo F F1 _ w1 := ⟨fun _ h => .inl (hF1 ▸ h), hmv⟩
        rw [← hF1] at hnet
        clear hmv hF1
        obtain ⟨hb1, hfin⟩ := FIN.out w1 F1 _ _ hnet hgo (by omega)
        have g0 := hb1.cell 0
        have g1 := hb1.cell 1
        have g2 := hb1.cell 2
        have z0 := hb1.frozen 0
        have z1 := hb1.frozen 1
        have z2 := hb1.frozen 2
        have HF := hide hfin
        simp only [List.size_toArray, List.length_cons, List.length_nil, Nat.zero_add, Nat.reduceAdd, Nat.lt_add_one, getElem?_pos, List.getElem_toArray, List.getElem_cons_zero, List.getElem_cons_succ, Nat.reduceLT] at g0 g1 g2
        clear hfin hb1 hgo hnet FIN
        go_wp2
        obtain ⟨hb2, hnet2⟩ := HF.out (.int .i64 (s.turnErr x.a x.b false)) (.string (⟨#[]⟩)) (.bool (false))
        refine bodyPost_ret (results_cell_row rfl _ _ (w.heap.size + 1) 43 _ (0, 0) _ rfl hb2 Try.underlying43 rfl (by kernel_rfl)) rfl ?_
        rw [HR.out, HD.out]
        exact ⟨rfl, hnet2⟩

theorem few_any (A : Option Addr) (n c : Nat) (xs : List St) (w : World) (h : RSt w w.heap.size A n xs) :
    Calls Try.prog 16 #[.slice A n c] w fun e w' => e = .returned (.bool (fewL xs)) ∧ w = w' := by
  go_enter Try.func16, Try.ntmps16
  go_wp2_with fail
  refine (Few_any A n c xs w h).mono ?_
  rintro e w' ⟨rfl, rfl⟩
  go_wp2
  go_ret
  exact ⟨rfl, rfl⟩
end Go.Proofs.Ytnoihbbfodkejaa
