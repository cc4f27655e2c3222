/-
  expr.Valid: its closure.
-/
import Derived.Test.YtkomgidcgepknaaGreatDoorExpD
import Derived.Test.YtkomgidcgepknaaGreatDoorNodA
import Derived.Laws.EntriesVeiled
set_option linter.unusedVariables false
set_option linter.unusedSimpArgs false
namespace Go.Proofs.YtkomgidcgepknaaGreatDoor
open Go.RowKit Go.Deep Go.Maps

/-- All old blocks but one are as they were. -/
structure KeptBut (q : Nat) (w w' : World) : Prop where
  os : w'.os = w.os
  tape : w'.tape = w.tape
  output : w'.output = w.output
  size : w.heap.size ≤ w'.heap.size
  block : ∀ k, k < w.heap.size → k ≠ q → w'.heap[k]? = w.heap[k]?
section
variable {q : Nat} {w w' w'' : World}
theorem KeptBut.refl (q : Nat) (w : World) : KeptBut q w w := ⟨rfl, rfl, rfl, Nat.le_refl _, fun _ _ _ => rfl⟩
theorem KeptBut.trans (h : KeptBut q w w') (h' : KeptBut q w' w'') : KeptBut q w w'' :=
  ⟨h'.os.trans h.os, h'.tape.trans h.tape, h'.output.trans h.output, Nat.le_trans h.size h'.size, fun k hk hq => (h'.block k (Nat.lt_of_lt_of_le hk h.size) hq).trans (h.block k hk hq)⟩
theorem KeptBut.of_below (h : Below w.heap.size w w') : KeptBut q w w' := ⟨h.os, h.tape, h.output, h.size, fun k hk _ => h.block k hk⟩
theorem KeptBut.set (h : KeptBut q w w') (i : Nat) (u : Value) : KeptBut q w (w'.setCell ⟨q, i, none⟩ u) :=
  h.trans ⟨rfl, rfl, rfl, by simp, fun k _ hq => Below.heap_setCell w' ⟨q, i, none⟩ u k hq⟩
theorem KeptBut.blk (h : KeptBut q w w') {g : Nat} {t : TypeId} {cs : Array Value} (hb : Blk w g t cs) (hg : g ≠ q) : Blk w' g t cs := (h.block g hb.lt hg).trans hb
theorem KeptBut.below (h : KeptBut q w w') {B : Nat} (hB : B ≤ q) (hz : B ≤ w.heap.size) : Below B w w' := ⟨h.os, h.tape, h.output, h.size, fun k hk => h.block k (by omega) (by omega)⟩
theorem KeptBut.drewN (h : KeptBut q w w') (n : Nat) : KeptBut q w (w'.drewN n) := ⟨h.os, h.tape, h.output, h.size, h.block⟩
end

/-- What the closure of Valid finds: the expression's box, the next index, itself. -/
structure VEnv (w : World) (pe pn pw : Nat) (A : Option Addr) (c : Nat) (e : List Nod) (n : Nat) : Prop where
  next : Blk w pn 3 #[.int .i64 ((n : Int) - 1)]
  box : Blk w pe 24 #[.slice A e.length c]
  self : Blk w pw 133 #[.func (.func 82) #[] #[.pointer (some ⟨pn, 0, none⟩), .pointer (some ⟨pe, 0, none⟩), .pointer (some ⟨pw, 0, none⟩)]]
  ex : ExprAt w pe A e
  one : pe < pn
  two : pn < pw
theorem VEnv.kept {w w' : World} {pe pn pw : Nat} {A : Option Addr} {c : Nat} {e : List Nod} {n : Nat} (h : VEnv w pe pn pw A c e n) (hk : KeptBut pn w w') {m : Nat} (hn : Blk w' pn 3 #[.int .i64 ((m : Int) - 1)]) : VEnv w' pe pn pw A c e m :=
  ⟨hn, hk.blk h.box (by have := h.one; omega), hk.blk h.self (by have := h.two; omega), h.ex.below (hk.below (Nat.le_of_lt h.one) (Nat.le_of_lt h.box.lt)), h.one, h.two⟩
theorem VEnv.below {w w' : World} {pe pn pw : Nat} {A : Option Addr} {c : Nat} {e : List Nod} {n : Nat} (h : VEnv w pe pn pw A c e n) (hb : Below w.heap.size w w') : VEnv w' pe pn pw A c e n :=
  h.kept (KeptBut.of_below hb) (h.next.below hb h.next.lt)
theorem VEnv.drew {w : World} {pe pn pw : Nat} {A : Option Addr} {c : Nat} {e : List Nod} {n : Nat} (h : VEnv w pe pn pw A c e n) : VEnv w.drew pe pn pw A c e n := ⟨h.next, h.box, h.self, h.ex, h.one, h.two⟩
theorem VEnv.cells {w : World} {pe pn pw : Nat} {A : Option Addr} {c : Nat} {e : List Nod} {n : Nat} (h : VEnv w pe pn pw A c e n) :
    w.cell? ⟨pw, 0, none⟩ = some (.func (.func 82) #[] #[.pointer (some ⟨pn, 0, none⟩), .pointer (some ⟨pe, 0, none⟩), .pointer (some ⟨pw, 0, none⟩)]) ∧ w.cell? ⟨pe, 0, none⟩ = some (.slice A e.length c) :=
  ⟨h.self.cell 0, h.box.cell 0⟩

/-- What the closure leaves. -/
def VPost (w : World) (pe pn pw : Nat) (A : Option Addr) (c : Nat) (e : List Nod) (r : Bool × Nat) (en : Ending) (w' : World) : Prop :=
  en = .returned (.bool r.1) ∧ VEnv w' pe pn pw A c e r.2 ∧ KeptBut pn w w'

theorem formed_kids {x : Nod} (h : formedL x = true) : x.kids.length ≤ 3 := by
  have hk : operands x.op = x.kids.length := by
    unfold formedL at h
    cases hd : decide (operands x.op = x.kids.length)
    · rw [hd] at h; simp at h
    · exact of_decide_eq_true hd
  unfold operands at hk
  repeat' split at hk
  all_goals omega

set_option maxHeartbeats 2000000 in
set_option maxRecDepth 20000 in
theorem walk_any (pe pn pw : Nat) (A : Option Addr) (c : Nat) (e : List Nod) (hn : ∀ x ∈ e, x.name.size ≤ maxLen) (he : e.length ≤ 300) (N : Nat) :
    ∀ (n : Nat) (i d : Int) (w : World), n < N → n ≤ e.length → 1 ≤ d → d ≤ 41 → VEnv w pe pn pw A c e n →
      Calls Tryz.prog 82 #[.int .i64 i, .int .i64 d, .pointer (some ⟨pn, 0, none⟩), .pointer (some ⟨pe, 0, none⟩), .pointer (some ⟨pw, 0, none⟩)] w (VPost w pe pn pw A c e (walkN e n [(i, d)])) := by
  induction N with
  | zero => intro n i d w h; omega
  | succ N ih =>
    intro n i d w hN hne hd1 hd2 hV
    have IH := hide ih
    clear ih
    have c1 : w.cell? ⟨pn, 0, none⟩ = some (.int .i64 ((n : Int) - 1)) := hV.next.cell 0
    have c2 : w.cell? ⟨pe, 0, none⟩ = some (.slice A e.length c) := hV.box.cell 0
    have f1 := hV.next.frozen 0
    cases n with
    | zero =>
      have HW : Hid (walkN e 0 [(i, d)] = (false, 0)) := walkN_zero _ _ _
      have hc1 : ((0 : Nat) : Int) - 1 = -1 := by omega
      rw [hc1] at c1
      by_cases hi : i = -1
      · subst hi
        go_enter Tryz.func82, Tryz.ntmps82
        go_wp2
        go_ret
        unfold VPost
        rw [HW.out]
        exact ⟨rfl, hV, KeptBut.refl _ _⟩
      · have hi' : (i != -1) = true := bne_iff_ne.2 hi
        go_enter Tryz.func82, Tryz.ntmps82
        go_wp2
        go_ret
        unfold VPost
        rw [HW.out]
        exact ⟨rfl, hV, KeptBut.refl _ _⟩
    | succ n =>
      have hc1 : ((n + 1 : Nat) : Int) - 1 = n := by omega
      rw [hc1] at c1
      by_cases hi : i = n
      · subst hi
        have hnn : (((n : Nat) : Int) != ((n : Nat) : Int)) = false := by simp
        have h0 : decide ((n : Int) < 0) = false := by simp
        by_cases hd : 40 < d
        · have HW : Hid (walkN e (n + 1) [((n : Int), d)] = (false, n + 1)) := by
            show _ = _
            rw [walkN_succ, if_pos (.inr (.inl hd))]
          go_enter Tryz.func82, Tryz.ntmps82
          go_wp2
          go_ret
          unfold VPost
          rw [HW.out]
          exact ⟨rfl, hV, KeptBut.refl _ _⟩
        · obtain ⟨b, off, K, kc, rfl, hb, g0, g1, g2, g3, hK⟩ := hV.ex.at_ (i := n) (by omega)
          have hsz : (nodAt e n).name.size ≤ maxLen := hn _ (List.mem_of_getElem? (nodAt_get (by omega)))
          have hlen : n < e.length := hne
          have HV := hide hV
          have HK := hide hK
          have HW : Hid (walkN e (n + 1) [((n : Int), d)] = if formedL (nodAt e n) = false then (false, n + 1) else walkN e n ((nodAt e n).kids.reverse.map (fun k => (k, d + 1)))) := by
            show _ = _
            rw [walkN_succ, List.append_nil]
            by_cases hf : formedL (nodAt e n) = false
            · rw [if_pos (.inr (.inr hf)), if_pos hf]
            · rw [if_neg (by rintro (h | h | h)
                             · exact h rfl
                             · exact hd h
                             · exact hf h), if_neg hf]
          clear hV hK hc1
          go_enter Tryz.func82, Tryz.ntmps82
          go_wp2_with fail
          refine (formed_any (nodAt e n) K kc w hsz).mono ?_
          rintro en w1 ⟨rfl, hb1⟩
          have hV1 := HV.out.below hb1
          cases hf : formedL (nodAt e n)
          · have HF := hide hf
            clear hf
            go_wp2
            go_ret
            unfold VPost
            rw [HW.out, if_pos HF.out]
            exact ⟨rfl, hV1, KeptBut.of_below hb1⟩
          · have hk3 := formed_kids hf
            have HF := hide hf
            clear hf
            have d1 : w1.cell? ⟨pn, 0, none⟩ = some (.int .i64 (n : Int)) := by have := hV1.next.cell 0; rw [show ((n + 1 : Nat) : Int) - 1 = n from by omega] at this; exact this
            have d1f : w1.frozen? ⟨pn, 0, none⟩ = false := hV1.next.frozen 0
            have d2 : w1.cell? ⟨pe, 0, none⟩ = some (.slice (some ⟨b, off, none⟩) e.length c) := hV1.box.cell 0
            have hbz : b < w.heap.size := Nat.lt_trans hb (by have := HV.out.box.lt; exact this)
            have d3 : w1.cell? ⟨b, off + n * 4 + 3, none⟩ = some (.slice K (nodAt e n).kids.length kc) := (hb1.cell (p := ⟨b, off + n * 4 + 3, none⟩) hbz).trans g3
            have hbn : b ≠ pn := by have := HV.out.one; omega
            have hen : pe ≠ pn := by have := HV.out.one; omega
            clear g0 g1 g2 c1 c2 f1
            have hV2 : VEnv (w1.setCell ⟨pn, 0, none⟩ (.int .i64 ((n : Int) - 1))) pe pn pw (some ⟨b, off, none⟩) c e n := hV1.kept ((KeptBut.refl _ _).set 0 _) (Blk.set_ hV1.next 0 _)
            have hK2 : KeptBut pn w (w1.setCell ⟨pn, 0, none⟩ (.int .i64 ((n : Int) - 1))) := (KeptBut.of_below hb1).set 0 _
            go_wp2
            clear d1 d1f d2 d3 hV1 hb1
            go_loopw [8] (fun j wr => ∃ (k m : Nat), k ≤ (nodAt e n).kids.length ∧ j = .int .i64 ((k : Int) - 1) ∧ m ≤ n ∧ VEnv wr pe pn pw (some ⟨b, off, none⟩) c e m ∧ KeptBut pn w wr ∧
                walkN e n ((nodAt e n).kids.reverse.map (fun k => (k, d + 1))) = walkN e m (((nodAt e n).kids.take k).reverse.map (fun k => (k, d + 1)))) (fun j _ => (intOf j + 1).toNat)
            case atStart => exact ⟨(nodAt e n).kids.length, n, Nat.le_refl _, rfl, Nat.le_refl _, hV2, hK2, by rw [List.take_length]⟩
            case round =>
              clear hV2 hK2
              obtain ⟨k, m, hk, hj, hm, hVr, hKr, hwalk⟩ := hrel
              have HWK := hide hwalk
              clear hwalk
              cases k with
              | zero =>
                obtain rfl : u8 = .int .i64 (-1) := hj
                go_wp2
                go_ret
                unfold VPost
                rw [HW.out, if_neg (by rw [HF.out]; decide), HWK.out, List.take_zero, List.reverse_nil, List.map_nil, walkN_nil]
                exact ⟨rfl, hVr, hKr⟩
              | succ k =>
                obtain rfl : u8 = .int .i64 (k : Int) := by rw [hj]; congr 1; omega
                obtain ⟨b2, off2, rfl, hb2, g4⟩ := HK.out.at_ (k := k) (by omega)
                have hbz2 : b2 < w.heap.size := Nat.lt_trans hb2 HV.out.box.lt
                have hbr : b < wr.heap.size := Nat.lt_of_lt_of_le hbz hKr.size
                have hbr2 : b2 < wr.heap.size := Nat.lt_of_lt_of_le hbz2 hKr.size
                have hbn2 : b2 ≠ pn := by have := HV.out.one; omega
                have hkl : k < (nodAt e n).kids.length := hk
                have HT : Hid (((nodAt e n).kids.take (k + 1)).reverse.map (fun k => (k, d + 1)) = [(nth (nodAt e n).kids k, d + 1)] ++ ((nodAt e n).kids.take k).reverse.map (fun k => (k, d + 1))) := by
                  show _ = _
                  rw [nth_take hkl, List.reverse_append]
                  rfl
                have SD : Hid (wr.drew.cell? ⟨pw, 0, none⟩ = some (.func (.func 82) #[] #[.pointer (some ⟨pn, 0, none⟩), .pointer (some ⟨pe, 0, none⟩), .pointer (some ⟨pw, 0, none⟩)]) ∧
                    wr.drew.cell? ⟨pe, 0, none⟩ = some (.slice (some ⟨b, off, none⟩) e.length c) ∧
                    wr.drew.cell? ⟨b, off + n * 4 + 3, none⟩ = some (.slice (some ⟨b2, off2, none⟩) (nodAt e n).kids.length kc) ∧
                    wr.drew.cell? ⟨b2, off2 + k, none⟩ = some (.int .i64 (nth (nodAt e n).kids k))) := ⟨hVr.self.cell 0, hVr.box.cell 0, (World.cell?_of_block (hKr.block b hbz hbn)).trans g3, (World.cell?_of_block (hKr.block b2 hbz2 hbn2)).trans g4⟩
                have hd3 : IntKind.i64.wrap (d + 1) = d + 1 := IntWalk.i64_in _ (by omega)
                clear hj
                go_upto_region 7 with (fail)
                go_region_held3 (fun w' => w'.cell? ⟨pw, 0, none⟩ = some (.func (.func 82) #[] #[.pointer (some ⟨pn, 0, none⟩), .pointer (some ⟨pe, 0, none⟩), .pointer (some ⟨pw, 0, none⟩)]) ∧
                    w'.cell? ⟨pe, 0, none⟩ = some (.slice (some ⟨b, off, none⟩) e.length c) ∧
                    w'.cell? ⟨b, off + n * 4 + 3, none⟩ = some (.slice (some ⟨b2, off2, none⟩) (nodAt e n).kids.length kc) ∧
                    w'.cell? ⟨b2, off2 + k, none⟩ = some (.int .i64 (nth (nodAt e n).kids k)))
                  (first | exact SD.out | exact SK.out)
                  (first | (go_at_call 82; refine (IH.out m (nth (nodAt e n).kids k) (d + 1) wr.drew (by omega) (by omega) (by omega) (by omega) hVr.drew).mono ?_; rintro en w2 ⟨rfl, hV3, hK3⟩; have HV3 := hide hV3; have HK3 := hide hK3; have SK : Hid (w2.cell? ⟨pw, 0, none⟩ = some (.func (.func 82) #[] #[.pointer (some ⟨pn, 0, none⟩), .pointer (some ⟨pe, 0, none⟩), .pointer (some ⟨pw, 0, none⟩)]) ∧ w2.cell? ⟨pe, 0, none⟩ = some (.slice (some ⟨b, off, none⟩) e.length c) ∧ w2.cell? ⟨b, off + n * 4 + 3, none⟩ = some (.slice (some ⟨b2, off2, none⟩) (nodAt e n).kids.length kc) ∧ w2.cell? ⟨b2, off2 + k, none⟩ = some (.int .i64 (nth (nodAt e n).kids k))) := ⟨hV3.cells.1, hV3.cells.2, (World.cell?_of_block (hK3.block b hbr hbn)).trans SD.out.2.2.1, (World.cell?_of_block (hK3.block b2 hbr2 hbn2)).trans SD.out.2.2.2⟩; clear hV3 hK3))
                have hV3 := HV3.out
                have hK3 : KeptBut pn w w2 := hKr.trans ⟨HK3.out.os, HK3.out.tape, HK3.out.output, HK3.out.size, HK3.out.block⟩
                have HA : Hid (walkN e n ((nodAt e n).kids.reverse.map (fun k => (k, d + 1))) = if (walkN e m [(nth (nodAt e n).kids k, d + 1)]).1 = true then walkN e (walkN e m [(nth (nodAt e n).kids k, d + 1)]).2 (((nodAt e n).kids.take k).reverse.map (fun k => (k, d + 1))) else walkN e m [(nth (nodAt e n).kids k, d + 1)]) := by
                  show _ = _
                  rw [HWK.out, HT.out, walkN_append]
                have hle := walkN_le e m [(nth (nodAt e n).kids k, d + 1)]
                clear SK SD HV3 HK3 hVr hKr HWK HT hd3 g3 g4
                generalize walkN e m [(nth (nodAt e n).kids k, d + 1)] = r at hV3 HA hle ⊢
                obtain ⟨rb, rn⟩ := r
                dsimp only at hV3 HA hle ⊢
                cases rb
                · go_wp2
                  go_ret
                  unfold VPost
                  rw [HW.out, if_neg (by rw [HF.out]; decide), HA.out, if_neg (by decide)]
                  exact ⟨rfl, hV3, hK3⟩
                · go_wp2
                  go_roundw
                  case rel => exact ⟨k, rn, by omega, rfl, by omega, hV3, hK3, by rw [HA.out, if_pos rfl]⟩
                  case measure => simp [intOf]
      · have HW : Hid (walkN e (n + 1) [(i, d)] = (false, n + 1)) := by
          show _ = _
          rw [walkN_succ, if_pos (.inl hi)]
        have hi' : (i != (n : Int)) = true := bne_iff_ne.2 hi
        clear hc1
        go_enter Tryz.func82, Tryz.ntmps82
        go_wp2
        go_ret
        unfold VPost
        rw [HW.out]
        exact ⟨rfl, hV, KeptBut.refl _ _⟩

set_option maxHeartbeats 2000000 in
set_option maxRecDepth 20000 in
theorem valid_any (A : Option Addr) (c : Nat) (e : List Nod) (w : World) (h : ExprAt w w.heap.size A e) (hn : ∀ x ∈ e, x.name.size ≤ maxLen) (hm : e.length ≤ maxLen) :
    Calls Tryz.prog 33 #[.slice A e.length c] w fun en w' => en = .returned (.bool (validL e)) ∧ Below w.heap.size w w' := by
  unfold maxLen at hm
  have hmf : ∀ (fn : Fn) (first cap : Array Value) (w : World), (Instr.makeFunc fn first cap).run Tryz.prog w = .ok (.func fn first cap) w := fun _ _ _ _ => rfl
  by_cases h1 : e.length < 1
  · have HV : Hid (validL e = false) := by
      show _ = _
      unfold validL
      rw [decide_eq_false (by omega)]
      rfl
    go_enter Tryz.func33, Tryz.ntmps33
    go_wp2
    go_ret
    exact ⟨by rw [HV.out]; rfl, (Below.refl _ _).alloc (Nat.le_refl _) _⟩
  · by_cases h3 : 300 < e.length
    · have HV : Hid (validL e = false) := by
        show _ = _
        unfold validL
        rw [decide_eq_false (p := e.length ≤ 300) (by omega)]
        simp
      go_enter Tryz.func33, Tryz.ntmps33
      go_wp2
      go_ret
      exact ⟨by rw [HV.out]; rfl, (Below.refl _ _).alloc (Nat.le_refl _) _⟩
    · go_enter Tryz.func33, Tryz.ntmps33
      have HE : ¬ (↑e.length : Int) < 1 := by omega
      have hc1 : decide ((e.length : Int) < 1) = false := decide_eq_false (by omega)
      have hc2 : decide ((300 : Int) < (e.length : Int)) = false := decide_eq_false (by omega)
      have HVL : Hid (validL e = ((walkN e e.length [((e.length : Int) - 1, 1)]).1 && decide ((walkN e e.length [((e.length : Int) - 1, 1)]).2 = 0))) := by
        show _ = _
        unfold validL
        rw [decide_eq_true (p := 1 ≤ e.length) (by omega), decide_eq_true (p := e.length ≤ 300) (by omega), Bool.true_and, Bool.true_and]
      go_wp2_with fail
      have henv : ∀ f : Value, f = .func (.func 82) #[] #[.pointer (some ⟨w.heap.size + 1, 0, none⟩), .pointer (some ⟨w.heap.size, 0, none⟩), .pointer (some ⟨w.heap.size + 1 + 1, 0, none⟩)] →
          VEnv (((w.alloc (Obj.cells #[Value.slice A e.length c] 24)).alloc (Obj.cells #[Value.int IntKind.i64 (↑e.length - 1)] 3)).alloc (Obj.cells #[f] 133)) w.heap.size (w.heap.size + 1) (w.heap.size + 1 + 1) A c e e.length := by
        rintro f rfl
        have n1 := Blk.new (w.alloc (Obj.cells #[Value.slice A e.length c] 24)) 3 #[Value.int IntKind.i64 (↑e.length - 1)]
        have n2 := fun f => Blk.new ((w.alloc (Obj.cells #[Value.slice A e.length c] 24)).alloc (Obj.cells #[Value.int IntKind.i64 (↑e.length - 1)] 3)) 133 #[f]
        simp at n1 n2
        exact ⟨n1.alloc _, ((Blk.new w _ _).alloc _).alloc _, n2 _, ((h.keep (fun p hp => World.cell?_alloc_lt w _ p hp)).keep (fun p hp => World.cell?_alloc_lt _ _ p (by simp; omega))).keep (fun p hp => World.cell?_alloc_lt _ _ p (by simp; omega)), by omega, by omega⟩
      have hb0 : ∀ f : Value, Below w.heap.size w (((w.alloc (Obj.cells #[Value.slice A e.length c] 24)).alloc (Obj.cells #[Value.int IntKind.i64 (↑e.length - 1)] 3)).alloc (Obj.cells #[f] 133)) := fun f =>
        (((Below.refl _ _).alloc (Nat.le_refl _) _).alloc (by simp) _).alloc (by simp; omega) _
      refine (walk_any w.heap.size (w.heap.size + 1) (w.heap.size + 1 + 1) A c e hn (by omega) (e.length + 1) e.length _ 1 _ (by omega) (by omega) (by omega) (by omega) (henv _ rfl)).mono ?_
      rintro en w2 ⟨rfl, hV2, hK2⟩
      have hb2 := (hb0 _).trans (hK2.below (Nat.le_succ _) (by simp; omega))
      have d1 := hV2.next.cell 0
      clear henv hb0 hK2
      have HE2 : 1 ≤ (e.length : Int) := HE
      generalize walkN e e.length [((e.length : Int) - 1, 1)] = r at HVL hV2 d1 ⊢
      obtain ⟨rb, rn⟩ := r
      dsimp only at HVL hV2 d1 ⊢
      cases rb
      · go_wp2
        go_ret
        exact ⟨by rw [HVL.out]; rfl, hb2⟩
      · by_cases h0 : rn = 0
        · subst h0
          have d1' : w2.cell? ⟨w.heap.size + 1, 0, none⟩ = some (.int .i64 (-1)) := d1
          clear d1
          go_wp2
          go_ret
          exact ⟨by rw [HVL.out]; rfl, hb2⟩
        · have hne : (((rn : Nat) : Int) - 1 == -1) = false := beq_eq_false_iff_ne.2 (by omega)
          have d1' : w2.cell? ⟨w.heap.size + 1, 0, none⟩ = some (.int .i64 ((rn : Int) - 1)) := d1
          clear d1
          have HR : Hid (validL e = false) := by
            show _ = _
            rw [HVL.out, decide_eq_false h0]
            rfl
          go_wp2
          go_ret
          exact ⟨by rw [HR.out]; rfl, hb2⟩
end Go.Proofs.YtkomgidcgepknaaGreatDoor
