/-
  Chapter 54: the chapter's examples, run.
-/
import Derived.Test.YtnoihbbfodkejaaHead
namespace Go.Proofs.Ytnoihbbfodkejaa
open Go.RowKit Go.Maps

def ta : ByteArray := ⟨#[97]⟩
def tb : ByteArray := ⟨#[98]⟩
def tc : ByteArray := ⟨#[99]⟩
def td : ByteArray := ⟨#[100]⟩
def h0 : NS := NS.new 3
def h1 : NS := h0.send 0 1 ta
def h2 : NS := h1.send 0 1 tb
def h3 : NS := h2.deliver 0 1 0 false true
def h4 : NS := h3.deliver 0 1 1 false false
def h5 : NS := h4.deliver 0 1 0 true false
def h6 : NS := h5.deliver 0 1 0 false false
def h7 : NS := h6.turn 1 0 true
def h8 : NS := h7.send 0 1 tc
def h9 : NS := h8.send 0 2 td
theorem small0 : h0.Small := NS.new_small 3
theorem small1 : h1.Small := NS.send_small small0 _ _ _
theorem small2 : h2.Small := NS.send_small small1 _ _ _
theorem small3 : h3.Small := NS.deliver_small small2 _ _ _ _ _
theorem small4 : h4.Small := NS.deliver_small small3 _ _ _ _ _
theorem small5 : h5.Small := NS.deliver_small small4 _ _ _ _ _
theorem small6 : h6.Small := NS.deliver_small small5 _ _ _ _ _
theorem small7 : h7.Small := NS.turn_small small6 _ _ _
theorem small8 : h8.Small := NS.send_small small7 _ _ _
theorem small9 : h9.Small := NS.send_small small8 _ _ _
theorem e0 : h0.sendErr 0 1 ta = 0 := by decide
theorem e1 : h1.sendErr 0 1 tb = 0 := by decide
theorem e2 : h2.dOk 0 1 0 false = true := by decide
theorem e2t : h2.dText 0 1 0 false = ta := by rfl
theorem e3 : h3.dOk 0 1 1 false = true := by decide
theorem e3t : h3.dText 0 1 1 false = tb := by rfl
theorem e4 : h4.dOk 0 1 0 true = false := by decide
theorem e4t : h4.dText 0 1 0 true = ByteArray.empty := by rfl
theorem e5 : h5.dOk 0 1 0 false = false := by decide
theorem e5t : h5.dText 0 1 0 false = ByteArray.empty := by rfl
theorem e6 : h6.turnErr 1 0 true = 0 := by decide
theorem e7 : h7.sendErr 0 1 tc = 18 := by decide
theorem e8 : h8.sendErr 0 2 td = 0 := by decide
theorem e9 : h9.waiting 0 2 = [td] := by rfl

set_option maxHeartbeats 4000000 in
theorem head_any (w : World) : Calls Try.prog 10 #[] w fun e w' => e = .returned (.bool true) ∧ Below w.heap.size w w' := by
  go_enter Try.func10, Try.ntmps10
  go_wp2_with fail
  refine (new_ok 3 w (by omega)).mono ?_
  rintro e w0 ⟨p, F0, rfl, n0, l0, b0⟩
  have N0 : Hid (NetAt w0 p 0 h0 F0) := n0
  have L0 := hide l0
  have B0 := hide b0
  clear n0 l0 b0
  go_wp2_with fail
  refine (send_any p 0 h0 F0 0 1 ta w0 N0.out (by decide) (by decide) (by unfold maxLen; omega)).mono ?_
  rintro e w1 ⟨rfl, F1, n1, g1⟩
  rw [e0]
  have N1 : Hid (NetAt w1 p 1 h1 F1) := n1
  have L1 : Hid (∀ k, F1 k → w.heap.size ≤ k) := (g1.below B0.out.size L0.out).2
  have B1 : Hid (Below w.heap.size w w1) := B0.out.trans (g1.below B0.out.size L0.out).1
  clear n1 g1 N0 L0 B0
  go_wp2_with fail
  refine (send_any p 1 h1 F1 0 1 tb w1 N1.out (by decide) (by decide) (by unfold maxLen; omega)).mono ?_
  rintro e w2 ⟨rfl, F2, n2, g2⟩
  rw [e1]
  have N2 : Hid (NetAt w2 p 2 h2 F2) := n2
  have L2 : Hid (∀ k, F2 k → w.heap.size ≤ k) := (g2.below B1.out.size L1.out).2
  have B2 : Hid (Below w.heap.size w w2) := B1.out.trans (g2.below B1.out.size L1.out).1
  clear n2 g2 N1 L1 B1
  go_wp2_with fail
  refine (deliver_any p 2 h2 F2 0 1 0 false true w2 N2.out (by decide) (by decide) (by unfold maxLen; omega) small2).mono ?_
  rintro e w3 ⟨rfl, F3, n3, g3⟩
  rw [e2, e2t]
  have N3 : Hid (NetAt w3 p 3 h3 F3) := n3
  have L3 : Hid (∀ k, F3 k → w.heap.size ≤ k) := (g3.below B2.out.size L2.out).2
  have B3 : Hid (Below w.heap.size w w3) := B2.out.trans (g3.below B2.out.size L2.out).1
  clear n3 g3 N2 L2 B2
  go_wp2_with fail
  refine (deliver_any p 3 h3 F3 0 1 1 false false w3 N3.out (by decide) (by decide) (by unfold maxLen; omega) small3).mono ?_
  rintro e w4 ⟨rfl, F4, n4, g4⟩
  rw [e3, e3t]
  have N4 : Hid (NetAt w4 p 4 h4 F4) := n4
  have L4 : Hid (∀ k, F4 k → w.heap.size ≤ k) := (g4.below B3.out.size L3.out).2
  have B4 : Hid (Below w.heap.size w w4) := B3.out.trans (g4.below B3.out.size L3.out).1
  clear n4 g4 N3 L3 B3
  go_wp2_with fail
  refine (deliver_any p 4 h4 F4 0 1 0 true false w4 N4.out (by decide) (by decide) (by unfold maxLen; omega) small4).mono ?_
  rintro e w5 ⟨rfl, F5, n5, g5⟩
  rw [e4, e4t]
  have N5 : Hid (NetAt w5 p 5 h5 F5) := n5
  have L5 : Hid (∀ k, F5 k → w.heap.size ≤ k) := (g5.below B4.out.size L4.out).2
  have B5 : Hid (Below w.heap.size w w5) := B4.out.trans (g5.below B4.out.size L4.out).1
  clear n5 g5 N4 L4 B4
  go_wp2_with fail
  refine (deliver_any p 5 h5 F5 0 1 0 false false w5 N5.out (by decide) (by decide) (by unfold maxLen; omega) small5).mono ?_
  rintro e w6 ⟨rfl, F6, n6, g6⟩
  rw [e5, e5t]
  have N6 : Hid (NetAt w6 p 6 h6 F6) := n6
  have L6 : Hid (∀ k, F6 k → w.heap.size ≤ k) := (g6.below B5.out.size L5.out).2
  have B6 : Hid (Below w.heap.size w w6) := B5.out.trans (g6.below B5.out.size L5.out).1
  clear n6 g6 N5 L5 B5
  go_wp2_with fail
  refine (cut_any p 6 h6 F6 1 0 w6 N6.out (by decide) (by decide) (by unfold maxLen; omega)).mono ?_
  rintro e w7 ⟨rfl, n7, m7⟩
  obtain ⟨F7, hF7⟩ : ∃ F7, F7 = F6 := ⟨_, rfl⟩
  have g7 : NetGo F6 F7 w6 w7 := ⟨fun _ h => .inl (hF7 ▸ h), m7⟩
  rw [← hF7] at n7
  clear m7 hF7
  rw [e6]
  have N7 : Hid (NetAt w7 p 10 h7 F7) := n7
  have L7 : Hid (∀ k, F7 k → w.heap.size ≤ k) := (g7.below B6.out.size L6.out).2
  have B7 : Hid (Below w.heap.size w w7) := B6.out.trans (g7.below B6.out.size L6.out).1
  clear n7 g7 N6 L6 B6
  go_wp2_with fail
  refine (send_any p 10 h7 F7 0 1 tc w7 N7.out (by decide) (by decide) (by unfold maxLen; omega)).mono ?_
  rintro e w8 ⟨rfl, F8, n8, g8⟩
  rw [e7]
  have N8 : Hid (NetAt w8 p 11 h8 F8) := n8
  have L8 : Hid (∀ k, F8 k → w.heap.size ≤ k) := (g8.below B7.out.size L7.out).2
  have B8 : Hid (Below w.heap.size w w8) := B7.out.trans (g8.below B7.out.size L7.out).1
  clear n8 g8 N7 L7 B7
  go_wp2_with fail
  refine (send_any p 11 h8 F8 0 2 td w8 N8.out (by decide) (by decide) (by unfold maxLen; omega)).mono ?_
  rintro e w9 ⟨rfl, F9, n9, g9⟩
  rw [e8]
  have N9 : Hid (NetAt w9 p 12 h9 F9) := n9
  have L9 : Hid (∀ k, F9 k → w.heap.size ≤ k) := (g9.below B8.out.size L8.out).2
  have B9 : Hid (Below w.heap.size w w9) := B8.out.trans (g9.below B8.out.size L8.out).1
  clear n9 g9 N8 L8 B8
  have et : ta.toList = [97] := by rw [ByteArray.toList_eq]; rfl
  have eb : tb.toList = [98] := by rw [ByteArray.toList_eq]; rfl
  go_wp2_with fail
  refine (waiting_any p 12 h9 F9 0 2 w9 N9.out (by decide) (by decide) small9).mono ?_
  rw [e9]
  rintro e w10 ⟨A, c, rfl, hown, hb10⟩
  have B10 := hide (B9.out.trans (hb10.mono B9.out.size))
  have R1 : RS (w10.alloc (.cells #[.string ⟨#[100]⟩] 9)) (w10.alloc (.cells #[.string ⟨#[100]⟩] 9)).heap.size A 1 [td] := ((Own.alloc hown _).reads : Reads _ _ 1 A 1 _)
  have R2 : RS (w10.alloc (.cells #[.string ⟨#[100]⟩] 9)) (w10.alloc (.cells #[.string ⟨#[100]⟩] 9)).heap.size (some ⟨w10.heap.size, 0, none⟩) 1 [td] := by
    have := reads_new w10 #[.string ⟨#[100]⟩] 9 1 1 rfl
    simpa [RS, strs, td] using this
  have BA : Hid (Below w.heap.size w (w10.alloc (.cells #[.string ⟨#[100]⟩] 9))) := B10.out.alloc B10.out.size _
  have HR1 := hide R1
  have HR2 := hide R2
  clear hown hb10 N9 L9 B9 B10 R1 R2
  go_wp2_with fail
  generalize w10.alloc (.cells #[.string ⟨#[100]⟩] 9) = w11 at HR1 HR2 BA ⊢
  refine (texts_any A 1 c (some ⟨w10.heap.size, 0, none⟩) 1 1 [td] [td] w11 HR1.out HR2.out (by unfold maxLen; omega)).mono ?_
  rintro e w12 ⟨rfl, m, rfl⟩
  have et : decide ([td] = [td]) = true := by simp
  rw [et]
  go_wp2
  go_ret
  exact ⟨rfl, below_drewN BA.out _⟩
end Go.Proofs.Ytnoihbbfodkejaa
