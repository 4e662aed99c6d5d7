/- The laws StampBelow and StampOrder, walked. -/
import Derived.Test.YtackbdcpbkohoaaClock
namespace Go.Proofs.Ytackbdcpbkohoaa
open Go.RowKit
set_option maxHeartbeats 800000 in
theorem stampBelow_any (aA : Option Addr) (an ac : Nat) (al : List Int) (bA : Option Addr) (bn bc : Nat) (bl : List Int) (w : World) (ha : Ints w aA an al) (ya : an * 8 ≤ 140737488355328) (hb : Ints w bA bn bl) (yb : bn * 8 ≤ 140737488355328) : Calls Try.prog 3 #[.slice aA an ac, .slice bA bn bc] w fun e w' => e = .returned (.bool true) ∧ Below w.heap.size w w' := by
  go_enter Try.func3, Try.ntmps3
  go_wp2_with fail
  refine (head_any _).mono ?_
  rintro e w0 ⟨rfl, hB⟩
  go_wp2_with fail
  refine (copied_any _ _ _ al _ (ha.below hB) ya).mono ?_
  rintro e wa0 ⟨A0, c0, rfl, ho0, hb0, -⟩
  have hB1 := below_then hB hb0 hB.size
  go_wp2_with fail
  refine (copied_any _ _ _ bl _ (hb.below hB1) yb).mono ?_
  rintro e wb0 ⟨B0, d0, rfl, hp0, hd0, -⟩
  have hB2 := below_then hB1 hd0 hB1.size
  go_wp2_with fail
  refine (below_any _ _ _ _ _ _ al bl _ ((own_ints ho0 (by omega)).below hd0) (own_ints hp0 (by omega))).mono ?_
  rintro e wc0 ⟨rfl, rfl⟩
  clear ho0 hp0 hb0 hd0
  go_wp2_with fail
  refine (refBelow_any _ _ _ _ _ _ al bl _ (ha.below hB2) (hb.below hB2)).mono ?_
  rintro e w9 ⟨rfl, hB9⟩
  go_wp2
  go_ret
  exact ⟨by simp, below_then hB2 hB9 hB2.size⟩
theorem belowB_refl (xs : List Int) : belowB xs xs = true := belowB_yes rfl fun _ _ => Int.le_refl _
theorem belowB_trans {xs ys zs : List Int} (h : belowB xs ys = true) (k : belowB ys zs = true) : belowB xs zs = true := by
  obtain ⟨h1, h2⟩ := of_decide_eq_true h
  obtain ⟨k1, k2⟩ := of_decide_eq_true k
  exact belowB_yes (h1.trans k1) fun i hi => Int.le_trans (h2 i hi) (k2 i (by omega))
theorem belowB_anti (xs ys : List Int) : (belowB xs ys && belowB ys xs) = decide (xs = ys) := by
  by_cases h : xs = ys
  · subst h; simp [belowB_refl]
  · rw [decide_eq_false h, Bool.and_eq_false_iff]
    by_cases h1 : belowB xs ys = true
    · by_cases h2 : belowB ys xs = true
      · exfalso
        obtain ⟨a1, a2⟩ := of_decide_eq_true h1
        obtain ⟨b1, b2⟩ := of_decide_eq_true h2
        exact h ((list_eq_iff xs ys a1).2 fun i hi => Int.le_antisymm (a2 i hi) (b2 i (by omega)))
      · exact .inr (by simpa using h2)
    · exact .inl (by simpa using h1)
set_option maxRecDepth 100000 in
set_option maxHeartbeats 1600000 in
theorem stampOrder_any (aA : Option Addr) (an ac : Nat) (al : List Int) (bA : Option Addr) (bn bc : Nat) (bl : List Int) (cA : Option Addr) (cn cc : Nat) (cl : List Int) (w : World) (ha : Ints w aA an al) (ya : an * 8 ≤ 140737488355328) (hb : Ints w bA bn bl) (yb : bn * 8 ≤ 140737488355328) (hc : Ints w cA cn cl) (yc : cn * 8 ≤ 140737488355328) : Calls Try.prog 4 #[.slice aA an ac, .slice bA bn bc, .slice cA cn cc] w fun e w' => e = .returned (.bool true) ∧ Below w.heap.size w w' := by
  have hanti := belowB_anti al bl
  have htr : belowB al bl = true → belowB bl cl = true → belowB al cl = true := belowB_trans
  have hrf := belowB_refl al
  obtain ⟨x1, hx1⟩ : ∃ x, belowB al bl = x := ⟨_, rfl⟩
  obtain ⟨x2, hx2⟩ : ∃ x, belowB bl al = x := ⟨_, rfl⟩
  obtain ⟨x3, hx3⟩ : ∃ x, belowB bl cl = x := ⟨_, rfl⟩
  obtain ⟨x4, hx4⟩ : ∃ x, belowB al cl = x := ⟨_, rfl⟩
  rw [hx1, hx2] at hanti
  rw [hx1, hx3, hx4] at htr
  have X1 := Lib.hid hx1
  have X2 := Lib.hid hx2
  have X3 := Lib.hid hx3
  have X4 := Lib.hid hx4
  have XR := Lib.hid hrf
  have XT := Lib.hid htr
  have XA := Lib.hid hanti
  clear hx1 hx2 hx3 hx4 hrf htr hanti
  go_enter Try.func4, Try.ntmps4
  go_wp2_with fail
  refine (head_any _).mono ?_
  rintro e w0 ⟨rfl, hB⟩
  go_wp2_with fail
  refine (copied_any _ _ _ al _ (ha.below hB) ya).mono ?_
  rintro e wa1 ⟨A1, c1, rfl, ho1, hb1, -⟩
  have hB4 := below_then hB hb1 hB.size
  go_wp2_with fail
  refine (copied_any _ _ _ bl _ (hb.below hB4) yb).mono ?_
  rintro e wb1 ⟨B1, d1, rfl, hp1, hd1, -⟩
  have hB5 := below_then hB4 hd1 hB4.size
  go_wp2_with fail
  refine (below_any _ _ _ _ _ _ al bl _ ((own_ints ho1 (by omega)).below hd1) (own_ints hp1 (by omega))).mono ?_
  rintro e wc1 ⟨rfl, rfl⟩
  clear ho1 hp1 hb1 hd1
  rw [X1.out]
  go_wp2_with fail
  refine (copied_any _ _ _ bl _ (hb.below hB5) yb).mono ?_
  rintro e wa2 ⟨A2, c2, rfl, ho2, hb2, -⟩
  have hB7 := below_then hB5 hb2 hB5.size
  go_wp2_with fail
  refine (copied_any _ _ _ al _ (ha.below hB7) ya).mono ?_
  rintro e wb2 ⟨B2, d2, rfl, hp2, hd2, -⟩
  have hB8 := below_then hB7 hd2 hB7.size
  go_wp2_with fail
  refine (below_any _ _ _ _ _ _ bl al _ ((own_ints ho2 (by omega)).below hd2) (own_ints hp2 (by omega))).mono ?_
  rintro e wc2 ⟨rfl, rfl⟩
  clear ho2 hp2 hb2 hd2
  rw [X2.out]
  go_wp2_with fail
  refine (copied_any _ _ _ bl _ (hb.below hB8) yb).mono ?_
  rintro e wa3 ⟨A3, c3, rfl, ho3, hb3, -⟩
  have hB10 := below_then hB8 hb3 hB8.size
  go_wp2_with fail
  refine (copied_any _ _ _ cl _ (hc.below hB10) yc).mono ?_
  rintro e wb3 ⟨B3, d3, rfl, hp3, hd3, -⟩
  have hB11 := below_then hB10 hd3 hB10.size
  go_wp2_with fail
  refine (below_any _ _ _ _ _ _ bl cl _ ((own_ints ho3 (by omega)).below hd3) (own_ints hp3 (by omega))).mono ?_
  rintro e wc3 ⟨rfl, rfl⟩
  clear ho3 hp3 hb3 hd3
  rw [X3.out]
  go_wp2_with fail
  refine (copied_any _ _ _ al _ (ha.below hB11) ya).mono ?_
  rintro e wa4 ⟨A4, c4, rfl, ho4, hb4, -⟩
  have hB13 := below_then hB11 hb4 hB11.size
  go_wp2_with fail
  refine (copied_any _ _ _ cl _ (hc.below hB13) yc).mono ?_
  rintro e wb4 ⟨B4, d4, rfl, hp4, hd4, -⟩
  have hB14 := below_then hB13 hd4 hB13.size
  go_wp2_with fail
  refine (below_any _ _ _ _ _ _ al cl _ ((own_ints ho4 (by omega)).below hd4) (own_ints hp4 (by omega))).mono ?_
  rintro e wc4 ⟨rfl, rfl⟩
  clear ho4 hp4 hb4 hd4
  rw [X4.out]
  go_wp2_with fail
  refine (copied_any _ _ _ al _ (ha.below hB14) ya).mono ?_
  rintro e wa5 ⟨A5, c5, rfl, ho5, hb5, -⟩
  have hB16 := below_then hB14 hb5 hB14.size
  go_wp2_with fail
  refine (copied_any _ _ _ al _ (ha.below hB16) ya).mono ?_
  rintro e wb5 ⟨B5, d5, rfl, hp5, hd5, -⟩
  have hB17 := below_then hB16 hd5 hB16.size
  go_wp2_with fail
  refine (below_any _ _ _ _ _ _ al al _ ((own_ints ho5 (by omega)).below hd5) (own_ints hp5 (by omega))).mono ?_
  rintro e wc5 ⟨rfl, rfl⟩
  clear ho5 hp5 hb5 hd5
  rw [XR.out]
  have fin : ∀ W, Below w.heap.size w W → Calls Try.prog 14 #[.slice aA an ac, .slice bA bn bc] W fun e w' => e = .returned (.bool (x1 && x2)) ∧ Below w.heap.size w w' := by
    intro W hW
    refine (same_any _ _ _ _ _ _ al bl W (ha.below hW) (hb.below hW)).mono ?_
    rintro e w' ⟨rfl, hb'⟩
    exact ⟨by rw [XA.out], below_then hW hb' hW.size⟩
  have FIN := Lib.hid (fin _ hB17)
  clear fin
  cases x1 <;> cases x3 <;> cases x4 <;> first | exact absurd (XT.out rfl rfl) (by decide) | skip
  all_goals
    cases x2
    all_goals
      go_wp2_with (go_at_call 14; refine FIN.out.mono ?_; rintro e w9 ⟨rfl, hB9⟩)
      go_ret
      exact ⟨rfl, hB9⟩
end Go.Proofs.Ytackbdcpbkohoaa
