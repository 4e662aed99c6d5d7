/- FrameBack, FrameForm, FrameCut, walked. -/
import Derived.Test.YtjgiiolamaimnaaHead
import Derived.Test.YtjgiiolamaimnaaPureG
namespace Go.Proofs.Ytjgiiolamaimnaa
open Go.RowKit
set_option linter.unusedVariables false
set_option linter.unusedSimpArgs false
set_option maxHeartbeats 1600000 in
theorem frameBack_any (A : Option Addr) (n c : Nat) (p : List UInt8) (A2 : Option Addr) (n2 c2 : Nat) (tl : List UInt8) (w : World) (hb : Bytes w A n p) (hn : n ≤ 140737488355328) (hb2 : Bytes w A2 n2 tl) (hn2 : n2 ≤ 140737488355328) :
    Calls Try.prog 6 #[.slice A n c, .slice A2 n2 c2] w fun e w' => e = .returned (.bool true) ∧ Below w.heap.size w w' := by
  have HL := Lib.hid hb.1
  have HL2 := Lib.hid hb2.1
  go_enter Try.func6, Try.ntmps6
  go_wp2_with fail
  refine (head_any _).mono ?_
  rintro e w1 ⟨rfl, b1⟩
  by_cases hle : n ≤ 65536
  · go_wp2_with fail
    refine (copied_any _ _ _ _ _ (hb.below b1) hn).mono ?_
    rintro e w3 ⟨A3, c3, rfl, ho3, b3, -⟩
    have b13 := below_then b1 b3 b1.size
    go_wp2_with fail
    refine (fmake_any _ _ _ _ _ (own_bytes' ho3 (by omega)) hle).mono ?_
    rintro e w4 ⟨A4, c4, rfl, ho4, b4⟩
    have b14 := below_then b13 b4 b13.size
    go_wp2_with fail
    refine (copied_any _ _ _ _ _ (own_bytes' ho4 (by omega)) (by omega)).mono ?_
    rintro e w5 ⟨A5, c5, rfl, ho5, b5, -⟩
    have b15 := below_then b14 b5 b14.size
    have h25 := hb2.below b15
    have ho5' := own_mono ho5 (B' := w.heap.size) b14.size
    have hs5 := b15.size
    clear ho5
    go_wp2_with (at_builtin; (refine wpl_append _ rfl _ _ 22 rfl w.heap.size 5 _ 1 1 Try.underlying22 info_byte rfl (by decide) (.slice A5 (n + 9) c5) (n + 9) _ rfl ho5' A2 n2 c2 (bvals tl) rfl h25.rdc (bvals_one _) (by decide) (by decide) (by omega) hs5 ?_); intro A6 c6 w6 ho6 hg6 hne6 hnn6; clear hnn6 hne6)
    have b16 := b15.grown hg6 hs5 (own_base ho5')
    rw [← bvals_append] at ho6
    refine (fread_any _ _ _ _ _ (own_bytes' ho6 (by omega)) (own_cap4 ho6) (by omega)).mono ?_
    rintro e w7 ⟨A7, c7, rfl, ho7, b7⟩
    have b17 := below_then b16 b7 b16.size
    have hr := frame_back p tl (by rw [HL.out]; exact hle)
    rw [hr] at ho7 ⊢
    simp only [HL.out] at ho7 ⊢
    have h7 := own_bytes' ho7 (by omega)
    have hp7 := hb.below b17
    clear hr ho7 ho6 hg6 ho5' h25
    go_wp2_with fail
    refine (same_any _ _ _ _ _ _ _ _ _ h7 hp7).mono ?_
    rintro e w8 ⟨rfl, rfl⟩
    go_wp2_with fail
    go_ret
    exact ⟨by simp, b17⟩
  · go_wp2_with fail
    go_ret
    exact ⟨rfl, b1⟩
set_option maxHeartbeats 1600000 in
theorem frameForm_any (A : Option Addr) (n c : Nat) (p : List UInt8) (w : World) (hb : Bytes w A n p) (hn : n ≤ 140737488355328) (hc : n ≤ c) :
    Calls Try.prog 7 #[.slice A n c] w fun e w' => e = .returned (.bool true) ∧ Below w.heap.size w w' := by
  have HL := Lib.hid hb.1
  go_enter Try.func7, Try.ntmps7
  go_wp2_with fail
  refine (head_any _).mono ?_
  rintro e w1 ⟨rfl, b1⟩
  go_wp2_with fail
  refine (copied_any _ _ _ _ _ (hb.below b1) hn).mono ?_
  rintro e w3 ⟨A3, c3, rfl, ho3, b3, -⟩
  have b13 := below_then b1 b3 b1.size
  go_wp2_with fail
  refine (fread_any _ _ _ _ _ (own_bytes' ho3 (by omega)) (own_cap4 ho3) (by omega)).mono ?_
  rintro e w4 ⟨A4, c4, rfl, ho4, b4⟩
  have b14 := below_then b13 b4 b13.size
  have hff := frame_form (b := p)
  generalize rd p = r at *
  obtain ⟨q, x, y⟩ := r
  simp only at ho4 hff ⊢
  by_cases hy : y = 0
  · subst hy
    obtain ⟨g1, g2, g3, g4⟩ := hff rfl
    subst g2
    rw [HL.out] at g3
    have HG := Lib.hid g4
    obtain ⟨m, hm⟩ : ∃ m, q.length = m := ⟨_, rfl⟩
    rw [hm] at ho4 g1 g3 HG ⊢
    clear hff g4 ho3 hm
    go_wp2_with fail
    refine (copied_any _ _ _ _ _ (own_bytes' ho4 (by omega)) (by omega)).mono ?_
    rintro e w5 ⟨A5, c5, rfl, ho5, b5, -⟩
    have b15 := below_then b14 b5 b14.size
    go_wp2_with fail
    refine (fmake_any _ _ _ _ _ (own_bytes' ho5 (by omega)) g1).mono ?_
    rintro e w6 ⟨A6, c6, rfl, ho6, b6⟩
    have b16 := below_then b15 b6 b15.size
    rw [HG.out] at ho6
    have h6 := own_bytes' ho6 (by omega)
    have hpt := (hb.below b16).take (m + 9) (by omega)
    have z1 : decide ((0 : Int) ≤ (m : Int) + 9) = true := decide_eq_true (by omega)
    have z2 : decide ((m : Int) + 9 ≤ (n : Int)) = true := decide_eq_true (by omega)
    have z3 : (0 : Int) ≤ (m : Int) + 9 := by omega
    have z4 : (m : Int) + 9 ≤ (n : Int) := by omega
    have z5 : (m : Int) + 9 ≤ (c : Int) := by omega
    have tn : ((m : Int) + 9).toNat = m + 9 := by omega
    have TN := Lib.hid tn
    clear tn ho4 ho5 ho6
    go_wp2_with fail
    refine (same_any _ _ _ _ _ _ _ _ _ h6 (by exact hpt)).mono ?_
    rintro e w8 ⟨rfl, rfl⟩
    go_wp2_with fail
    go_ret
    exact ⟨by simp, b16⟩
  · have z1 : (y != 0) = true := by rw [bne_iff_ne]; exact hy
    clear hff hy
    go_wp2_with fail
    go_ret
    exact ⟨rfl, b14⟩
set_option maxHeartbeats 1600000 in
theorem frameCut_any (A : Option Addr) (n c : Nat) (p : List UInt8) (left : Int) (w : World) (hb : Bytes w A n p) (hn : n ≤ 140737488355328) :
    Calls Try.prog 8 #[.slice A n c, .int .i64 left] w fun e w' => e = .returned (.bool true) ∧ Below w.heap.size w w' := by
  have HL := Lib.hid hb.1
  go_enter Try.func8, Try.ntmps8
  go_wp2_with fail
  refine (head_any _).mono ?_
  rintro e w1 ⟨rfl, b1⟩
  go_wp2_with fail
  refine (copied_any _ _ _ _ _ (hb.below b1) hn).mono ?_
  rintro e w3 ⟨A3, c3, rfl, ho3, b3, -⟩
  have b13 := below_then b1 b3 b1.size
  by_cases hle : n ≤ 65536
  · go_wp2_with fail
    refine (fmake_any _ _ _ _ _ (own_bytes' ho3 (by omega)) hle).mono ?_
    rintro e w4 ⟨A4, c4, rfl, ho4, b4⟩
    have b14 := below_then b13 b4 b13.size
    by_cases h0 : left < 0
    · have z1 : decide (left < 0) = true := decide_eq_true h0
      go_wp2_with fail
      go_ret
      exact ⟨rfl, b14⟩
    have z1 : decide (left < 0) = false := decide_eq_false h0
    by_cases h1 : (n : Int) + 9 ≤ left
    · have z2 : decide ((n : Int) + 9 ≤ left) = true := decide_eq_true h1
      go_wp2_with fail
      go_ret
      exact ⟨rfl, b14⟩
    have z2 : decide ((n : Int) + 9 ≤ left) = false := decide_eq_false h1
    obtain ⟨k, rfl⟩ : ∃ k : Nat, left = k := ⟨left.toNat, by omega⟩
    have hk := frame_cut p k (by rw [HL.out]; exact hle) (by rw [HL.out]; omega)
    have h4 := (own_bytes' ho4 (by omega)).take k (by omega)
    have hcap := own_cap4 ho4
    have i1 : (k : Int) ≤ (c4 : Int) := by omega
    have HK := Lib.hid hk
    clear hk
    go_wp2_with fail
    refine (fread_any _ k c4 _ _ h4 (by omega) (by omega)).mono ?_
    rintro e w5 ⟨A5, c5, rfl, ho5, b5⟩
    have b15 := below_then b14 b5 b14.size
    rw [HK.out]
    go_wp2_with fail
    go_ret
    exact ⟨rfl, b15⟩
  · have z1 : decide (65536 < (n : Int)) = true := decide_eq_true (by omega)
    go_wp2_with fail
    refine (fmake_no _ _ _ _ (by omega)).mono ?_
    rintro e w4 ⟨rfl, rfl⟩
    go_wp2_with fail
    go_ret
    exact ⟨rfl, b13⟩
end Go.Proofs.Ytjgiiolamaimnaa
