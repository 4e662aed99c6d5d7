/- The law WheelCounts, walked. -/
import Derived.Test.YtagfigjcoffklaaUntilsW
namespace Go.Proofs.Ytagfigjcoffklaa
open Go.RowKit
/-- So often a place was met in i turns, if the first comes behind W. -/
def Told (p W i T : Int) : Prop := T * p ≤ i - W + p - 1 ∧ i - W + p - 1 < T * p + p
theorem told_hit (s i W p q T : Int) (hp : 0 < p) (hW : (s + W) % p = q) (h : Told p W i T) : ((s + i) % p = q ∧ Told p W (i + 1) (T + 1)) ∨ ((s + i) % p ≠ q ∧ Told p W (i + 1) T) := by
  obtain ⟨h1, h2⟩ := h
  have e : (T + 1) * p = T * p + p := by rw [Int.add_mul, Int.one_mul]
  by_cases hh : i - W = T * p
  · refine .inl ⟨?_, ?_, ?_⟩
    · rw [show s + i = s + W + T * p by omega, Int.add_mul_emod_self_right]
      exact hW
    · omega
    · omega
  · refine .inr ⟨fun hq => ?_, ?_, ?_⟩
    · have h3 : (s + i - (s + W)) % p = 0 := Int.emod_eq_emod_iff_emod_sub_eq_zero.1 (hq.trans hW.symm)
      obtain ⟨c, hc⟩ := Int.dvd_of_emod_eq_zero h3
      rw [Int.mul_comm] at hc
      rcases Int.lt_trichotomy c T with h | h | h
      · have := Int.mul_le_mul_of_nonneg_right (show c ≤ T - 1 by omega) (show 0 ≤ p by omega)
        rw [Int.sub_mul, Int.one_mul] at this
        omega
      · subst h; omega
      · have := Int.mul_le_mul_of_nonneg_right (show T + 1 ≤ c by omega) (show 0 ≤ p by omega)
        omega
    · omega
    · omega
theorem told_start (p W : Int) (h0 : 0 ≤ W) (h1 : W < p) : Told p W 0 0 := by unfold Told; omega
theorem told_under (p W a i T : Int) (hp : 0 < p) (h : Told p W i T) (hi : i < W + 1 + a * p) : T ≤ a := by
  obtain ⟨h1, h2⟩ := h
  by_cases h : T ≤ a
  · exact h
  · have := Int.mul_le_mul_of_nonneg_right (show a + 1 ≤ T by omega) (show 0 ≤ p by omega)
    rw [Int.add_mul, Int.one_mul] at this
    omega
theorem told_end (p W a T : Int) (hp : 0 < p) (h : Told p W (W + 1 + a * p) T) : T = a + 1 := by
  obtain ⟨h1, h2⟩ := h
  rcases Int.lt_trichotomy T (a + 1) with h | h | h
  · have := Int.mul_le_mul_of_nonneg_right (show T ≤ a by omega) (show 0 ≤ p by omega)
    omega
  · exact h
  · have := Int.mul_le_mul_of_nonneg_right (show a + 2 ≤ T by omega) (show 0 ≤ p by omega)
    rw [Int.add_mul] at this
    omega
set_option maxHeartbeats 1600000 in
theorem wheelCounts_any (p s q a : Int) (w : World) (a0 : 0 ≤ a) (a1 : a ≤ 255) : Calls Try.prog 6 #[.int .i64 p, .int .i64 s, .int .i64 q, .int .u8 a] w fun e w' => e = .returned (.bool true) ∧ Below w.heap.size w w' := by
  by_cases hp : 1 ≤ p ∧ p ≤ 16
  · obtain ⟨p1, p2⟩ := hp
    by_cases hq : 0 ≤ q ∧ q < p ∧ 0 ≤ s
    · obtain ⟨q0, q1, s0⟩ := hq
      go_enter Try.func6, Try.ntmps6
      go_wp2_with fail
      refine (new_yes p _ p1 p2).mono ?_
      rintro e w1 ⟨rfl, hW1, hB1⟩
      go_wp2_with fail
      refine (awake_any _).mono ?_
      rintro e w2 ⟨rfl, hB2⟩
      have hW2 : Whl w2 w.heap.size p 0 0 := hW1.below hB2 hW1.lt
      have hB2' := below_then hB1 hB2 hB1.size
      clear hW1 hB1 hB2
      have z0 : (p == 0) = false := by rw [beq_eq_false_iff_ne]; omega
      obtain ⟨m, hm⟩ : ∃ m, m = s % p := ⟨_, rfl⟩
      have m0 : 0 ≤ m := by rw [hm]; exact Int.emod_nonneg _ (by omega)
      have m1 : m < p := by rw [hm]; exact Int.emod_lt_of_pos _ (by omega)
      have HM := Lib.hid hm
      clear hm
      go_wp2
      go_loopw [11] (fun i wr => ∃ k : Int, 0 ≤ k ∧ k ≤ m ∧ i = .int .i64 k ∧ Whl wr w.heap.size p k k ∧ Below w.heap.size w wr) (fun i _ => (m - intOf i).toNat)
      case atStart => exact ⟨0, by omega, m0, rfl, hW2, hB2'⟩
      case round =>
        clear hW2 hB2'
        obtain ⟨k, k0, k1, rfl, hWr, hBr⟩ := hrel
        by_cases hlt : k < m
        · have hlt' : k < s % p := by rw [← HM.out]; exact hlt
          go_wp2_with fail
          refine (turn_any w.heap.size p k k _ hWr p1 p2 (by omega) (by omega) (by omega) (by omega)).mono ?_
          rintro e w3 ⟨rfl, hg3, hW3⟩
          have hB3 := below_wheel hBr hg3 hBr.size (Nat.le_refl _)
          go_wp2
          go_roundw
          case rel => exact ⟨k + 1, by omega, by omega, by go_num, hW3, hB3⟩
          case measure => simp [intOf]; omega
        · have hlt' : s % p ≤ k := by rw [← HM.out]; omega
          obtain rfl : k = m := by omega
          clear HM
          go_wp2_with fail
          refine (next_any w.heap.size p k k _ hWr p1 p2 (by omega) (by omega)).mono ?_
          rintro e w3 ⟨rfl, hg3, hW3⟩
          have hB3 := below_wheel hBr hg3 hBr.size (Nat.le_refl _)
          rw [Int.emod_eq_of_lt m0 m1]
          go_wp2_with fail
          refine (until_ok p k q a _ ⟨p1, p2, m0, m1⟩ q0 q1 a0 (by omega)).mono ?_
          rintro e w4 ⟨rfl, rfl⟩
          have W0 := wayN_lo p k q (by omega)
          have W1 := wayN_hi p k q (by omega)
          have WH := Lib.hid (wayN_hits p k q q0 q1)
          generalize wayN p k q = W at *
          have b0 : 0 ≤ a * p := Int.mul_nonneg a0 (by omega)
          have b1 : a * p ≤ 255 * 16 := Int.le_trans (Int.mul_le_mul_of_nonneg_right a1 (by omega)) (Int.mul_le_mul_of_nonneg_left p2 (by omega))
          have b2 : (a + 1) * p = a * p + p := by rw [Int.add_mul, Int.one_mul]
          obtain ⟨N, hN⟩ : ∃ N, N = W + 1 + a * p := ⟨_, rfl⟩
          rw [← hN]
          have n0 : 1 ≤ N := by omega
          have n1 : N ≤ a * p + p := by omega
          have n3 : N ≤ (a + 1) * p := by omega
          have n4 : 0 ≤ (a + 1) * p := by omega
          have n5 : (a + 1) * p ≤ 8192 := by omega
          have n2 : N ≤ 8192 := by omega
          have HN := Lib.hid hN
          have hT0 := Lib.hid (told_start p W W0 W1)
          clear b2 hN
          go_wp2
          go_loopw [14, 15, 16, 17] (fun to i _ _ wr => ∃ T t sl : Int, 0 ≤ t ∧ t ≤ N ∧ 0 ≤ T ∧ T ≤ t ∧ 0 ≤ sl ∧ sl ≤ 16 + 2 * t ∧ to = .int .i64 T ∧ i = .int .i64 t ∧ Hid (Told p W t T) ∧ Whl wr w.heap.size p (k + t) sl ∧ Below w.heap.size w wr) (fun _ i _ _ _ => (N - intOf i).toNat)
          case atStart => exact ⟨0, 0, k, by omega, by omega, by omega, by omega, by omega, by omega, rfl, rfl, hT0, by rw [Int.add_zero]; exact hW3, hB3⟩
          case round =>
            clear hT0 hW3 hB3 hWr hBr hg3
            obtain ⟨T, t, sl, t0, t1, T0, T1, sl0, sl1, rfl, rfl, hT, hWr, hBr⟩ := hrel
            by_cases hlt2 : t < N
            · have hTa : T ≤ a := told_under p W a t T (by omega) hT.out (by rw [← HN.out]; exact hlt2)
              have hstep := Lib.hid (told_hit k t W p q T (by omega) WH.out hT.out)
              go_wp2_with fail
              · refine (skip_any w.heap.size p (k + t) sl _ hWr sl0 (by omega)).mono ?_
                rintro e w5 ⟨rfl, hg5, hW5⟩
                have hB5 := below_wheel hBr hg5 hBr.size (Nat.le_refl _)
                go_wp2_with fail
                refine (turn_any w.heap.size p (k + t) (sl + 1) _ hW5 p1 p2 (by omega) (by omega) (by omega) (by omega)).mono ?_
                rintro e w6 ⟨rfl, hg6, hW6⟩
                have hB6 := below_wheel hB5 hg6 hB5.size (Nat.le_refl _)
                rw [Int.add_assoc] at hW6
                rcases hstep.out with ⟨hq, hT'⟩ | ⟨hq, hT'⟩
                · have HT' := Lib.hid hT'
                  clear hT'
                  go_wp2
                  go_roundw
                  case rel => exact ⟨T + 1, t + 1, sl + 1 + 1, by omega, by omega, by omega, by omega, by omega, by omega, by go_num, by go_num, HT', hW6, hB6⟩
                  case measure => simp [intOf]; omega
                · have HT' := Lib.hid hT'
                  clear hT'
                  go_wp2
                  go_roundw
                  case rel => exact ⟨T, t + 1, sl + 1 + 1, by omega, by omega, by omega, by omega, by omega, by omega, by go_num, by go_num, HT', hW6, hB6⟩
                  case measure => simp [intOf]; omega
              · refine (turn_any w.heap.size p (k + t) sl _ hWr p1 p2 (by omega) (by omega) (by omega) (by omega)).mono ?_
                rintro e w6 ⟨rfl, hg6, hW6⟩
                have hB6 := below_wheel hBr hg6 hBr.size (Nat.le_refl _)
                rw [Int.add_assoc] at hW6
                rcases hstep.out with ⟨hq, hT'⟩ | ⟨hq, hT'⟩
                · have HT' := Lib.hid hT'
                  clear hT'
                  go_wp2
                  go_roundw
                  case rel => exact ⟨T + 1, t + 1, sl + 1, by omega, by omega, by omega, by omega, by omega, by omega, by go_num, by go_num, HT', hW6, hB6⟩
                  case measure => simp [intOf]; omega
                · have HT' := Lib.hid hT'
                  clear hT'
                  go_wp2
                  go_roundw
                  case rel => exact ⟨T, t + 1, sl + 1, by omega, by omega, by omega, by omega, by omega, by omega, by go_num, by go_num, HT', hW6, hB6⟩
                  case measure => simp [intOf]; omega
            · obtain rfl : t = N := by omega
              have hTe : T = a + 1 := told_end p W a T (by omega) (by rw [← HN.out]; exact hT.out)
              subst hTe
              go_wp2
              go_ret
              exact ⟨by simp, hBr⟩
    · have hq' : q < 0 ∨ p ≤ q ∨ s < 0 := by omega
      clear hq
      go_enter Try.func6, Try.ntmps6
      go_wp2_with fail
      refine (new_yes p _ p1 p2).mono ?_
      rintro e w1 ⟨rfl, hW1, hB1⟩
      go_wp2_with (go_at_call 10; (with_reducible refine (awake_any _).mono ?_); rintro e w2 ⟨rfl, hB2⟩)
      all_goals
        first
        | (go_ret; exact ⟨by simp, below_then hB1 hB2 hB1.size⟩)
        | (exfalso; simp only [beq_iff_eq, Bool.or_eq_true, decide_eq_true_eq] at *; omega)
  · have hp' : p < 1 ∨ 16 < p := by omega
    go_enter Try.func6, Try.ntmps6
    go_wp2_with fail
    refine (new_no p _ hp').mono ?_
    rintro e w1 ⟨rfl, rfl⟩
    go_wp2_with (go_at_call 10; (with_reducible refine (awake_any _).mono ?_); rintro e w2 ⟨rfl, hB2⟩)
    go_ret
    exact ⟨rfl, hB2⟩
end Go.Proofs.Ytagfigjcoffklaa
