/- Package wheel and its reference, walked: may, Until, Served, way. -/
import Derived.Test.YtagfigjcoffklaaWheel
namespace Go.Proofs.Ytagfigjcoffklaa
open Go.RowKit
/-- Places, and one of them. -/
def Good (p n : Int) : Prop := 1 ≤ p ∧ p ≤ 16 ∧ 0 ≤ n ∧ n < p
set_option maxHeartbeats 400000 in
theorem may_bad (p n c : Int) (w : World) (h : ¬ Good p n ∨ c < 0) : Calls Try.prog 23 #[.int .i64 p, .int .i64 n, .int .i64 c] w fun e w' => e = .returned (.int .i64 2) ∧ w = w' := by
  unfold Good at h
  have h' : p < 1 ∨ 16 < p ∨ n < 0 ∨ p ≤ n ∨ c < 0 := by omega
  clear h
  go_enter Try.func23, Try.ntmps23
  go_wp2
  all_goals
    first
    | (go_ret; exact ⟨rfl, rfl⟩)
    | (exfalso; simp only [beq_iff_eq, Bool.or_eq_true, decide_eq_true_eq] at *; omega)
theorem may_large (p n c : Int) (w : World) (h : Good p n) (hc : 1099511627776 < c) : Calls Try.prog 23 #[.int .i64 p, .int .i64 n, .int .i64 c] w fun e w' => e = .returned (.int .i64 3) ∧ w = w' := by
  obtain ⟨h1, h2, h3, h4⟩ := h
  go_enter Try.func23, Try.ntmps23
  go_wp2
  all_goals (go_ret; exact ⟨rfl, rfl⟩)
theorem may_ok (p n c : Int) (w : World) (h : Good p n) (c0 : 0 ≤ c) (hc : c ≤ 1099511627776) : Calls Try.prog 23 #[.int .i64 p, .int .i64 n, .int .i64 c] w fun e w' => e = .returned (.int .i64 0) ∧ w = w' := by
  obtain ⟨h1, h2, h3, h4⟩ := h
  go_enter Try.func23, Try.ntmps23
  go_wp2
  all_goals (go_ret; exact ⟨rfl, rfl⟩)
/-- How many turns from a place to another. -/
def wayN (p n q : Int) : Int := (q - n) % p
theorem wayN_lo (p n q : Int) (h : 0 < p) : 0 ≤ wayN p n q := Int.emod_nonneg _ (by omega)
theorem wayN_hi (p n q : Int) (h : 0 < p) : wayN p n q < p := Int.emod_lt_of_pos _ h
theorem wayN_hits (p n q : Int) (q0 : 0 ≤ q) (q1 : q < p) : (n + wayN p n q) % p = q := by
  unfold wayN
  rw [Int.add_emod, Int.emod_emod, ← Int.add_emod, show n + (q - n) = q by omega, Int.emod_eq_of_lt q0 q1]
theorem wayN_first (p n q : Int) (h : 0 < p) (n0 : 0 ≤ n) (n1 : n < p) (k : Int) (k0 : 0 ≤ k) (k1 : k < wayN p n q) : (n + k) % p ≠ q := by
  intro e
  have e1 : wayN p n q = k := by
    have hk : k < p := by have := wayN_hi p n q h; omega
    unfold wayN
    by_cases hl : n + k < p
    · rw [Int.emod_eq_of_lt (by omega) hl] at e
      rw [show q - n = k by omega, Int.emod_eq_of_lt k0 hk]
    · have e2 : (n + k) % p = n + k - p := by
        rw [← Int.emod_eq_of_lt (a := n + k - p) (b := p) (by omega) (by omega), Int.sub_emod_right]
      rw [e2] at e
      rw [← Int.add_emod_right, show q - n + p = k by omega, Int.emod_eq_of_lt k0 hk]
  omega
set_option maxHeartbeats 400000 in
theorem way_any (p n q : Int) (w : World) (h : Good p n) (q0 : 0 ≤ q) (q1 : q < p) : Calls Try.prog 24 #[.int .i64 p, .int .i64 n, .int .i64 q] w fun e w' => e = .returned (.int .i64 (wayN p n q)) ∧ w = w' := by
  obtain ⟨h1, h2, h3, h4⟩ := h
  have l0 := wayN_lo p n q (by omega)
  have l1 := wayN_hi p n q (by omega)
  have HH := Lib.hid (wayN_hits p n q q0 q1)
  have HF := Lib.hid (wayN_first p n q (by omega) h3 h4)
  generalize wayN p n q = v at *
  go_enter Try.func24, Try.ntmps24
  go_wp2
  go_loop [7] (fun i => ∃ k : Int, 0 ≤ k ∧ k ≤ v ∧ i = .int .i64 k) (fun i => (v - intOf i).toNat)
  case atStart => exact ⟨0, by omega, by omega, rfl⟩
  case round =>
    obtain ⟨k, k0, k1, rfl⟩ := hrel
    by_cases hk : k = v
    · subst hk
      have hh : ((n + k) % p != q) = false := by rw [HH.out]; simp
      go_wp2
      go_ret
      exact ⟨rfl, rfl⟩
    · have hh : ((n + k) % p != q) = true := by rw [bne_iff_ne]; exact HF.out k k0 (by omega)
      go_wp2
      go_round
      case rel => exact ⟨k + 1, by omega, by omega, rfl⟩
      case measure => simp [intOf]; omega

theorem until_bad (p n q a : Int) (w : World) (h : ¬ Good p n ∨ q < 0 ∨ p ≤ q ∨ a < 0) : Calls Try.prog 11 #[.int .i64 p, .int .i64 n, .int .i64 q, .int .i64 a] w fun e w' => e = .returned (.tuple #[.int .i64 0, .int .i64 2]) ∧ w = w' := by
  by_cases hp : (1 ≤ p ∧ p ≤ 16) ∧ (q < 0 ∨ p ≤ q)
  · obtain ⟨⟨h1, h2⟩, h3⟩ := hp
    clear h
    go_enter Try.func11, Try.ntmps11
    go_wp2_with fail
    all_goals
      first
      | (go_ret2; exact ⟨rfl, rfl⟩)
      | (exfalso; simp only [Bool.or_eq_true, Bool.or_eq_false_iff, Bool.and_eq_true, Bool.and_eq_false_iff, decide_eq_true_eq, decide_eq_false_iff_not] at *; omega)
  · have h' : ¬ Good p n ∨ a < 0 := by
      unfold Good at *
      omega
    have hp' : p < 1 ∨ 16 < p ∨ (0 ≤ q ∧ q < p) := by omega
    clear h hp
    have H' := Lib.hid h'
    clear h'
    go_enter Try.func11, Try.ntmps11
    go_wp2_with (go_at_call 23; (with_reducible refine (may_bad _ _ _ _ H'.out).mono ?_); rintro e w' ⟨rfl, rfl⟩)
    all_goals
      first
      | (go_ret2; exact ⟨rfl, rfl⟩)
      | (exfalso; simp only [Bool.or_eq_true, Bool.or_eq_false_iff, Bool.and_eq_true, Bool.and_eq_false_iff, decide_eq_true_eq, decide_eq_false_iff_not] at *; omega)
theorem until_large (p n q a : Int) (w : World) (h : Good p n) (q0 : 0 ≤ q) (q1 : q < p) (ha : 1099511627776 < a) : Calls Try.prog 11 #[.int .i64 p, .int .i64 n, .int .i64 q, .int .i64 a] w fun e w' => e = .returned (.tuple #[.int .i64 0, .int .i64 3]) ∧ w = w' := by
  have HG := Lib.hid h
  obtain ⟨h1, h2, h3, h4⟩ := h
  go_enter Try.func11, Try.ntmps11
  go_wp2_with (go_at_call 23; (with_reducible refine (may_large _ _ _ _ HG.out ha).mono ?_); rintro e w' ⟨rfl, rfl⟩)
  all_goals (go_ret2; exact ⟨rfl, rfl⟩)
theorem until_ok (p n q a : Int) (w : World) (h : Good p n) (q0 : 0 ≤ q) (q1 : q < p) (a0 : 0 ≤ a) (ha : a ≤ 1099511627776) : Calls Try.prog 11 #[.int .i64 p, .int .i64 n, .int .i64 q, .int .i64 a] w fun e w' => e = .returned (.tuple #[.int .i64 (wayN p n q + 1 + a * p), .int .i64 0]) ∧ w = w' := by
  have HG := Lib.hid h
  obtain ⟨h1, h2, h3, h4⟩ := h
  have m0 : 0 ≤ a * p := Int.mul_nonneg a0 (by omega)
  have m1 : a * p ≤ 1099511627776 * 16 := by
    refine Int.le_trans (Int.mul_le_mul_of_nonneg_right ha (by omega)) (Int.mul_le_mul_of_nonneg_left h2 (by omega))
  have m2 : 0 ≤ (q - n) % p := Int.emod_nonneg _ (by omega)
  have m3 : (q - n) % p < p := Int.emod_lt_of_pos _ (by omega)
  go_enter Try.func11, Try.ntmps11
  go_wp2_with (go_at_call 23; (with_reducible refine (may_ok _ _ _ _ HG.out a0 ha).mono ?_); rintro e w' ⟨rfl, rfl⟩)
  all_goals (go_ret2; exact ⟨by unfold wayN; simp, rfl⟩)
theorem refUntil_bad (p n q a : Int) (w : World) (h : ¬ Good p n ∨ q < 0 ∨ p ≤ q ∨ a < 0) : Calls Try.prog 12 #[.int .i64 p, .int .i64 n, .int .i64 q, .int .i64 a] w fun e w' => e = .returned (.tuple #[.int .i64 0, .int .i64 2]) ∧ w = w' := by
  have h' : p < 1 ∨ 16 < p ∨ n < 0 ∨ p ≤ n ∨ q < 0 ∨ p ≤ q ∨ a < 0 := by unfold Good at h; omega
  clear h
  rcases h' with h | h | h | h | h | h | h
  all_goals
    go_enter Try.func12, Try.ntmps12
    go_wp2_with fail
    all_goals
      first
      | (go_ret2; exact ⟨rfl, rfl⟩)
      | (exfalso; simp only [Bool.or_eq_true, Bool.or_eq_false_iff, Bool.and_eq_true, Bool.and_eq_false_iff, decide_eq_true_eq, decide_eq_false_iff_not] at *; omega)
theorem refUntil_large (p n q a : Int) (w : World) (h : Good p n) (q0 : 0 ≤ q) (q1 : q < p) (ha : 1099511627776 < a) : Calls Try.prog 12 #[.int .i64 p, .int .i64 n, .int .i64 q, .int .i64 a] w fun e w' => e = .returned (.tuple #[.int .i64 0, .int .i64 3]) ∧ w = w' := by
  obtain ⟨h1, h2, h3, h4⟩ := h
  go_enter Try.func12, Try.ntmps12
  go_wp2_with fail
  all_goals (go_ret2; exact ⟨rfl, rfl⟩)
theorem refUntil_ok (p n q a : Int) (w : World) (h : Good p n) (q0 : 0 ≤ q) (q1 : q < p) (a0 : 0 ≤ a) (ha : a ≤ 1099511627776) : Calls Try.prog 12 #[.int .i64 p, .int .i64 n, .int .i64 q, .int .i64 a] w fun e w' => e = .returned (.tuple #[.int .i64 (wayN p n q + 1 + a * p), .int .i64 0]) ∧ w = w' := by
  have HG := Lib.hid h
  obtain ⟨h1, h2, h3, h4⟩ := h
  have m0 : 0 ≤ a * p := Int.mul_nonneg a0 (by omega)
  have m1 : a * p ≤ 1099511627776 * 16 := by
    refine Int.le_trans (Int.mul_le_mul_of_nonneg_right ha (by omega)) (Int.mul_le_mul_of_nonneg_left h2 (by omega))
  have m2 := wayN_lo p n q (by omega)
  have m3 := wayN_hi p n q (by omega)
  go_enter Try.func12, Try.ntmps12
  go_wp2_with (go_at_call 24; (with_reducible refine (way_any _ _ _ _ HG.out q0 q1).mono ?_); rintro e w' ⟨rfl, rfl⟩)
  all_goals (go_ret2; exact ⟨by rw [show wayN p n q + 1 + a * p = wayN p n q + a * p + 1 by omega]; rfl, rfl⟩)
end Go.Proofs.Ytagfigjcoffklaa
