/- Package stamp's clock, walked. -/
import Derived.Test.YtackbdcpbkohoaaLists
namespace Go.Proofs.Ytackbdcpbkohoaa
open Go.RowKit
/-- The cells of a clock. -/
def Clk (w : World) (g : Nat) (s n : Int) : Prop := Blk w g #[.int .i64 s, .int .i64 n] 63
/-- What New takes. -/
def GoodC (s n : Int) : Prop := 0 ≤ s ∧ s ≤ 4611686018427387904 ∧ 0 ≤ n ∧ n ≤ 1048576
theorem new_yes (s n : Int) (w : World) (h : GoodC s n) :
    Calls Try.prog 15 #[.int .i64 s, .int .i64 n] w fun e w' => e = .returned (.tuple #[.pointer (some ⟨w.heap.size, 0, none⟩), .int .i64 0]) ∧ Clk w' w.heap.size s n ∧ Below w.heap.size w w' := by
  obtain ⟨h1, h2, h3, h4⟩ := h
  go_enter Try.func15, Try.ntmps15
  go_wp2
  go_ret2
  exact ⟨rfl, heap_alloc_new _ _, (Below.refl _ _).alloc (Nat.le_refl _) _⟩
set_option maxHeartbeats 400000 in
theorem new_no (s n : Int) (w : World) (h : ¬ GoodC s n) :
    Calls Try.prog 15 #[.int .i64 s, .int .i64 n] w fun e w' => e = .returned (.tuple #[.pointer none, .int .i64 2]) ∧ w = w' := by
  unfold GoodC at h
  have h' : s < 0 ∨ 4611686018427387904 < s ∨ n < 0 ∨ 1048576 < n := by omega
  clear h
  go_enter Try.func15, Try.ntmps15
  go_wp2
  all_goals
    first
    | (go_ret2; exact ⟨rfl, rfl⟩)
    | (exfalso; simp only [beq_iff_eq, Bool.or_eq_true, decide_eq_true_eq] at *; omega)
theorem now_nil (w : World) : Calls Try.prog 18 #[.pointer none] w fun e w' => e = .returned (.int .i64 0) ∧ w = w' := by
  go_enter Try.func18, Try.ntmps18
  go_wp2
  go_ret
  exact ⟨rfl, rfl⟩
theorem now_any (g : Nat) (s n : Int) (w : World) (h : Clk w g s n) : Calls Try.prog 18 #[.pointer (some ⟨g, 0, none⟩)] w fun e w' => e = .returned (.int .i64 s) ∧ w = w' := by
  have c0 : w.cell? ⟨g, 0, none⟩ = some (.int .i64 s) := Blk.cell h 0
  go_enter Try.func18, Try.ntmps18
  go_wp2
  go_ret
  exact ⟨rfl, rfl⟩
theorem worn_nil (w : World) : Calls Try.prog 17 #[.pointer none] w fun e w' => e = .returned (.bool false) ∧ w = w' := by
  go_enter Try.func17, Try.ntmps17
  go_wp2
  go_ret
  exact ⟨rfl, rfl⟩
theorem worn_any (g : Nat) (s n : Int) (w : World) (h : Clk w g s n) : Calls Try.prog 17 #[.pointer (some ⟨g, 0, none⟩)] w fun e w' => e = .returned (.bool (s == 4611686018427387904)) ∧ w = w' := by
  have c0 : w.cell? ⟨g, 0, none⟩ = some (.int .i64 s) := Blk.cell h 0
  go_enter Try.func17, Try.ntmps17
  go_wp2
  go_ret
  exact ⟨rfl, rfl⟩
theorem horizon_nil (w : World) : Calls Try.prog 19 #[.pointer none] w fun e w' => e = .returned (.int .i64 0) ∧ w = w' := by
  go_enter Try.func19, Try.ntmps19
  go_wp2
  go_ret
  exact ⟨rfl, rfl⟩
theorem horizon_any (g : Nat) (s n : Int) (w : World) (h : Clk w g s n) (hg : GoodC s n) : Calls Try.prog 19 #[.pointer (some ⟨g, 0, none⟩)] w fun e w' => e = .returned (.int .i64 (s - n)) ∧ ∃ m, w' = w.drewN m := by
  obtain ⟨h1, h2, h3, h4⟩ := hg
  have c0 : w.cell? ⟨g, 0, none⟩ = some (.int .i64 s) := Blk.cell h 0
  have c1 : w.cell? ⟨g, 1, none⟩ = some (.int .i64 n) := Blk.cell h 1
  go_enter Try.func19, Try.ntmps19
  go_wp2_with fail
  go_quiet (fail)
  go_wp2
  go_ret
  exact ⟨rfl, _, rfl⟩
theorem next_nil (w : World) : Calls Try.prog 16 #[.pointer none] w fun e w' => e = .returned (.tuple #[.int .i64 0, .int .i64 1]) ∧ w = w' := by
  go_enter Try.func16, Try.ntmps16
  go_wp2
  go_ret2
  exact ⟨rfl, rfl⟩
theorem next_worn (g : Nat) (n : Int) (w : World) (h : Clk w g 4611686018427387904 n) : Calls Try.prog 16 #[.pointer (some ⟨g, 0, none⟩)] w fun e w' => e = .returned (.tuple #[.int .i64 0, .int .i64 120]) ∧ w = w' := by
  go_enter Try.func16, Try.ntmps16
  go_wp2_with fail
  refine (worn_any g _ n _ h).mono ?_
  rintro e w1 ⟨rfl, rfl⟩
  go_wp2
  go_ret2
  exact ⟨rfl, rfl⟩
theorem next_any (g : Nat) (s n : Int) (w : World) (h : Clk w g s n) (s0 : 0 ≤ s) (s1 : s < 4611686018427387904) : Calls Try.prog 16 #[.pointer (some ⟨g, 0, none⟩)] w fun e w' =>
    e = .returned (.tuple #[.int .i64 (s + 1), .int .i64 0]) ∧ w.grownBy w' (some g) ∧ Clk w' g (s + 1) n := by
  have c0 : w.cell? ⟨g, 0, none⟩ = some (.int .i64 s) := Blk.cell h 0
  have f0 := Blk.frozen h 0
  have z0 : (s == 4611686018427387904) = false := by rw [beq_eq_false_iff_ne]; omega
  go_enter Try.func16, Try.ntmps16
  go_wp2_with fail
  refine (worn_any g _ n _ h).mono ?_
  rintro e w1 ⟨rfl, rfl⟩
  go_wp2
  go_ret2
  exact ⟨rfl, grown_set _ _ _ _, Blk.set h 0 _⟩
theorem set_nil (a : Int) (w : World) : Calls Try.prog 24 #[.pointer none, .int .i64 a] w fun e w' => e = .returned (.int .i64 1) ∧ w = w' := by
  go_enter Try.func24, Try.ntmps24
  go_wp2
  go_ret
  exact ⟨rfl, rfl⟩
theorem set_bad (g : Nat) (a : Int) (w : World) (ha : a < 0 ∨ 4611686018427387904 < a) : Calls Try.prog 24 #[.pointer (some ⟨g, 0, none⟩), .int .i64 a] w fun e w' => e = .returned (.int .i64 2) ∧ w = w' := by
  go_enter Try.func24, Try.ntmps24
  go_wp2
  all_goals
    first
    | (go_ret; exact ⟨rfl, rfl⟩)
    | (exfalso; simp only [beq_iff_eq, Bool.or_eq_true, decide_eq_true_eq] at *; omega)
theorem set_any (g : Nat) (s n a : Int) (w : World) (h : Clk w g s n) (a0 : 0 ≤ a) (a1 : a ≤ 4611686018427387904) : Calls Try.prog 24 #[.pointer (some ⟨g, 0, none⟩), .int .i64 a] w fun e w' =>
    e = .returned (.int .i64 0) ∧ w.grownBy w' (some g) ∧ Clk w' g a n := by
  have c0 : w.cell? ⟨g, 0, none⟩ = some (.int .i64 s) := Blk.cell h 0
  have f0 := Blk.frozen h 0
  go_enter Try.func24, Try.ntmps24
  go_wp2
  go_ret
  exact ⟨rfl, grown_set _ _ _ _, Blk.set h 0 _⟩
set_option maxHeartbeats 800000 in
theorem head_any (w : World) : Calls Try.prog 10 #[] w fun e w' => e = .returned (.bool true) ∧ Below w.heap.size w w' := by
  go_enter Try.func10, Try.ntmps10
  go_wp2_with fail
  refine (new_yes 7 3 _ (by unfold GoodC; omega)).mono ?_
  rintro e w1 ⟨rfl, hc1, hB1⟩
  go_wp2_with fail
  refine (next_any w.heap.size 7 3 _ hc1 (by omega) (by omega)).mono ?_
  rintro e w2 ⟨rfl, hg2, hc2⟩
  have hB2 := below_grown hB1 hg2 hB1.size (Nat.le_refl _)
  go_wp2_with fail
  refine (horizon_any w.heap.size 8 3 _ hc2 (by unfold GoodC; omega)).mono ?_
  rintro e w3 ⟨rfl, m, rfl⟩
  have hB3 := hB2.trans ((below_drews w2 m).mono hB2.size)
  generalize w2.drewN m = w3 at *
  have one : ∀ W : World, Ints (W.alloc (.cells #[.int .i64 1] 3)) (some ⟨W.heap.size, 0, none⟩) 1 [1] := by
    intro W
    refine ⟨rfl, by decide, .inr ⟨W.heap.size, 0, rfl, fun j hj => ?_⟩⟩
    rw [cell_of_row _ _ _ _ _ _ (heap_alloc_new W _)]
    obtain rfl : j = 0 := by omega
    rfl
  go_wp2_with fail
  have hA1 := below_alloc w3 (.cells #[.int .i64 1] 3)
  have hA2 := below_alloc (w3.alloc (.cells #[.int .i64 1] 3)) (.cells #[.int .i64 1] 3)
  have hi1 := (one w3).below hA2
  have hi2 := one (w3.alloc (.cells #[.int .i64 1] 3))
  rw [show (w3.alloc (.cells #[Value.int .i64 1] 3)).heap.size = w3.heap.size + 1 by simp] at hi2
  refine (below_any _ _ _ _ _ _ [1] [1] _ hi1 hi2).mono ?_
  rintro e w5 ⟨rfl, rfl⟩
  go_wp2
  go_ret
  refine ⟨by simp [belowB], below_then (below_then hB3 hA1 hB3.size) hA2 (by have := hB3.size; simp <;> omega)⟩
end Go.Proofs.Ytackbdcpbkohoaa
