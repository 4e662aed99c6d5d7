/- The law package's awake, walked; WheelNames, WheelNone. -/
import Derived.Test.YtagfigjcoffklaaServed
namespace Go.Proofs.Ytagfigjcoffklaa
open Go.RowKit
theorem until_one (w : World) : Calls Try.prog 11 #[.int .i64 3, .int .i64 1, .int .i64 0, .int .i64 2] w fun e w' => e = .returned (.tuple #[.int .i64 9, .int .i64 0]) ∧ w = w' :=
  until_ok 3 1 0 2 w (by unfold Good; omega) (by omega) (by omega) (by omega) (by omega)
theorem served_one (w : World) : Calls Try.prog 13 #[.int .i64 3, .int .i64 1, .int .i64 4] w (NewInts w [1, 2, 1] 0) :=
  served_ok 3 1 4 w (by unfold Good; omega) (by omega) (by omega)
theorem below_wheel {w w1 w2 : World} {B g : Nat} (h : Below B w w1) (hg : w1.grownBy w2 (some g)) (hB : B ≤ w1.heap.size) (hr : B ≤ g) : Below B w w2 := h.grown hg hB (fun k e => by cases e; exact hr)
set_option maxHeartbeats 800000 in
theorem awake_any (w : World) : Calls Try.prog 10 #[] w fun e w' => e = .returned (.bool true) ∧ Below w.heap.size w w' := by
  go_enter Try.func10, Try.ntmps10
  go_wp2_with fail
  refine (new_yes 3 _ (by omega) (by omega)).mono ?_
  rintro e w1 ⟨rfl, hW1, hB1⟩
  go_wp2_with fail
  refine (turn_any w.heap.size 3 0 0 _ hW1 (by omega) (by omega) (by omega) (by omega) (by omega) (by omega)).mono ?_
  rintro e w2 ⟨rfl, hg2, hW2⟩
  have hB2 := below_wheel hB1 hg2 hB1.size (Nat.le_refl _)
  go_wp2_with fail
  refine (skip_any w.heap.size 3 1 1 _ hW2 (by omega) (by omega)).mono ?_
  rintro e w3 ⟨rfl, hg3, hW3⟩
  have hB3 := below_wheel hB2 hg3 hB2.size (Nat.le_refl _)
  go_wp2_with fail
  refine (turn_any w.heap.size 3 1 2 _ hW3 (by omega) (by omega) (by omega) (by omega) (by omega) (by omega)).mono ?_
  rintro e w4 ⟨rfl, hg4, hW4⟩
  have hB4 := below_wheel hB3 hg4 hB3.size (Nat.le_refl _)
  go_wp2_with fail
  refine (until_one _).mono ?_
  rintro e w4' ⟨rfl, rfl⟩
  go_wp2_with fail
  refine (served_one _).mono ?_
  rintro e w5 ⟨g, c, rfl, ho5, hB5⟩
  have hB5' := below_then hB4 hB5 hB4.size
  have hi5 := own_ints ho5 (by decide)
  have hBl := (Below.refl w5.heap.size w5).alloc (Nat.le_refl _) (.cells #[.int .i64 1, .int .i64 2, .int .i64 1] 3)
  have hlit : Ints (w5.alloc (.cells #[.int .i64 1, .int .i64 2, .int .i64 1] 3)) (some ⟨w5.heap.size, 0, none⟩) 3 [1, 2, 1] := by
    refine ⟨rfl, by decide, .inr ⟨w5.heap.size, 0, rfl, fun j hj => ?_⟩⟩
    rw [cell_of_row _ _ _ _ _ _ (heap_alloc_new w5 _)]
    have : j = 0 ∨ j = 1 ∨ j = 2 := by omega
    rcases this with rfl | rfl | rfl <;> rfl
  go_wp2_with fail
  refine (same_any _ _ _ _ _ _ _ _ _ (hi5.below hBl) hlit).mono ?_
  rintro e w6 ⟨rfl, hB6⟩
  go_wp2
  go_ret
  exact ⟨by simp, below_then (below_then hB5' hBl hB5'.size) hB6 (by have := hB5'.size; simp <;> omega)⟩
theorem wheelNames_any (w : World) : Calls Try.prog 3 #[] w fun e w' => e = .returned (.bool true) ∧ Below w.heap.size w w' := by
  go_enter Try.func3, Try.ntmps3
  go_wp2_with (go_at_call 10; (with_reducible refine (awake_any _).mono ?_); rintro e w1 ⟨rfl, hB1⟩)
  go_ret
  exact ⟨rfl, hB1⟩
theorem wheelNone_any (w : World) : Calls Try.prog 9 #[] w fun e w' => e = .returned (.bool true) ∧ Below w.heap.size w w' := by
  go_enter Try.func9, Try.ntmps9
  go_wp2_with (first | (go_at_call 17; (with_reducible refine (turn_nil _).mono ?_); rintro e w' ⟨rfl, rfl⟩) | (go_at_call 18; (with_reducible refine (next_nil _).mono ?_); rintro e w' ⟨rfl, rfl⟩) | (go_at_call 19; (with_reducible refine (skip_nil _).mono ?_); rintro e w' ⟨rfl, rfl⟩) | (go_at_call 22; (with_reducible refine (slot_nil _).mono ?_); rintro e w' ⟨rfl, rfl⟩) | (go_at_call 10; (with_reducible refine (awake_any _).mono ?_); rintro e w1 ⟨rfl, hB1⟩))
  go_ret
  exact ⟨rfl, hB1⟩
end Go.Proofs.Ytagfigjcoffklaa
