/- The methods of an area that is not there; AreaNames, AreaNone, walked. -/
import Derived.Test.YtbfnmfakagdpfaaAwake
namespace Go.Proofs.Ytbfnmfakagdpfaa
open Go.RowKit
theorem areaAppend_nil (v : Value) (w : World) : Calls Try.prog 14 #[.pointer none, v] w fun e w' => e = .returned (.int .i64 1) ∧ w = w' := by
  go_enter Try.func14, Try.ntmps14
  go_wp2
  go_ret
  exact ⟨rfl, rfl⟩
theorem areaSync_nil  (w : World) : Calls Try.prog 15 #[.pointer none] w fun e w' => e = .returned (.int .i64 1) ∧ w = w' := by
  go_enter Try.func15, Try.ntmps15
  go_wp2
  go_ret
  exact ⟨rfl, rfl⟩
theorem areaCut_nil (n : Int) (w : World) : Calls Try.prog 16 #[.pointer none, .int .i64 n] w fun e w' => e = .returned (.int .i64 1) ∧ w = w' := by
  go_enter Try.func16, Try.ntmps16
  go_wp2
  go_ret
  exact ⟨rfl, rfl⟩
theorem areaTrim_nil (n : Int) (w : World) : Calls Try.prog 17 #[.pointer none, .int .i64 n] w fun e w' => e = .returned (.int .i64 1) ∧ w = w' := by
  go_enter Try.func17, Try.ntmps17
  go_wp2
  go_ret
  exact ⟨rfl, rfl⟩
theorem areaRead_nil (n m : Int) (w : World) : Calls Try.prog 11 #[.pointer none, .int .i64 n, .int .i64 m] w fun e w' => e = .returned (.tuple #[.slice none 0 0, .int .i64 1]) ∧ w = w' := by
  go_enter Try.func11, Try.ntmps11
  go_wp2
  go_ret2
  exact ⟨rfl, rfl⟩
theorem areaBounds_nil  (w : World) : Calls Try.prog 12 #[.pointer none] w fun e w' => e = .returned (.tuple #[.int .i64 0, .int .i64 0, .int .i64 0]) ∧ w = w' := by
  go_enter Try.func12, Try.ntmps12
  go_wp2
  go_ret3
  exact ⟨rfl, rfl⟩
theorem areaCrash_nil (n m : Int) (w : World) : Calls Try.prog 18 #[.pointer none, .int .i64 n, .int .u8 m] w fun e w' => e = .returned (.int .i64 1) ∧ w = w' := by
  go_enter Try.func18, Try.ntmps18
  go_wp2
  go_ret
  exact ⟨rfl, rfl⟩
theorem areaImage_nil (w : World) : Calls Try.prog 13 #[.pointer none] w fun e w' => e = .returned (.agg #[.int .i64 0, .slice none 0 0]) ∧ Below w.heap.size w w' := by
  have hB1 := below_alloc w (.cells #[.int .i64 0, .slice none 0 0] 33)
  go_enter Try.func13, Try.ntmps13
  go_wp2
  exact bodyPost_ret (results_cell_row rfl _ _ w.heap.size 33 _ (0, 0) _ rfl (Blk.fresh _ _ _) Try.underlying33 rfl (by kernel_rfl)) rfl ⟨rfl, hB1⟩
theorem areaNames_any (w : World) : Calls Try.prog 3 #[] w fun e w' => e = .returned (.bool true) ∧ Below w.heap.size w w' := by
  go_enter Try.func3, Try.ntmps3
  go_wp2_with (go_at_call 10; (with_reducible refine (awake_any _).mono ?_); rintro e w1 ⟨rfl, hB1⟩)
  go_ret
  exact ⟨rfl, hB1⟩
set_option maxHeartbeats 1600000 in
theorem areaNone_any (k a b : Int) (D : Value) (w : World) : Calls Try.prog 4 #[.agg #[.int .i64 k, .int .i64 a, .int .i64 b, D]] w fun e w' => e = .returned (.bool true) ∧ Below w.heap.size w w' := by
  have hB1 := below_alloc w (.cells #[.int .i64 k, .int .i64 a, .int .i64 b, D] 25)
  have hD1 := Blk.fresh w #[.int .i64 k, .int .i64 a, .int .i64 b, D] 25
  go_enter Try.func4, Try.ntmps4
  go_wp2_with fail
  generalize w.alloc (.cells #[.int .i64 k, .int .i64 a, .int .i64 b, D] 25) = w1 at *
  obtain ⟨G, hG⟩ : ∃ G, w.heap.size = G := ⟨_, rfl⟩
  rw [hG] at hD1 ⊢
  have HG := Lib.hid hG
  clear hG
  refine (areaRead_nil _ _ _).mono ?_
  rintro e w2 ⟨rfl, rfl⟩
  have e1 : w1.cell? ⟨G, 1, none⟩ = some (.int .i64 a) := hD1.cell 1
  have e2 : w1.cell? ⟨G, 2, none⟩ = some (.int .i64 b) := hD1.cell 2
  have e3 : w1.cell? ⟨G, 3, none⟩ = some D := hD1.cell 3
  go_wp2_with fail
  refine (areaBounds_nil _).mono ?_
  rintro e w2 ⟨rfl, rfl⟩
  go_wp2_with fail
  refine (areaImage_nil _).mono ?_
  rintro e w2 ⟨rfl, hb2⟩
  have hB2 := below_then hB1 hb2 hB1.size
  have hD2 : Blk w2 _ _ _ := hD1.keep hb2
  have hb3 := below_alloc w2 (.cells #[.int .i64 0, .slice none 0 0] 33)
  have hB3 := below_then hB2 hb3 hB2.size
  have hD3 : Blk _ _ _ _ := hD2.keep hb3
  have hS3 := Blk.fresh w2 #[.int .i64 0, .slice none 0 0] 33
  clear e1 e2 e3
  have e1 : w2.cell? ⟨G, 1, none⟩ = some (.int .i64 a) := hD2.cell 1
  have e2 : w2.cell? ⟨G, 2, none⟩ = some (.int .i64 b) := hD2.cell 2
  have e3 : w2.cell? ⟨G, 3, none⟩ = some D := hD2.cell 3
  have hGl : G < w2.heap.size := hD2.lt
  go_wp2_with (first | (go_at_call 14; (with_reducible refine (areaAppend_nil _ _).mono ?_); rintro e w' ⟨rfl, rfl⟩) | (go_at_call 15; (with_reducible refine (areaSync_nil _).mono ?_); rintro e w' ⟨rfl, rfl⟩) | (go_at_call 16; (with_reducible refine (areaCut_nil _ _).mono ?_); rintro e w' ⟨rfl, rfl⟩) | (go_at_call 17; (with_reducible refine (areaTrim_nil _ _).mono ?_); rintro e w' ⟨rfl, rfl⟩) | (go_at_call 18; (with_reducible refine (areaCrash_nil _ _ _).mono ?_); rintro e w' ⟨rfl, rfl⟩) | (go_at_call 10; (with_reducible refine (awake_any _).mono ?_); rintro e w4 ⟨rfl, hb4⟩))
  go_ret
  exact ⟨rfl, below_then hB3 hb4 hB3.size⟩
end Go.Proofs.Ytbfnmfakagdpfaa
