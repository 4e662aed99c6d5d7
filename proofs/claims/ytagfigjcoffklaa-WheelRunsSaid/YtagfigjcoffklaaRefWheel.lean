/- The reference's wheel, walked: New, Turn, Skip. -/
import Derived.Test.YtagfigjcoffklaaUntilsW
import Derived.Test.YtagfigjcoffklaaResults
namespace Go.Proofs.Ytagfigjcoffklaa
open Go.RowKit
theorem Blk.drew {w : World} {g : Nat} {cs : Array Value} {t : TypeId} (h : Blk w g cs t) : Blk w.drew g cs t := h
/-- A wheel of the reference's. -/
def rwh (p t s : Int) : Value := .agg #[.int .i64 p, .int .i64 t, .int .i64 s]
theorem refNew_yes (p : Int) (w : World) (h0 : 1 ≤ p) (h1 : p ≤ 16) :
    Calls Try.prog 20 #[.int .i64 p] w fun e w' => e = .returned (.tuple #[rwh p 0 0, .int .i64 0]) ∧ Below w.heap.size w w' := by
  have d0 : decide (p < 1) = false := by simp; omega
  go_enter Try.func20, Try.ntmps20
  go_wp2
  refine bodyPost_ret (results_row_tmp rfl _ _ w.heap.size _ _ _ _ rfl (heap_alloc_new _ _) Try.underlying44 rfl (by kernel_rfl) _ rfl) rfl ?_
  · exact ⟨rfl, (Below.refl _ _).alloc (Nat.le_refl _) _⟩
set_option maxHeartbeats 4000000 in
theorem refTurn_any (p t s : Int) (w : World) (h0 : 1 ≤ p) (h1 : p ≤ 16) (t0 : 0 ≤ t) (t1 : t ≤ 4611686018427387904) (s0 : 0 ≤ s) (s1 : s ≤ 4611686018427387904) :
    Calls Try.prog 25 #[rwh p t s] w fun e w' => e = .returned (.tuple #[rwh p (t + 1) (s + 1), .int .i64 s, .int .i64 (t % p)]) ∧ Below w.heap.size w w' := by
  have z0 : (p == 0) = false := by rw [beq_eq_false_iff_ne]; omega
  go_enter Try.func25, Try.ntmps25
  unfold rwh
  go_wp2
  have hb1 := heap_alloc_new (w.alloc (.cells #[Value.int .i64 p, Value.int .i64 t, Value.int .i64 s] 44)) (.cells #[Value.int .i64 0, Value.int .i64 0, Value.int .i64 0] 44)
  have hb0 : Blk ((w.alloc (.cells #[Value.int .i64 p, Value.int .i64 t, Value.int .i64 s] 44)).alloc (.cells #[Value.int .i64 0, Value.int .i64 0, Value.int .i64 0] 44)) w.heap.size _ _ := Blk.below (heap_alloc_new w (.cells #[Value.int .i64 p, Value.int .i64 t, Value.int .i64 s] 44)) ((Below.refl _ _).alloc (Nat.le_refl _) _) (by simp)
  have hB := ((Below.refl w.heap.size w).alloc (Nat.le_refl _) (.cells #[Value.int .i64 p, Value.int .i64 t, Value.int .i64 s] 44)).alloc (by simp) (.cells #[Value.int .i64 0, Value.int .i64 0, Value.int .i64 0] 44)
  rw [show (w.alloc (.cells #[Value.int .i64 p, Value.int .i64 t, Value.int .i64 s] 44)).heap.size = w.heap.size + 1 by simp] at hb1
  generalize (w.alloc (.cells #[Value.int .i64 p, Value.int .i64 t, Value.int .i64 s] 44)).alloc (.cells #[Value.int .i64 0, Value.int .i64 0, Value.int .i64 0] 44) = w2 at *
  have c0 := hb0.cell 0
  have c1 := hb0.cell 1
  have c2 := hb0.cell 2
  have hb2 : Blk w2 (w.heap.size + 1) _ _ := hb1
  have e0 := hb2.cell 0
  have e1 := hb2.cell 1
  have e2 := hb2.cell 2
  have f0 := hb2.frozen 0
  have f1 := hb2.frozen 1
  have f2 := hb2.frozen 2
  have hst := (Blk.set (Blk.set (Blk.set (show Blk w2 (w.heap.size + 1) _ _ from hb1) 0 (.int .i64 p)) 1 (.int .i64 (t + 1))) 2 (.int .i64 (s + 1)))
  clear hb1
  go_region
  go_wp2
  refine bodyPost_ret (results_row_tmp2 rfl _ _ (w.heap.size + 1) _ _ _ _ rfl hst.drew Try.underlying44 rfl (by kernel_rfl) _ _ rfl rfl) rfl ?_
  exact ⟨rfl, (((hB.setCell (by simp) _).setCell (by simp) _).setCell (by simp) _).drew⟩
set_option maxHeartbeats 4000000 in
theorem refSkip_any (p t s : Int) (w : World) (s0 : 0 ≤ s) (s1 : s ≤ 4611686018427387904) :
    Calls Try.prog 26 #[rwh p t s] w fun e w' => e = .returned (.tuple #[rwh p t (s + 1), .int .i64 s]) ∧ Below w.heap.size w w' := by
  go_enter Try.func26, Try.ntmps26
  unfold rwh
  go_wp2
  have hb1 := heap_alloc_new (w.alloc (.cells #[Value.int .i64 p, Value.int .i64 t, Value.int .i64 s] 44)) (.cells #[Value.int .i64 0, Value.int .i64 0, Value.int .i64 0] 44)
  have hb0 : Blk ((w.alloc (.cells #[Value.int .i64 p, Value.int .i64 t, Value.int .i64 s] 44)).alloc (.cells #[Value.int .i64 0, Value.int .i64 0, Value.int .i64 0] 44)) w.heap.size _ _ := Blk.below (heap_alloc_new w (.cells #[Value.int .i64 p, Value.int .i64 t, Value.int .i64 s] 44)) ((Below.refl _ _).alloc (Nat.le_refl _) _) (by simp)
  have hB := ((Below.refl w.heap.size w).alloc (Nat.le_refl _) (.cells #[Value.int .i64 p, Value.int .i64 t, Value.int .i64 s] 44)).alloc (by simp) (.cells #[Value.int .i64 0, Value.int .i64 0, Value.int .i64 0] 44)
  rw [show (w.alloc (.cells #[Value.int .i64 p, Value.int .i64 t, Value.int .i64 s] 44)).heap.size = w.heap.size + 1 by simp] at hb1
  generalize (w.alloc (.cells #[Value.int .i64 p, Value.int .i64 t, Value.int .i64 s] 44)).alloc (.cells #[Value.int .i64 0, Value.int .i64 0, Value.int .i64 0] 44) = w2 at *
  have c0 := hb0.cell 0
  have c1 := hb0.cell 1
  have c2 := hb0.cell 2
  have hb2 : Blk w2 (w.heap.size + 1) _ _ := hb1
  have e0 := hb2.cell 0
  have e1 := hb2.cell 1
  have e2 := hb2.cell 2
  have f0 := hb2.frozen 0
  have f1 := hb2.frozen 1
  have f2 := hb2.frozen 2
  have hst := (Blk.set (Blk.set (Blk.set (show Blk w2 (w.heap.size + 1) _ _ from hb1) 0 (.int .i64 p)) 1 (.int .i64 t)) 2 (.int .i64 (s + 1)))
  clear hb1
  go_region
  go_wp2
  refine bodyPost_ret (results_row_tmp rfl _ _ (w.heap.size + 1) _ _ _ _ rfl hst.drew Try.underlying44 rfl (by kernel_rfl) _ rfl) rfl ?_
  exact ⟨rfl, (((hB.setCell (by simp) _).setCell (by simp) _).setCell (by simp) _).drew⟩
theorem refNew_no (p : Int) (w : World) (h : p < 1 ∨ 16 < p) :
    Calls Try.prog 20 #[.int .i64 p] w fun e w' => e = .returned (.tuple #[rwh 0 0 0, .int .i64 2]) ∧ Below w.heap.size w w' := by
  rcases h with h | h
  · go_enter Try.func20, Try.ntmps20
    go_wp2
    refine bodyPost_ret (results_row_tmp rfl _ _ w.heap.size _ _ _ _ rfl (heap_alloc_new _ _) Try.underlying44 rfl (by kernel_rfl) _ rfl) rfl ?_
    exact ⟨rfl, (Below.refl _ _).alloc (Nat.le_refl _) _⟩
  · have d0 : decide (p < 1) = false := by simp; omega
    go_enter Try.func20, Try.ntmps20
    go_wp2
    refine bodyPost_ret (results_row_tmp rfl _ _ w.heap.size _ _ _ _ rfl (heap_alloc_new _ _) Try.underlying44 rfl (by kernel_rfl) _ rfl) rfl ?_
    exact ⟨rfl, (Below.refl _ _).alloc (Nat.le_refl _) _⟩
end Go.Proofs.Ytagfigjcoffklaa
