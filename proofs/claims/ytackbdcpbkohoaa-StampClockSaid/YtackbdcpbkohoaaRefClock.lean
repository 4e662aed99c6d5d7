/- The document's clock, walked: Next, Worn, Set, Horizon; both clocks, one beside the other. -/
import Derived.Test.YtackbdcpbkohoaaTakeW
import Derived.Deep.CutRange
namespace Go.Proofs.Ytackbdcpbkohoaa
open Go.RowKit
theorem refNow_any (b : Bool) (s n : Int) (w : World) : Calls Try.prog 21 #[.agg #[.bool b, .int .i64 s, .int .i64 n]] w fun e w' => e = .returned (.int .i64 s) ∧ Below w.heap.size w w' := by
  go_enter Try.func21, Try.ntmps21
  go_wp2
  go_ret
  exact ⟨rfl, below_alloc _ _⟩
theorem refHorizon_any (b : Bool) (s n : Int) (w : World) (s0 : 0 ≤ s) (s1 : s ≤ 4611686018427387904) (n0 : 0 ≤ n) (n1 : n ≤ 1048576) : Calls Try.prog 26 #[.agg #[.bool b, .int .i64 s, .int .i64 n]] w fun e w' => e = .returned (.int .i64 (s - n)) ∧ Below w.heap.size w w' := by
  go_enter Try.func26, Try.ntmps26
  have hD := Blk.fresh w #[.bool b, .int .i64 s, .int .i64 n] 40
  have hB := below_alloc w (.cells #[.bool b, .int .i64 s, .int .i64 n] 40)
  go_upto_region 1 with fail
  generalize w.alloc (.cells #[.bool b, .int .i64 s, .int .i64 n] 40) = w2 at *
  have c1 : w2.cell? ⟨w.heap.size, 1, none⟩ = some (.int .i64 s) := hD.cell 1
  have c2 : w2.cell? ⟨w.heap.size, 2, none⟩ = some (.int .i64 n) := hD.cell 2
  go_wp2
  go_ret
  exact ⟨rfl, hB⟩
theorem refWorn_any (b : Bool) (s n : Int) (w : World) : Calls Try.prog 23 #[.agg #[.bool b, .int .i64 s, .int .i64 n]] w fun e w' => e = .returned (.bool (b && (s == 4611686018427387904))) ∧ Below w.heap.size w w' := by
  cases b
  all_goals
    go_enter Try.func23, Try.ntmps23
    go_wp2
    go_ret
    exact ⟨by simp, below_alloc _ _⟩
/-- What Next makes of a clock. -/
def nextS (b : Bool) (s : Int) : Int := if b = true ∧ s ≠ 4611686018427387904 then s + 1 else s
def nextN (b : Bool) (s : Int) : Int := if b = true ∧ s ≠ 4611686018427387904 then s + 1 else 0
def nextE (b : Bool) (s : Int) : Int := if b = true then if s = 4611686018427387904 then 120 else 0 else 1
set_option maxHeartbeats 4000000 in
theorem refNext_any (b : Bool) (s n : Int) (w : World) (s0 : 0 ≤ s) (s1 : s ≤ 4611686018427387904) : Calls Try.prog 22 #[.agg #[.bool b, .int .i64 s, .int .i64 n]] w fun e w' =>
    e = .returned (.tuple #[.agg #[.bool b, .int .i64 (nextS b s), .int .i64 n], .int .i64 (nextN b s), .int .i64 (nextE b s)]) ∧ Below w.heap.size w w' := by
  have hD1 := Blk.fresh w #[.bool b, .int .i64 s, .int .i64 n] 40
  have hB1 := below_alloc w (.cells #[.bool b, .int .i64 s, .int .i64 n] 40)
  have hD2 := Blk.fresh (w.alloc (.cells #[.bool b, .int .i64 s, .int .i64 n] 40)) #[.bool false, .int .i64 0, .int .i64 0] 40
  have hB2 := below_alloc (w.alloc (.cells #[.bool b, .int .i64 s, .int .i64 n] 40)) (.cells #[.bool false, .int .i64 0, .int .i64 0] 40)
  have hD1' : Blk _ _ _ _ := hD1.keep hB2
  have hB := below_then hB1 hB2 hB1.size
  rw [show (w.alloc (.cells #[Value.bool b, .int .i64 s, .int .i64 n] 40)).heap.size = w.heap.size + 1 by simp] at hD2
  clear hD1 hB1 hB2
  go_enter Try.func22, Try.ntmps22
  go_upto_region 1 with fail
  generalize (w.alloc (.cells #[.bool b, .int .i64 s, .int .i64 n] 40)).alloc (.cells #[.bool false, .int .i64 0, .int .i64 0] 40) = w2 at *
  have c0 : w2.cell? ⟨w.heap.size, 0, none⟩ = some (.bool b) := hD1'.cell 0
  have c1 : w2.cell? ⟨w.heap.size, 1, none⟩ = some (.int .i64 s) := hD1'.cell 1
  have c2 : w2.cell? ⟨w.heap.size, 2, none⟩ = some (.int .i64 n) := hD1'.cell 2
  have f1 := hD1'.frozen 1
  have d0 : w2.cell? ⟨w.heap.size + 1, 0, none⟩ = some (.bool false) := hD2.cell 0
  have d1 : w2.cell? ⟨w.heap.size + 1, 1, none⟩ = some (.int .i64 0) := hD2.cell 1
  have d2 : w2.cell? ⟨w.heap.size + 1, 2, none⟩ = some (.int .i64 0) := hD2.cell 2
  have g0 := hD2.frozen 0
  have g1 := hD2.frozen 1
  have g2 := hD2.frozen 2
  cases b with
  | false =>
    have hst := Blk.set (Blk.set (Blk.set hD2 0 (.bool false)) 1 (.int .i64 s)) 2 (.int .i64 n)
    have hBs := ((hB.setCell (p := ⟨w.heap.size + 1, 0, none⟩) (by simp) (.bool false)).setCell (p := ⟨w.heap.size + 1, 1, none⟩) (by simp) (.int .i64 s)).setCell (p := ⟨w.heap.size + 1, 2, none⟩) (by simp) (.int .i64 n)
    go_wp2
    refine bodyPost_ret (results_row_tmp2 rfl _ _ (w.heap.size + 1) _ _ _ _ rfl hst Try.underlying40 rfl (by kernel_rfl) _ _ rfl rfl) rfl ?_
    exact ⟨by simp [nextS, nextN, nextE], hBs⟩
  | true =>
    by_cases hw : s = 4611686018427387904
    · subst hw
      have hst := Blk.set (Blk.set (Blk.set hD2 0 (.bool true)) 1 (.int .i64 4611686018427387904)) 2 (.int .i64 n)
      have hBs := ((hB.setCell (p := ⟨w.heap.size + 1, 0, none⟩) (by simp) (.bool true)).setCell (p := ⟨w.heap.size + 1, 1, none⟩) (by simp) (.int .i64 4611686018427387904)).setCell (p := ⟨w.heap.size + 1, 2, none⟩) (by simp) (.int .i64 n)
      go_wp2
      refine bodyPost_ret (results_row_tmp2 rfl _ _ (w.heap.size + 1) _ _ _ _ rfl hst Try.underlying40 rfl (by kernel_rfl) _ _ rfl rfl) rfl ?_
      exact ⟨by simp [nextS, nextN, nextE], hBs⟩
    · have z0 : (s == 4611686018427387904) = false := by rw [beq_eq_false_iff_ne]; exact hw
      have hD3 := hD1'.set 1 (.int .i64 (s + 1))
      have hE3 : Blk _ _ _ _ := hD2.grown (grown_set w2 w.heap.size 1 (.int .i64 (s + 1))) (fun e => by injection e with e; omega)
      have hB3 : Below w.heap.size w (w2.setCell ⟨w.heap.size, 1, none⟩ (.int .i64 (s + 1))) := hB.setCell (Nat.le_refl _) _
      have HW := Lib.hid hw
      clear hw d0 d1 d2 g0 g1 g2
      go_upto_region 6 with fail
      clear c0 c1 c2 f1 hD1' hD2 hB
      generalize w2.setCell ⟨w.heap.size, 1, none⟩ (.int .i64 (s + 1)) = w3 at *
      have c0 : w3.cell? ⟨w.heap.size, 0, none⟩ = some (.bool true) := hD3.cell 0
      have c1 : w3.cell? ⟨w.heap.size, 1, none⟩ = some (.int .i64 (s + 1)) := hD3.cell 1
      have c2 : w3.cell? ⟨w.heap.size, 2, none⟩ = some (.int .i64 n) := hD3.cell 2
      have d0 : w3.cell? ⟨w.heap.size + 1, 0, none⟩ = some (.bool false) := hE3.cell 0
      have d1 : w3.cell? ⟨w.heap.size + 1, 1, none⟩ = some (.int .i64 0) := hE3.cell 1
      have d2 : w3.cell? ⟨w.heap.size + 1, 2, none⟩ = some (.int .i64 0) := hE3.cell 2
      have g0 := hE3.frozen 0
      have g1 := hE3.frozen 1
      have g2 := hE3.frozen 2
      have hst := Blk.set (Blk.set (Blk.set hE3 0 (.bool true)) 1 (.int .i64 (s + 1))) 2 (.int .i64 n)
      have hBs := ((hB3.setCell (p := ⟨w.heap.size + 1, 0, none⟩) (by simp) (.bool true)).setCell (p := ⟨w.heap.size + 1, 1, none⟩) (by simp) (.int .i64 (s + 1))).setCell (p := ⟨w.heap.size + 1, 2, none⟩) (by simp) (.int .i64 n)
      go_region
      go_wp2
      refine bodyPost_ret (results_row_tmp2 rfl _ _ (w.heap.size + 1) _ _ _ _ rfl hst.drew Try.underlying40 rfl (by kernel_rfl) _ _ rfl rfl) rfl ?_
      have := HW.out
      exact ⟨by simp [nextS, nextN, nextE, this], hBs.drew⟩
/-- What Set makes of a clock. -/
def setS (b : Bool) (s a : Int) : Int := if b = true ∧ 0 ≤ a ∧ a ≤ 4611686018427387904 then a else s
def setE (b : Bool) (a : Int) : Int := if b = true then if 0 ≤ a ∧ a ≤ 4611686018427387904 then 0 else 2 else 1
set_option maxHeartbeats 4000000 in
theorem refSet_any (b : Bool) (s n a : Int) (w : World) : Calls Try.prog 25 #[.agg #[.bool b, .int .i64 s, .int .i64 n], .int .i64 a] w fun e w' =>
    e = .returned (.tuple #[.agg #[.bool b, .int .i64 (setS b s a), .int .i64 n], .int .i64 (setE b a)]) ∧ Below w.heap.size w w' := by
  have hD1 := Blk.fresh w #[.bool b, .int .i64 s, .int .i64 n] 40
  have hB1 := below_alloc w (.cells #[.bool b, .int .i64 s, .int .i64 n] 40)
  have hD2 := Blk.fresh (w.alloc (.cells #[.bool b, .int .i64 s, .int .i64 n] 40)) #[.bool false, .int .i64 0, .int .i64 0] 40
  have hB2 := below_alloc (w.alloc (.cells #[.bool b, .int .i64 s, .int .i64 n] 40)) (.cells #[.bool false, .int .i64 0, .int .i64 0] 40)
  have hD1' : Blk _ _ _ _ := hD1.keep hB2
  have hB := below_then hB1 hB2 hB1.size
  rw [show (w.alloc (.cells #[Value.bool b, .int .i64 s, .int .i64 n] 40)).heap.size = w.heap.size + 1 by simp] at hD2
  clear hD1 hB1 hB2
  go_enter Try.func25, Try.ntmps25
  go_upto_region 1 with fail
  generalize (w.alloc (.cells #[.bool b, .int .i64 s, .int .i64 n] 40)).alloc (.cells #[.bool false, .int .i64 0, .int .i64 0] 40) = w2 at *
  have c0 : w2.cell? ⟨w.heap.size, 0, none⟩ = some (.bool b) := hD1'.cell 0
  have c1 : w2.cell? ⟨w.heap.size, 1, none⟩ = some (.int .i64 s) := hD1'.cell 1
  have c2 : w2.cell? ⟨w.heap.size, 2, none⟩ = some (.int .i64 n) := hD1'.cell 2
  have f1 := hD1'.frozen 1
  have d0 : w2.cell? ⟨w.heap.size + 1, 0, none⟩ = some (.bool false) := hD2.cell 0
  have d1 : w2.cell? ⟨w.heap.size + 1, 1, none⟩ = some (.int .i64 0) := hD2.cell 1
  have d2 : w2.cell? ⟨w.heap.size + 1, 2, none⟩ = some (.int .i64 0) := hD2.cell 2
  have g0 := hD2.frozen 0
  have g1 := hD2.frozen 1
  have g2 := hD2.frozen 2
  cases b with
  | false =>
    have hst := Blk.set (Blk.set (Blk.set hD2 0 (.bool false)) 1 (.int .i64 s)) 2 (.int .i64 n)
    have hBs := ((hB.setCell (p := ⟨w.heap.size + 1, 0, none⟩) (by simp) (.bool false)).setCell (p := ⟨w.heap.size + 1, 1, none⟩) (by simp) (.int .i64 s)).setCell (p := ⟨w.heap.size + 1, 2, none⟩) (by simp) (.int .i64 n)
    go_wp2
    refine bodyPost_ret (results_row_tmp rfl _ _ (w.heap.size + 1) _ _ _ _ rfl hst Try.underlying40 rfl (by kernel_rfl) _ rfl) rfl ?_
    exact ⟨by simp [setS, setE], hBs⟩
  | true =>
    by_cases hw : 0 ≤ a ∧ a ≤ 4611686018427387904
    · obtain ⟨a0, a1⟩ := hw
      have hD3 := hD1'.set 1 (.int .i64 a)
      have hE3 : Blk _ _ _ _ := hD2.grown (grown_set w2 w.heap.size 1 (.int .i64 a)) (fun e => by injection e with e; omega)
      have hB3 : Below w.heap.size w (w2.setCell ⟨w.heap.size, 1, none⟩ (.int .i64 a)) := hB.setCell (Nat.le_refl _) _
      clear d0 d1 d2 g0 g1 g2
      go_upto_region 6 with fail
      clear c0 c1 c2 f1 hD1' hD2 hB
      generalize w2.setCell ⟨w.heap.size, 1, none⟩ (.int .i64 a) = w3 at *
      have c0 : w3.cell? ⟨w.heap.size, 0, none⟩ = some (.bool true) := hD3.cell 0
      have c1 : w3.cell? ⟨w.heap.size, 1, none⟩ = some (.int .i64 a) := hD3.cell 1
      have c2 : w3.cell? ⟨w.heap.size, 2, none⟩ = some (.int .i64 n) := hD3.cell 2
      have d0 : w3.cell? ⟨w.heap.size + 1, 0, none⟩ = some (.bool false) := hE3.cell 0
      have d1 : w3.cell? ⟨w.heap.size + 1, 1, none⟩ = some (.int .i64 0) := hE3.cell 1
      have d2 : w3.cell? ⟨w.heap.size + 1, 2, none⟩ = some (.int .i64 0) := hE3.cell 2
      have g0 := hE3.frozen 0
      have g1 := hE3.frozen 1
      have g2 := hE3.frozen 2
      have hst := Blk.set (Blk.set (Blk.set hE3 0 (.bool true)) 1 (.int .i64 a)) 2 (.int .i64 n)
      have hBs := ((hB3.setCell (p := ⟨w.heap.size + 1, 0, none⟩) (by simp) (.bool true)).setCell (p := ⟨w.heap.size + 1, 1, none⟩) (by simp) (.int .i64 a)).setCell (p := ⟨w.heap.size + 1, 2, none⟩) (by simp) (.int .i64 n)
      go_wp2
      refine bodyPost_ret (results_row_tmp rfl _ _ (w.heap.size + 1) _ _ _ _ rfl hst Try.underlying40 rfl (by kernel_rfl) _ rfl) rfl ?_
      exact ⟨by simp [setS, setE, a0, a1], hBs⟩
    · have hw' : a < 0 ∨ 4611686018427387904 < a := by omega
      have hst := Blk.set (Blk.set (Blk.set hD2 0 (.bool true)) 1 (.int .i64 s)) 2 (.int .i64 n)
      have hBs := ((hB.setCell (p := ⟨w.heap.size + 1, 0, none⟩) (by simp) (.bool true)).setCell (p := ⟨w.heap.size + 1, 1, none⟩) (by simp) (.int .i64 s)).setCell (p := ⟨w.heap.size + 1, 2, none⟩) (by simp) (.int .i64 n)
      have HS := Lib.hid (show setS true s a = s ∧ setE true a = 2 by unfold setS setE; rw [if_neg (by omega), if_pos rfl, if_neg (by omega)]; exact ⟨rfl, rfl⟩)
      clear hw
      go_wp2
      all_goals
        first
        | (refine bodyPost_ret (results_row_tmp rfl _ _ (w.heap.size + 1) _ _ _ _ rfl hst Try.underlying40 rfl (by kernel_rfl) _ rfl) rfl ?_
           rw [HS.out.1, HS.out.2]
           exact ⟨rfl, hBs⟩)
        | (exfalso; simp only [beq_iff_eq, Bool.or_eq_true, decide_eq_true_eq] at *; omega)
end Go.Proofs.Ytackbdcpbkohoaa
