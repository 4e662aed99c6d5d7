/- The document's disk, walked: New, Load. -/
import Derived.Test.YtodaplkijdjbpaaRefD
import Derived.Test.YtodaplkijdjbpaaLoad
namespace Go.Proofs.Ytodaplkijdjbpaa
open Go.RowKit
set_option linter.unusedVariables false
set_option linter.unusedSimpArgs false
theorem info_rarea : (Try.prog.info? 96).map (fun i => (i.zero, i.size, i.bytes)) = some (some (.agg #[.int .i64 0, .int .i64 0, .int .i64 0, .slice none 0 0, .int .i64 0, .int .i64 0, .int .u8 0]), 7, 72) := by kernel_rfl
theorem rnew_made {w : World} {g n : Nat} (h : Blk w g (madeCells (Value.agg #[.int .i64 0, .int .i64 0, .int .i64 0, .slice none 0 0, .int .i64 0, .int .i64 0, .int .u8 0]).cells (n * 7)) 96) {F : Nat → Prop} (hF : F g) : RAt w (some ⟨g, 0, none⟩) (Pd.new n) F := by
  refine ⟨g, rfl, hF, fun j hj => ⟨none, 0, fun i u hu => ?_, Out.nil _ _ _, Nat.le_refl _⟩⟩
  have hj' : j < n := hj
  have hi : i < 7 := by have := (List.getElem?_eq_some_iff.1 hu).1; rwa [rCells_len] at this
  rw [h.cell, made_at _ _ _ (by omega)]
  have e : (j * 7 + i) % 7 = i := by omega
  have h7 : i = 0 ∨ i = 1 ∨ i = 2 ∨ i = 3 ∨ i = 4 ∨ i = 5 ∨ i = 6 := by omega
  have hcs : (Value.agg #[.int .i64 0, .int .i64 0, .int .i64 0, .slice none 0 0, .int .i64 0, .int .i64 0, .int .u8 0]).cells = #[.int .i64 0, .int .i64 0, .int .i64 0, .slice none 0 0, .int .i64 0, .int .i64 0, .int .u8 0] := by simp [Value.cells]
  rw [hcs]
  rcases h7 with rfl | rfl | rfl | rfl | rfl | rfl | rfl <;> (simp [rCells, Pd.new, Pa.new, Ft.no] at hu; subst hu; simp [e])
def RNewTo (n : Nat) (w : World) (e : Ending) (w' : World) : Prop :=
  ∃ q, e = .returned (.tuple #[.agg #[.slice (some ⟨q, 0, none⟩) n n, .bool false], .int .i64 0]) ∧ RAt w' (some ⟨q, 0, none⟩) (Pd.new n) (fun k => w.heap.size ≤ k ∧ k < w'.heap.size) ∧ Below w.heap.size w w'
theorem refNew_no (i : Int) (w : World) (h : i < 1 ∨ 16 < i) :
    Calls Try.prog 33 #[.int .i64 i] w fun e w' => e = .returned (.tuple #[.agg #[.slice none 0 0, .bool false], .int .i64 2]) ∧ Below w.heap.size w w' := by
  by_cases h1 : i < 1
  · have d1 : decide (i < 1) = true := decide_eq_true h1
    go_enter Try.func33, Try.ntmps33
    go_wp2
    refine bodyPost_ret (results_row_tmp rfl _ _ w.heap.size 48 _ (0, 0) _ rfl (Blk.fresh w _ _) Try.underlying48 rfl (by kernel_rfl) _ rfl) rfl ?_
    exact ⟨rfl, below_alloc _ _⟩
  · have d1 : decide (i < 1) = false := decide_eq_false h1
    have d2 : decide (16 < i) = true := decide_eq_true (by omega)
    go_enter Try.func33, Try.ntmps33
    go_wp2
    refine bodyPost_ret (results_row_tmp rfl _ _ w.heap.size 48 _ (0, 0) _ rfl (Blk.fresh w _ _) Try.underlying48 rfl (by kernel_rfl) _ rfl) rfl ?_
    exact ⟨rfl, below_alloc _ _⟩
set_option maxHeartbeats 1600000 in
set_option maxRecDepth 100000 in
theorem refNew_any (n : Nat) (w : World) (h0 : 1 ≤ n) (h1 : n ≤ 16) :
    Calls Try.prog 33 #[.int .i64 (n : Int)] w (RNewTo n w) := by
  obtain ⟨i0, hi, hz0, hz1, hz2⟩ := info_parts info_rarea
  have d1 : decide ((n : Int) < 1) = false := decide_eq_false (by omega)
  have d2 : decide ((16 : Int) < (n : Int)) = false := decide_eq_false (by omega)
  go_enter Try.func33, Try.ntmps33
  have x1 := below_alloc w (.cells #[.slice none 0 0, .bool false] 48)
  have b1 := Blk.fresh w #[.slice none 0 0, .bool false] 48
  have z1 : (w.alloc (.cells #[.slice none 0 0, .bool false] 48)).heap.size = w.heap.size + 1 := by simp
  obtain ⟨wa, hwa⟩ : ∃ wa, w.alloc (.cells #[.slice none 0 0, .bool false] 48) = wa := ⟨_, rfl⟩
  rw [hwa] at x1 b1 z1
  go_upto_region 3 with fail
  clear hwa
  go_wp2_with (at_make; refine wpList_make_full _ rfl (.tmp 11) (.tmp 11) 46 rfl wa.heap.size 96 i0 _ 7 Try.underlying46 hi hz0 hz1 .i64 .i64 _ _ n rfl rfl rfl rfl (by rw [hz2]; omega) (by simp [maxLen]; omega) (Nat.le_refl _) ?_; intro w1 hown hgr; have hB1 := below_of_grown hgr (Nat.le_refl _) (fun k h => by cases h); have o0 := (b1.keep hB1).cell 0; have o1 := (b1.keep hB1).cell 1; have of := (b1.keep hB1).frozen)
  have hbk := made_blk hown
  rw [z1] at hbk
  have e0 : ((w1.setCell ⟨w.heap.size, 0, none⟩ (.slice (some ⟨w.heap.size + 1, 0, none⟩) n n)).setCell ⟨w.heap.size, 1, none⟩ (.bool false)).heap.size = w1.heap.size := by simp [World.setCell]
  have hC := (chg_set w1 w.heap.size 0 (.slice (some ⟨w.heap.size + 1, 0, none⟩) n n)).set (.inl rfl) 1 (.bool false)
  have bb : Blk _ w.heap.size #[.slice (some ⟨w.heap.size + 1, 0, none⟩) n n, .bool false] 48 := (((b1.keep hB1).set 0 (.slice (some ⟨w.heap.size + 1, 0, none⟩) n n)).set 1 (.bool false))
  have hra := (rnew_made (F := fun k => w.heap.size + 1 ≤ k ∧ k < w1.heap.size) hbk ⟨Nat.le_refl _, hbk.lt⟩).chg (hC.mono (fun k e e2 => by omega))
  refine bodyPost_ret (results_row_tmp rfl _ _ w.heap.size 48 _ (0, 0) _ rfl bb Try.underlying48 rfl (by kernel_rfl) _ rfl) rfl ?_
  exact ⟨_, rfl, hra.mono (fun k e => ⟨by omega, by rw [e0]; exact e.2⟩), (below_then x1 hB1 x1.size).trans (hC.below (by have := x1.size; have := hB1.size; omega) (fun k e => by omega))⟩
end Go.Proofs.Ytodaplkijdjbpaa
