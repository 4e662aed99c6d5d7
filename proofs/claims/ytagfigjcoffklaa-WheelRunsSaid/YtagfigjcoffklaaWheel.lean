/- Package wheel, walked: New, Next, Skip, Slot, Turn. -/
import Derived.Test.YtagfigjcoffklaaSame
namespace Go.Proofs.Ytagfigjcoffklaa
open Go.RowKit
/-- A block of which all is known. -/
def Blk (w : World) (g : Nat) (cs : Array Value) (t : TypeId) : Prop := w.heap[g]? = some (.cells cs t (0, 0))
theorem Blk.lt {w : World} {g : Nat} {cs : Array Value} {t : TypeId} (h : Blk w g cs t) : g < w.heap.size := (Array.getElem?_eq_some_iff.1 h).1
theorem Blk.cell {w : World} {g : Nat} {cs : Array Value} {t : TypeId} (h : Blk w g cs t) (j : Nat) : w.cell? ⟨g, j, none⟩ = cs[j]? := cell_of_row _ _ _ _ _ _ h
theorem Blk.frozen {w : World} {g : Nat} {cs : Array Value} {t : TypeId} (h : Blk w g cs t) (j : Nat) : w.frozen? ⟨g, j, none⟩ = false := frozen_of_row _ _ _ _ _ h
theorem Blk.below {w w1 : World} {g : Nat} {cs : Array Value} {t : TypeId} {B : Nat} (h : Blk w g cs t) (hb : Below B w w1) (hg : g < B) : Blk w1 g cs t := (hb.block g hg).trans h
theorem Blk.grown {w w1 : World} {g : Nat} {cs : Array Value} {t : TypeId} {row : Option Nat} (h : Blk w g cs t) (hg : w.grownBy w1 row) (hr : row ≠ some g) : Blk w1 g cs t := (hg.block g h.lt (fun e => hr e.symm)).trans h
theorem Blk.set {w : World} {g : Nat} {cs : Array Value} {t : TypeId} (h : Blk w g cs t) (j : Nat) (v : Value) : Blk (w.setCell ⟨g, j, none⟩ v) g (cs.setIfInBounds j v) t := heap_setCell_same _ _ _ _ _ _ h
theorem grown_set (w : World) (g j : Nat) (v : Value) : w.grownBy (w.setCell ⟨g, j, none⟩ v) (some g) :=
  ⟨rfl, rfl, rfl, by simp [World.setCell], fun k _ hk => heap_setCell_other _ _ _ _ (fun e => hk (by rw [e]))⟩
theorem grown_draws (w : World) (n : Nat) (row : Option Nat) : w.grownBy (w.drewN n) row := ⟨rfl, rfl, rfl, Nat.le_refl _, fun _ _ _ => rfl⟩
/-- The cells of a wheel. -/
def Whl (w : World) (g : Nat) (p t s : Int) : Prop := Blk w g #[.int .i64 p, .int .i64 t, .int .i64 s] 55
theorem new_yes (p : Int) (w : World) (h0 : 1 ≤ p) (h1 : p ≤ 16) :
    Calls Try.prog 16 #[.int .i64 p] w fun e w' => e = .returned (.tuple #[.pointer (some ⟨w.heap.size, 0, none⟩), .int .i64 0]) ∧ Whl w' w.heap.size p 0 0 ∧ Below w.heap.size w w' := by
  have d0 : decide (p < 1) = false := by simp; omega
  go_enter Try.func16, Try.ntmps16
  go_wp2
  go_ret2
  exact ⟨rfl, heap_alloc_new _ _, (Below.refl _ _).alloc (Nat.le_refl _) _⟩
theorem new_no (p : Int) (w : World) (h : p < 1 ∨ 16 < p) :
    Calls Try.prog 16 #[.int .i64 p] w fun e w' => e = .returned (.tuple #[.pointer none, .int .i64 2]) ∧ w = w' := by
  rcases h with h | h
  · go_enter Try.func16, Try.ntmps16
    go_wp2
    go_ret2
    exact ⟨rfl, rfl⟩
  · have d0 : decide (p < 1) = false := by simp; omega
    go_enter Try.func16, Try.ntmps16
    go_wp2
    go_ret2
    exact ⟨rfl, rfl⟩
/-- A method that changes one wheel alone. -/
def Chg (w : World) (g : Nat) (p t s : Int) (v : Value) (e : Ending) (w' : World) : Prop := e = .returned v ∧ w.grownBy w' (some g) ∧ Whl w' g p t s
set_option maxHeartbeats 400000 in
theorem next_any (g : Nat) (p t s : Int) (w : World) (h : Whl w g p t s) (h0 : 1 ≤ p) (h1 : p ≤ 16) (t0 : 0 ≤ t) (t1 : t ≤ 4611686018427387904) :
    Calls Try.prog 18 #[.pointer (some ⟨g, 0, none⟩)] w (Chg w g p t s (.int .i64 (t % p))) := by
  have c0 : w.cell? ⟨g, 0, none⟩ = some (.int .i64 p) := (Blk.cell h 0).trans rfl
  have c1 : w.cell? ⟨g, 1, none⟩ = some (.int .i64 t) := (Blk.cell h 1).trans rfl
  have z0 : (p == 0) = false := by rw [beq_eq_false_iff_ne]; omega
  go_enter Try.func18, Try.ntmps18
  go_wp2_with fail
  go_quiet (fail)
  go_wp2
  go_ret
  refine ⟨?_, grown_draws _ _ _, h⟩
  simp
theorem skip_any (g : Nat) (p t s : Int) (w : World) (h : Whl w g p t s) (s0 : 0 ≤ s) (s1 : s ≤ 4611686018427387904) :
    Calls Try.prog 19 #[.pointer (some ⟨g, 0, none⟩)] w (Chg w g p t (s + 1) (.int .i64 s)) := by
  have c2 : w.cell? ⟨g, 2, none⟩ = some (.int .i64 s) := (Blk.cell h 2).trans rfl
  have f2 : w.frozen? ⟨g, 2, none⟩ = false := Blk.frozen h 2
  go_enter Try.func19, Try.ntmps19
  go_wp2
  go_ret
  refine ⟨?_, grown_set _ _ _ _, Blk.set h 2 _⟩
  simp
theorem turn_any (g : Nat) (p t s : Int) (w : World) (h : Whl w g p t s) (h0 : 1 ≤ p) (h1 : p ≤ 16) (t0 : 0 ≤ t) (t1 : t ≤ 4611686018427387904) (s0 : 0 ≤ s) (s1 : s ≤ 4611686018427387904) :
    Calls Try.prog 17 #[.pointer (some ⟨g, 0, none⟩)] w (Chg w g p (t + 1) (s + 1) (.tuple #[.int .i64 s, .int .i64 (t % p)])) := by
  go_enter Try.func17, Try.ntmps17
  go_wp2_with fail
  refine (next_any g p t s w h h0 h1 t0 t1).mono ?_
  rintro e w1 ⟨rfl, hg1, hw1⟩
  have c1 : w1.cell? ⟨g, 1, none⟩ = some (.int .i64 t) := (Blk.cell hw1 1).trans rfl
  have f1 : w1.frozen? ⟨g, 1, none⟩ = false := Blk.frozen hw1 1
  have hw2 : Whl (w1.setCell ⟨g, 1, none⟩ (.int .i64 (t + 1))) g p (t + 1) s := Blk.set hw1 1 _
  have hg2 := grown_trans hg1 (grown_set w1 g 1 (.int .i64 (t + 1)))
  go_wp2_with fail
  refine (skip_any g p (t + 1) s _ hw2 s0 s1).mono ?_
  rintro e w3 ⟨rfl, hg3, hw3⟩
  go_wp2
  go_ret2
  exact ⟨rfl, grown_trans hg2 hg3, hw3⟩
theorem slot_any (g : Nat) (p t s : Int) (w : World) (h : Whl w g p t s) :
    Calls Try.prog 22 #[.pointer (some ⟨g, 0, none⟩)] w fun e w' => e = .returned (.int .i64 s) ∧ w = w' := by
  have c2 : w.cell? ⟨g, 2, none⟩ = some (.int .i64 s) := (Blk.cell h 2).trans rfl
  go_enter Try.func22, Try.ntmps22
  go_wp2
  go_ret
  exact ⟨rfl, rfl⟩
theorem next_nil (w : World) : Calls Try.prog 18 #[.pointer none] w fun e w' => e = .returned (.int .i64 0) ∧ w = w' := by
  go_enter Try.func18, Try.ntmps18
  go_wp2
  go_ret
  exact ⟨rfl, rfl⟩
theorem skip_nil (w : World) : Calls Try.prog 19 #[.pointer none] w fun e w' => e = .returned (.int .i64 0) ∧ w = w' := by
  go_enter Try.func19, Try.ntmps19
  go_wp2
  go_ret
  exact ⟨rfl, rfl⟩
theorem slot_nil (w : World) : Calls Try.prog 22 #[.pointer none] w fun e w' => e = .returned (.int .i64 0) ∧ w = w' := by
  go_enter Try.func22, Try.ntmps22
  go_wp2
  go_ret
  exact ⟨rfl, rfl⟩
theorem turn_nil (w : World) : Calls Try.prog 17 #[.pointer none] w fun e w' => e = .returned (.tuple #[.int .i64 0, .int .i64 0]) ∧ w = w' := by
  go_enter Try.func17, Try.ntmps17
  go_wp2_with (first | (go_at_call 18; (with_reducible refine (next_nil _).mono ?_); rintro e w' ⟨rfl, rfl⟩) | (go_at_call 19; (with_reducible refine (skip_nil _).mono ?_); rintro e w' ⟨rfl, rfl⟩))
  go_ret2
  exact ⟨rfl, rfl⟩
end Go.Proofs.Ytagfigjcoffklaa
