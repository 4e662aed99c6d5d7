/- Package disk, walked: find. -/
import Derived.Test.YtodaplkijdjbpaaDisk
namespace Go.Proofs.Ytodaplkijdjbpaa
open Go.RowKit
set_option linter.unusedVariables false
set_option linter.unusedSimpArgs false
theorem find_nil (i : Value) (w : World) :
    Calls Try.prog 51 #[.pointer none, i] w fun e w' => e = .returned (.tuple #[.pointer none, .int .i64 1]) ∧ w = w' := by
  go_enter Try.func51, Try.ntmps51
  go_wp2
  go_ret2
  exact ⟨rfl, rfl⟩
section
variable {w : World} {G pb K : Nat} {ls : Nat → Loc} {P : Pd}
theorem find_bad (h : DAt w G pb ls P K) (i : Int) (hi : i < 0 ∨ (P.n : Int) ≤ i) :
    Calls Try.prog 51 #[.pointer (some ⟨G, 0, none⟩), .int .i64 i] w fun e w' => e = .returned (.tuple #[.pointer none, .int .i64 81]) ∧ w = w' := by
  have c0 : w.cell? ⟨G, 0, none⟩ = _ := h.hd.cell 0
  simp at c0
  by_cases t1 : i < 0
  · have d1 : decide (i < 0) = true := decide_eq_true t1
    go_enter Try.func51, Try.ntmps51
    go_wp2_with fail
    go_ret2
    exact ⟨rfl, rfl⟩
  · have d1 : decide (i < 0) = false := decide_eq_false t1
    have d2 : decide ((P.n : Int) ≤ i) = true := decide_eq_true (by omega)
    go_enter Try.func51, Try.ntmps51
    go_wp2_with fail
    go_ret2
    exact ⟨rfl, rfl⟩
theorem find_ok (h : DAt w G pb ls P K) (j : Nat) (hj : j < P.n) :
    Calls Try.prog 51 #[.pointer (some ⟨G, 0, none⟩), .int .i64 (j : Int)] w fun e w' => e = .returned (.tuple #[.pointer (some ⟨pb, j * 5, none⟩), .int .i64 0]) ∧ w = w' := by
  have c0 : w.cell? ⟨G, 0, none⟩ = _ := h.hd.cell 0
  simp at c0
  have hn := h.lim.n1
  have t1 : decide ((j : Int) < 0) = false := decide_eq_false (by omega)
  have t2 : decide ((P.n : Int) ≤ (j : Int)) = false := decide_eq_false (by omega)
  have j0 : (0 : Int) ≤ (j : Int) := by omega
  have j1 : (j : Int) < (P.n : Int) := by omega
  go_enter Try.func51, Try.ntmps51
  go_wp2_with fail
  go_ret2
  exact ⟨rfl, rfl⟩
end
end Go.Proofs.Ytodaplkijdjbpaa
