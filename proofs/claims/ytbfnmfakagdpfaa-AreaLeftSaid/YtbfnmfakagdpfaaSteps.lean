/- What a script of steps reads as; vast. -/
import Derived.Test.YtbfnmfakagdpfaaRec1
import Derived.Test.YtbfnmfakagdpfaaProg
import Derived.Test.YtbfnmfakagdpfaaBlk
import Derived.Test.YtbfnmfakagdpfaaArea
namespace Go.Proofs.Ytbfnmfakagdpfaa
open Go.RowKit
set_option linter.unusedVariables false
set_option linter.unusedSimpArgs false
/-- One step. -/
structure StepR where
  kind : Int
  a : Int
  b : Int
  d : List UInt8
/-- Its cells. -/
def IsStep (W : World) (cs : List Value) (x : StepR) : Prop :=
  ∃ A l c, cs = [.int .i64 x.kind, .int .i64 x.a, .int .i64 x.b, .slice A l c] ∧ l ≤ c ∧ c ≤ 140737488351232 ∧ Bytes W A l x.d ∧ -9223372036854775808 ≤ x.kind ∧ x.kind ≤ 9223372036854775807 ∧ -9223372036854775808 ≤ x.a ∧ x.a ≤ 9223372036854775807 ∧ -9223372036854775808 ≤ x.b ∧ x.b ≤ 9223372036854775807
theorem IsStep.chg {F : Nat → Prop} {w w1 : World} {cs : List Value} {x : StepR} (h : IsStep w cs x) (hc : Chg F w w1) (hF : ∀ A l c, cs[3]? = some (.slice A l c) → ∀ k, blkO A = some k → ¬ F k) : IsStep w1 cs x := by
  obtain ⟨A, l, c, h1, h2, h3, h4, h5⟩ := h
  exact ⟨A, l, c, h1, h2, h3, h4.chg hc (hF A l c (by rw [h1]; rfl)), h5⟩
theorem IsStep.below {w w1 : World} (hb : Below w.heap.size w w1) (cs : List Value) (x : StepR) (h : IsStep w cs x) : IsStep w1 cs x := by
  obtain ⟨A, l, c, h1, h2, h3, h4, h5⟩ := h
  exact ⟨A, l, c, h1, h2, h3, h4.below hb, h5⟩
def stepFields (W : World) (t : TypeId) (cs : List Value) : Prop := if t = 23 then BytesOf W cs else IntOf .i64 cs
theorem opn_step (W : World) : Opn Try.prog W 25 (fun cs => ∃ x, IsStep W cs x) := by
  refine (opn_struct_list Try.underlying25 [(3, 0, 1), (3, 1, 1), (3, 2, 1), (23, 3, 1)] (by kernel_rfl) (N := 4) (by kernel_rfl) (stepFields W) ?_).imp ?_
  · intro x hx
    simp only [List.mem_cons, List.not_mem_nil, or_false] at hx
    rcases hx with rfl | rfl | rfl | rfl
    · exact opn_int Try.underlying3
    · exact opn_int Try.underlying3
    · exact opn_int Try.underlying3
    · exact opn_bytes Try.underlying23 Try.underlying5 (by kernel_rfl) (by kernel_rfl)
  · rintro cs ⟨hl, hall⟩
    match cs, hl with
    | [v0, v1, v2, v3], _ =>
      have g0 : IntOf .i64 [v0] := hall (3, 0, 1) (by simp)
      have g1 : IntOf .i64 [v1] := hall (3, 1, 1) (by simp)
      have g2 : IntOf .i64 [v2] := hall (3, 2, 1) (by simp)
      have g3 : BytesOf W [v3] := hall (23, 3, 1) (by simp)
      obtain ⟨n0, p0, w0⟩ := g0
      obtain ⟨n1, p1, w1⟩ := g1
      obtain ⟨n2, p2, w2⟩ := g2
      obtain ⟨A, l, c, bs, p3, q1, q2, q3⟩ := g3
      simp only [List.cons.injEq, and_true] at p0 p1 p2 p3
      subst p0 p1 p2 p3
      have b0 := bounds_i64 w0
      have b1 := bounds_i64 w1
      have b2 := bounds_i64 w2
      exact ⟨⟨n0, n1, n2, bs⟩, A, l, c, rfl, q1, q2, q3, b0.1, b0.2, b1.1, b1.2, b2.1, b2.2⟩
theorem step_agg {W : World} {cs : Array Value} {x : StepR} (h : IsStep W cs.toList x) : ∃ A l c, cs = #[.int .i64 x.kind, .int .i64 x.a, .int .i64 x.b, .slice A l c] ∧ Bytes W A l x.d ∧ l ≤ 140737488351232 := by
  obtain ⟨A, l, c, h1, h2, h3, h4, h5⟩ := h
  refine ⟨A, l, c, ?_, h4, by omega⟩
  cases cs
  simpa using h1
/-- How much the first k steps come to, each counted as one more. -/
def wrN (ops : List StepR) (k : Nat) : Nat := ((ops.take k).map fun o => o.d.length + 1).sum
theorem wrN_zero (ops : List StepR) : wrN ops 0 = 0 := rfl
theorem wrN_succ (ops : List StepR) (k : Nat) (x : StepR) (h : ops[k]? = some x) : wrN ops (k + 1) = wrN ops k + (x.d.length + 1) := by
  obtain ⟨hk, rfl⟩ := List.getElem?_eq_some_iff.1 h
  unfold wrN
  rw [List.take_succ_eq_append_getElem hk, List.map_append, List.sum_append]
  rfl
theorem wrN_mono (ops : List StepR) (k n : Nat) (hk : k ≤ n) (hn : n ≤ ops.length) : wrN ops k ≤ wrN ops n := by
  induction n with
  | zero => obtain rfl : k = 0 := by omega
            exact Nat.le_refl _
  | succ n ih =>
    by_cases e : k = n + 1
    · subst e; exact Nat.le_refl _
    · rw [wrN_succ ops n _ (List.getElem?_eq_getElem (by omega))]
      have := ih (by omega) (by omega)
      omega
end Go.Proofs.Ytbfnmfakagdpfaa
