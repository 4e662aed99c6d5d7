/- How a clock is made: what the argument reads as. -/
import Derived.Test.YtackbdcpbkohoaaRec1
import Derived.Test.YtackbdcpbkohoaaProg
namespace Go.Proofs.Ytackbdcpbkohoaa
open Go.RowKit
/-- The cells of a Start. -/
def IsStart (_ : World) (cs : List Value) (x : Int × Int) : Prop := cs = [.int .i64 x.1, .int .i64 x.2]
theorem opn_start (W : World) : Opn Try.prog W 28 (fun cs => ∃ x, IsStart W cs x) := by
  refine (opn_struct_list Try.underlying28 [(3, 0, 1), (3, 1, 1)] (by kernel_rfl) (N := 2) (by kernel_rfl) (fun _ cs => IntOf .i64 cs) ?_).imp ?_
  · intro x hx
    simp only [List.mem_cons, List.not_mem_nil, or_false] at hx
    rcases hx with rfl | rfl
    · exact opn_int Try.underlying3
    · exact opn_int Try.underlying3
  · rintro cs ⟨hl, hall⟩
    match cs, hl with
    | [v0, v1], _ =>
      have g0 : IntOf .i64 [v0] := hall (3, 0, 1) (by simp)
      have g1 : IntOf .i64 [v1] := hall (3, 1, 1) (by simp)
      obtain ⟨n0, p0, w0⟩ := g0
      obtain ⟨n1, p1, w1⟩ := g1
      simp only [List.cons.injEq, and_true] at p0 p1
      subst p0 p1
      exact ⟨(n0, n1), rfl⟩
theorem start_agg {W : World} {cs : Array Value} {x : Int × Int} (h : IsStart W cs.toList x) : cs = #[.int .i64 x.1, .int .i64 x.2] := by
  cases cs
  simp only [IsStart] at h
  simp [h]
end Go.Proofs.Ytackbdcpbkohoaa
