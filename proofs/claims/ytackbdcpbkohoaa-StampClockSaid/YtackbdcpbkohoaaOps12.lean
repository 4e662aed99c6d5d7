/- A call of a clock: what the argument reads as. -/
import Derived.Test.YtackbdcpbkohoaaRec1
import Derived.Test.YtackbdcpbkohoaaProg
namespace Go.Proofs.Ytackbdcpbkohoaa
open Go.RowKit
/-- One call: its kind, whose, and two numbers. -/
structure Op4 where
  kind : Int
  who : Int
  a : Int
  b : Int
def IsOp4 (_ : World) (cs : List Value) (x : Op4) : Prop := cs = [.int .i64 x.kind, .int .i64 x.who, .int .i64 x.a, .int .i64 x.b]
theorem opn_op4 (W : World) : Opn Try.prog W 43 (fun cs => ∃ x, IsOp4 W cs x) := by
  refine (opn_struct_list Try.underlying43 [(3, 0, 1), (3, 1, 1), (3, 2, 1), (3, 3, 1)] (by kernel_rfl) (N := 4) (by kernel_rfl) (fun _ cs => IntOf .i64 cs) ?_).imp ?_
  · intro x hx
    simp only [List.mem_cons, List.not_mem_nil, or_false] at hx
    rcases hx with rfl | rfl | rfl | rfl <;> exact opn_int Try.underlying3
  · rintro cs ⟨hl, hall⟩
    match cs, hl with
    | [v0, v1, v2, v3], _ =>
      have g0 : IntOf .i64 [v0] := hall (3, 0, 1) (by simp)
      have g1 : IntOf .i64 [v1] := hall (3, 1, 1) (by simp)
      have g2 : IntOf .i64 [v2] := hall (3, 2, 1) (by simp)
      have g3 : IntOf .i64 [v3] := hall (3, 3, 1) (by simp)
      obtain ⟨n0, p0, w0⟩ := g0
      obtain ⟨n1, p1, w1⟩ := g1
      obtain ⟨n2, p2, w2⟩ := g2
      obtain ⟨n3, p3, w3⟩ := g3
      simp only [List.cons.injEq, and_true] at p0 p1 p2 p3
      subst p0 p1 p2 p3
      exact ⟨⟨n0, n1, n2, n3⟩, rfl⟩
end Go.Proofs.Ytackbdcpbkohoaa
