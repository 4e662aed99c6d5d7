/- AreaNone at a step that reads so. -/
import Derived.Test.YtbfnmfakagdpfaaNil
import Derived.Test.YtbfnmfakagdpfaaSteps
namespace Go.Proofs.Ytbfnmfakagdpfaa
open Go.RowKit
theorem none_any {W0 : World} {cs : Array Value} (h : ∃ x, IsStep W0 cs.toList x) (w : World) : Calls Try.prog 4 #[.agg cs] w fun e w' => e = .returned (.bool true) ∧ Below w.heap.size w w' := by
  obtain ⟨x, hx⟩ := h
  obtain ⟨A, l, c, rfl, _⟩ := step_agg hx
  exact areaNone_any _ _ _ _ w
end Go.Proofs.Ytbfnmfakagdpfaa
