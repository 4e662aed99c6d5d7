/- The law DiskNames, walked. -/
import Derived.Test.YtodaplkijdjbpaaProg
import Derived.WalkKit
import Derived.KernelRfl
namespace Go.Proofs.Ytodaplkijdjbpaa
open Go.RowKit
theorem diskNames_any (w : World) :
    Calls Try.prog 3 #[] w fun e w' => e = .returned (.bool true) ∧ Below w.heap.size w w' := by
  go_enter Try.func3, Try.ntmps3
  go_wp2
  go_ret
  exact ⟨rfl, Below.refl _ _⟩
end Go.Proofs.Ytodaplkijdjbpaa
