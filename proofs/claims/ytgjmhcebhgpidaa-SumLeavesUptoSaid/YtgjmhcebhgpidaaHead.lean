/- The law package's head: the sum of 123456789. -/
import Derived.Test.YtgjmhcebhgpidaaSum
import Derived.Test.YtgjmhcebhgpidaaHelp
import Derived.Lib.SlBytesConst
namespace Go.Proofs.Ytgjmhcebhgpidaa
open Go.RowKit
set_option linter.unusedVariables false
set_option linter.unusedSimpArgs false
def digits9 : List UInt8 := [49, 50, 51, 52, 53, 54, 55, 56, 57]
theorem digits9_sum : Crc.more 0 digits9 = 3421780262#32 := by decide +kernel
set_option maxHeartbeats 400000 in
theorem head_any (w : World) :
    Calls Try.prog 12 #[] w fun e w' => e = .returned (.bool true) ∧ Below w.heap.size w w' := by
  have hB := (Below.refl w.heap.size w).alloc (Nat.le_refl _) (.cells #[.int .u8 49, .int .u8 50, .int .u8 51, .int .u8 52, .int .u8 53, .int .u8 54, .int .u8 55, .int .u8 56, .int .u8 57] 5 (9, 10))
  have hb : Bytes (w.alloc (.cells #[.int .u8 49, .int .u8 50, .int .u8 51, .int .u8 52, .int .u8 53, .int .u8 54, .int .u8 55, .int .u8 56, .int .u8 57] 5 (9, 10))) (some ⟨w.heap.size, 0, none⟩) 9 digits9 := by
    refine ⟨rfl, by decide, .inr ⟨w.heap.size, 0, rfl, fun j hj => ?_⟩⟩
    rw [World.cell?_alloc_mark]
    have : j = 0 ∨ j = 1 ∨ j = 2 ∨ j = 3 ∨ j = 4 ∨ j = 5 ∨ j = 6 ∨ j = 7 ∨ j = 8 := by omega
    rcases this with rfl | rfl | rfl | rfl | rfl | rfl | rfl | rfl | rfl <;> rfl
  have kc := fun (w : World) (C : Array Value) (n c : Nat) => Lib.run_convert_bytes_const (P := Try.prog) w 22 5 C n c Try.underlying22 Try.underlying5
  go_enter Try.func12, Try.ntmps12
  go_wp2_with (go_at_call 13; refine (of_any _ _ _ _ _ hb).mono ?_; rintro e w1 ⟨n, rfl, u, hb1⟩)
  go_ret
  refine ⟨?_, below_then hB hb1 (by simp)⟩
  rw [digits9_sum] at u
  unfold U at u
  subst u
  rfl
end Go.Proofs.Ytgjmhcebhgpidaa
