/- The law SumMore, walked. -/
import Derived.Test.YtgjmhcebhgpidaaHead
namespace Go.Proofs.Ytgjmhcebhgpidaa
open Go.RowKit
set_option maxHeartbeats 400000 in
theorem sumMore_any (n : Int) (A : Option Addr) (l c : Nat) (bs : List UInt8) (w : World) (hb : Bytes w A l bs) (hl : l ≤ 140737488355328) (hn0 : 0 ≤ n) (hn1 : n ≤ 4294967295) :
    Calls Try.prog 4 #[.int .u32 n, .slice A l c] w fun e w' => e = .returned (.bool true) ∧ Below w.heap.size w w' := by
  obtain ⟨s, u⟩ : ∃ s, U n s := ⟨BitVec.ofNat 32 n.toNat, by unfold U; rw [BitVec.toNat_ofNat]; omega⟩
  go_enter Try.func4, Try.ntmps4
  go_wp2_with fail
  refine (copied_any _ _ _ _ _ hb hl).mono ?_
  rintro e w1 ⟨A1, c1, rfl, ho1, hB1, -⟩
  have hb1 := own_bytes' ho1 (by omega)
  go_wp2_with fail
  refine (refMore_any _ _ _ _ _ _ _ u hb1).mono ?_
  rintro e w1' ⟨n1, rfl, u1, rfl⟩
  go_wp2_with fail
  refine (head_any _).mono ?_
  rintro e w2 ⟨rfl, hB2⟩
  have hB12 := below_then hB1 hB2 hB1.size
  have hb2 := hb.below hB12
  go_wp2_with fail
  refine (copied_any _ _ _ _ _ hb2 hl).mono ?_
  rintro e w3 ⟨A3, c3, rfl, ho3, hB3, -⟩
  have hB13 := below_then hB12 hB3 hB12.size
  have hb3 := own_bytes' ho3 (by omega)
  go_wp2_with fail
  refine (more_any _ _ _ _ _ _ _ u hb3).mono ?_
  rintro e w4 ⟨n4, rfl, u4, hB4⟩
  have hB14 := below_then hB13 hB4 hB13.size
  obtain rfl : n4 = n1 := u4.trans u1.symm
  go_wp2
  go_ret
  exact ⟨by simp, hB14⟩
end Go.Proofs.Ytgjmhcebhgpidaa
