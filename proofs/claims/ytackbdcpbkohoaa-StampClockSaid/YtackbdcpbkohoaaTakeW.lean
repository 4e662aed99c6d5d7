/- The law StampTake, walked. -/
import Derived.Test.YtackbdcpbkohoaaRefTake
namespace Go.Proofs.Ytackbdcpbkohoaa
open Go.RowKit
set_option maxHeartbeats 1600000 in
theorem stampTake_any (A : Option Addr) (n c : Nat) (ss : List (Int × Int)) (P : Option Addr) (m pc : Nat) (ps : List Int) (w : World) (h : RecS IsStart w 2 A n ss) (hn : n * 16 ≤ 140737488351232) (hp : Ints w P m ps) (hm : m * 8 ≤ 140737488355328) :
    Calls Try.prog 7 #[.slice A n c, .slice P m pc] w fun e w' => e = .returned (.bool true) ∧ Below w.heap.size w w' := by
  go_enter Try.func7, Try.ntmps7
  go_wp2_with fail
  refine (clocks_any _ _ _ ss _ h hn).mono ?_
  rintro e w1 ⟨A1, c1, A2, c2, xs, rfl, hC, hB1⟩
  go_wp2_with fail
  refine (head_any _).mono ?_
  rintro e w2 ⟨rfl, hB2⟩
  have hC2 := hC.below hB2
  have hB2' := below_then hB1 hB2 hB1.size
  go_wp2_with fail
  refine (copied_any _ _ _ ps _ (hp.below hB2') hm).mono ?_
  rintro e w3 ⟨A3, c3, rfl, ho3, hB3, -⟩
  have hC3 := hC2.below hB3
  have hB3' := below_then hB2' hB3 hB2'.size
  go_wp2_with fail
  refine (take_any _ _ _ xs _ _ _ ps _ _ _ hC3.m hC3.len hC3.clk (own_ints ho3 (by omega)) (by omega)).mono ?_
  rintro e w4 ⟨A4, c4, rfl, ho4, hB4⟩
  have hC4 := hC3.below hB4
  have hB4' := below_then hB3' hB4 hB3'.size
  go_wp2_with fail
  refine (refTake_any _ _ _ xs _ _ _ ps _ _ hC4.k hC4.len (hp.below hB4') (by omega)).mono ?_
  rintro e w5 ⟨A5, c5, rfl, ho5, hB5⟩
  have hB5' := below_then hB4' hB5 hB4'.size
  go_wp2_with fail
  refine (same_any _ _ _ _ _ _ _ _ _ (own_ints (own_below ho4 hB5) (by omega)) (own_ints ho5 (by omega))).mono ?_
  rintro e w6 ⟨rfl, hB6⟩
  go_wp2
  go_ret
  exact ⟨by simp, below_then hB5' hB6 hB5'.size⟩
end Go.Proofs.Ytackbdcpbkohoaa
