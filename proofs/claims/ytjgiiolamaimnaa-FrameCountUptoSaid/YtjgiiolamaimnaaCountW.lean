/- FrameCount, walked: where the bytes are few. -/
import Derived.Test.YtjgiiolamaimnaaRefAll
import Derived.Test.YtjgiiolamaimnaaCountF
import Derived.Test.YtjgiiolamaimnaaHead
namespace Go.Proofs.Ytjgiiolamaimnaa
open Go.RowKit
set_option linter.unusedVariables false
set_option linter.unusedSimpArgs false
set_option maxRecDepth 100000 in
set_option maxHeartbeats 1600000 in
theorem frameCount_any (A : Option Addr) (n c : Nat) (b : List UInt8) (w : World) (hb : Bytes w A n b) (hn : n ≤ 1099511627776) :
    Calls Try.prog 12 #[.slice A n c] w fun e w' => e = .returned (.bool true) ∧ Below w.heap.size w w' := by
  have hlen := hb.1
  have hNN := (allF_spec b _ (Nat.le_refl _))
  have hN0 : (allF b).length ≤ n := by omega
  have HL := Lib.hid hN0
  clear hNN hN0 hlen
  go_enter Try.func12, Try.ntmps12
  go_wp2_with fail
  refine (copied_any _ _ _ _ _ hb (by omega)).mono ?_
  rintro e w1 ⟨A1, c1, rfl, ho1, hb1, -⟩
  go_wp2_with fail
  refine (refAll_any _ _ _ _ _ (own_bytes' ho1 (by omega)) (own_cap4 ho1) hn).mono ?_
  rintro e w2 ⟨A2, c2, xs, rfl, hT, hb2⟩
  have hb2' := below_then hb1 hb2 hb1.size
  have hbw := hb.below hb2'
  clear ho1
  obtain ⟨N, hN⟩ : ∃ N, (allF b).length = N := ⟨_, rfl⟩
  rw [hN] at hT ⊢
  have hNn : N ≤ n := by rw [← hN]; exact HL.out
  have HN := Lib.hid hN
  clear hN HL
  by_cases h0 : N = 0
  · subst h0
    go_wp2_with fail
    refine (copied_any _ _ _ _ _ hbw (by omega)).mono ?_
    rintro e w3 ⟨A3, c3, rfl, ho3, hb3, -⟩
    have hb3' := below_then hb2' hb3 hb2'.size
    go_wp2_with fail
    refine (fcount_any _ _ _ _ _ (own_bytes' ho3 (by omega)) (by omega)).mono ?_
    rintro e w4 ⟨rfl, hb4⟩
    have hb4' := below_then hb3' hb4 hb3'.size
    rw [HN.out]
    simp only [posL]
    go_wp2_with fail
    refine (head_any _).mono ?_
    rintro e w5 ⟨rfl, hb5⟩
    go_wp2_with fail
    go_ret
    exact ⟨rfl, below_then hb4' hb5 hb4'.size⟩
  · obtain ⟨g, rfl, hg, hc2, e1, -⟩ := hT.at_ (j := N - 1) (by omega)
    rw [Nat.sub_add_cancel (by omega)] at e1
    obtain ⟨M, rfl⟩ : ∃ M, N = M + 1 := ⟨N - 1, by omega⟩
    simp only [Nat.add_sub_cancel] at e1
    generalize hP : posL 0 (allF b) (M + 1) = P at *
    have HP := Lib.hid hP
    clear hP hT h0
    go_wp2_with fail
    refine (copied_any _ _ _ _ _ hbw (by omega)).mono ?_
    rintro e w3 ⟨A3, c3, rfl, ho3, hb3, -⟩
    have hb3' := below_then hb2' hb3 hb2'.size
    go_wp2_with fail
    refine (fcount_any _ _ _ _ _ (own_bytes' ho3 (by omega)) (by omega)).mono ?_
    rintro e w4 ⟨rfl, hb4⟩
    have hb4' := below_then hb3' hb4 hb3'.size
    rw [HN.out, HP.out]
    go_wp2_with fail
    refine (head_any _).mono ?_
    rintro e w5 ⟨rfl, hb5⟩
    go_wp2_with fail
    go_ret
    exact ⟨by simp, below_then hb4' hb5 hb4'.size⟩
end Go.Proofs.Ytjgiiolamaimnaa
