/- The law package's comparison of lists of numbers. -/
import Derived.Test.YtagfigjcoffklaaProg
import Derived.Test.YtagfigjcoffklaaInts
import Derived.Deep.QuietTactic
import Derived.BigQuiet
namespace Go.Proofs.Ytagfigjcoffklaa
open Go.RowKit
set_option maxHeartbeats 400000 in
theorem same_any (A B : Option Addr) (la ca lb cb : Nat) (ys zs : List Int) (w : World) (hy : Ints w A la ys) (hz : Ints w B lb zs) :
    Calls Try.prog 15 #[.slice A la ca, .slice B lb cb] w (SameRet (decide (ys = zs)) w) := by
  have hya := Lib.hid hy.1
  have hza := Lib.hid hz.1
  have hl1 := hy.2.1
  by_cases hlen : la = lb
  · subst hlen
    go_enter Try.func15, Try.ntmps15
    go_wp2
    go_loopw [5] (fun i wr => ∃ k : Nat, k ≤ la ∧ i = .int .i64 k ∧ Below w.heap.size w wr ∧ ∀ j, j < k → ys.getD j 0 = zs.getD j 0) (fun i _ => la - (intOf i).toNat)
    case atStart => exact ⟨0, by omega, rfl, Below.refl _ _, fun j hj => by omega⟩
    case round =>
      obtain ⟨k, hk, rfl, hB, hall⟩ := hrel
      have HA := Lib.hid hall
      clear hall
      by_cases hlt : k < la
      · obtain ⟨b1, o1, rfl, h1⟩ := (hy.below hB).at_ k hlt
        obtain ⟨b2, o2, rfl, h2⟩ := (hz.below hB).at_ k hlt
        by_cases heq : ys.getD k 0 = zs.getD k 0
        · rw [← heq] at h2
          have HE := Lib.hid heq
          clear heq
          generalize hyy : ys.getD k 0 = y at h1 h2
          clear hyy
          have i0 : (0 : Int) ≤ (k : Int) := by omega
          have i1 : (k : Int) < (la : Int) := by omega
          go_wp2_with fail
          go_quiet (fail)
          go_wp2
          go_roundw
          case rel => exact ⟨k + 1, by omega, by go_num, hB.trans ((below_drews _ _).mono hB.size), fun j hj => by
            by_cases e : j = k
            · subst e; exact HE.out
            · exact HA.out j (by omega)⟩
          case measure => simp [intOf]; omega
        · have HE := Lib.hid (show ys ≠ zs from fun h => heq (by rw [h]))
          have hne : (ys.getD k 0 != zs.getD k 0) = true := by rw [bne_iff_ne]; exact heq
          clear heq
          generalize ys.getD k 0 = y at *
          generalize zs.getD k 0 = z at *
          have i0 : (0 : Int) ≤ (k : Int) := by omega
          have i1 : (k : Int) < (la : Int) := by omega
          go_wp2_with fail
          go_quiet (fail)
          go_wp2
          go_ret
          exact ⟨by simp [HE.out], hB.trans ((below_drews _ _).mono hB.size)⟩
      · obtain rfl : k = la := by omega
        go_wp2
        go_ret
        refine ⟨?_, hB⟩
        have : ys = zs := (list_eq_iff ys zs (hya.out.trans hza.out.symm)).2 (by rw [hya.out]; exact HA.out)
        simp [this]
  · have hne : ((la : Int) != (lb : Int)) = true := by rw [bne_iff_ne]; omega
    go_enter Try.func15, Try.ntmps15
    go_wp2
    go_ret
    refine ⟨?_, Below.refl _ _⟩
    have : ys ≠ zs := by rintro rfl; exact hlen (hya.out.symm.trans hza.out)
    simp [this]
end Go.Proofs.Ytagfigjcoffklaa
