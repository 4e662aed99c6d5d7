/- Whole: all that an area holds, read out. -/
import Derived.Test.YtbfnmfakagdpfaaAwake
namespace Go.Proofs.Ytbfnmfakagdpfaa
open Go.RowKit
set_option linter.unusedVariables false
set_option linter.unusedSimpArgs false
/-- What whole returns. -/
def WholeRet (base : Int) (bs : List UInt8) (w : World) (e : Ending) (w' : World) : Prop :=
  ∃ A' c', e = .returned (.tuple #[.slice A' bs.length c', .int .i64 base, .bool true]) ∧ w'.ownsRow w.heap.size 5 1 (.slice A' bs.length c') bs.length (bvals bs) ∧ Below w.heap.size w w'
set_option maxHeartbeats 1600000 in
theorem whole_any {g : Nat} {A : Option Addr} {c : Nat} {base : Int} {bs : List UInt8} {s : Nat} {w : World} (h : Ar w g A c base bs s) :
    Calls Try.prog 24 #[.pointer (some ⟨g, 0, none⟩)] w (WholeRet base bs w) := by
  have b0 := h.b0
  have b1 := h.b1
  have n1 := h.n1
  go_enter Try.func24, Try.ntmps24
  go_wp2_with fail
  refine (areaBounds_any h).mono ?_
  rintro e w1 ⟨rfl, m, rfl⟩
  have hb1 := below_drew7 w m
  have h1 := h.below hb1
  have e1 : base + (bs.length : Int) - base = (bs.length : Int) := by omega
  have e2 : IntKind.i64.wrap (base + (bs.length : Int) - base) = (bs.length : Int) := by rw [e1]; exact IntWalk.i64_in _ (by omega)
  go_wp2_with fail
  refine (areaRead_at h1 _ _ 0 bs.length (by simp) rfl (by omega)).mono ?_
  rintro e w2 ⟨A', c', rfl, ho, hb2⟩
  have hb := below_then hb1 hb2 hb1.size
  rw [List.drop_zero, List.take_length] at ho
  go_wp2_with fail
  go_ret3
  exact ⟨A', c', by simp, ho, hb⟩
end Go.Proofs.Ytbfnmfakagdpfaa
