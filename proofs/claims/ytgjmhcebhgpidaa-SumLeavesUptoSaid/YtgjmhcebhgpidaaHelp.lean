/- The law package's helpers over bytes: copied, same. -/
import Derived.Test.YtgjmhcebhgpidaaProg
import Derived.Test.YtgjmhcebhgpidaaWords
namespace Go.Proofs.Ytgjmhcebhgpidaa
open Go.RowKit
set_option linter.unusedVariables false
set_option linter.unusedSimpArgs false
theorem info_byte : (Try.prog.info? 5).map (fun i => (i.zero, i.size, i.bytes)) = some (some (.int .u8 0), 1, 1) := by kernel_rfl
set_option maxHeartbeats 400000 in
theorem copied_any (A : Option Addr) (l c : Nat) (bs : List UInt8) (w : World) (hb : Bytes w A l bs) (hl : l ≤ 140737488355328) :
    Calls Try.prog 11 #[.slice A l c] w fun e w' => ∃ A' c', e = .returned (.slice A' l c') ∧ w'.ownsRow w.heap.size 5 1 (.slice A' l c') l (bvals bs) ∧ Below w.heap.size w w' ∧ A' ≠ none := by
  go_enter Try.func11, Try.ntmps11
  have H0 := World.ownsRow_made (e := 5) (size := 1) w #[] 0 (Nat.le_refl _) (by simp [maxLen]) rfl
  have hR := (hb.below ((Below.refl _ w).alloc (Nat.le_refl _) (.cells #[] 5))).rdc
  go_wp2_with (at_builtin; refine wpl_append _ rfl (.tmp 3) (.tmp 4) 22 rfl w.heap.size 5 _ 1 1 Try.underlying22 info_byte rfl (by decide) (.slice (some ⟨w.heap.size, 0, none⟩) 0 0) 0 [] rfl H0 A l c (bvals bs) rfl hR (bvals_one bs) (by decide) (by decide) (by omega) (by simp) ?_; intro A' c' w' hown hgr hne hnn; simp only [Nat.zero_add, List.nil_append] at hown ⊢; have hA := hnn (.inr (by simp)); clear hnn hne)
  go_ret
  exact ⟨A', c', rfl, hown, ((Below.refl _ w).alloc (Nat.le_refl _) _).grown hgr (by simp) (fun k h => by simp [Value.ownBlock] at h; omega), hA⟩
theorem same_any (A1 A2 : Option Addr) (l1 c1 l2 c2 : Nat) (b1 b2 : List UInt8) (w : World) (ha : Bytes w A1 l1 b1) (hb : Bytes w A2 l2 b2) :
    Calls Try.prog 22 #[.slice A1 l1 c1, .slice A2 l2 c2] w fun e w' => e = .returned (.bool (b1 == b2)) ∧ w = w' := by
  have r1 := run_bytes_string ha c1 22 5 9 Try.underlying22 Try.underlying5 Try.underlying9
  have r2 := run_bytes_string hb c2 22 5 9 Try.underlying22 Try.underlying5 Try.underlying9
  go_enter Try.func22, Try.ntmps22
  go_wp2
  go_ret
  refine ⟨?_, rfl⟩
  show Ending.returned (.bool _) = _
  rw [strB_toList, strB_toList]
end Go.Proofs.Ytgjmhcebhgpidaa
