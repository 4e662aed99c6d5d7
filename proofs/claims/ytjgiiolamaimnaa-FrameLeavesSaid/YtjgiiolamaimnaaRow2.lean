/- The reference's row of two frames. -/
import Derived.Test.YtjgiiolamaimnaaRefF
namespace Go.Proofs.Ytjgiiolamaimnaa
open Go.RowKit
set_option linter.unusedVariables false
set_option linter.unusedSimpArgs false
/-- How long the row is behind k rounds, and what it holds. -/
def twoN (n m : Nat) : Nat → Nat
  | 0 => 0
  | 1 => n + 9
  | _ => n + 9 + (m + 9)
def twoB (a b : List UInt8) : Nat → List UInt8
  | 0 => []
  | 1 => frameB a
  | _ => frameB a ++ frameB b
set_option maxHeartbeats 800000 in
theorem refRow2_any (g : Nat) (A : Option Addr) (n c : Nat) (a : List UInt8) (B : Option Addr) (m d : Nat) (b : List UInt8) (w : World) (hL : Blk w g #[.slice A n c, .slice B m d] 22) (ha : Bytes w A n a) (hb : Bytes w B m b) (hn : n ≤ 65536) (hm : m ≤ 65536) :
    Calls Try.prog 28 #[.slice (some ⟨g, 0, none⟩) 2 2] w (NewB (fun v => v) (n + 9 + (m + 9)) (frameB a ++ frameB b) w) := by
  have hba := below_alloc w (.cells #[] 5)
  have o1 := World.ownsRow_made (e := 5) (size := 1) (base := w.heap.size) w #[] 0 (Nat.le_refl _) (by simp [maxLen]) rfl
  go_enter Try.func28, Try.ntmps28
  go_wp2
  go_loopw [3, 4] (fun v i wr => ∃ k : Nat, ∃ A1 c1, k ≤ 2 ∧ i = .int .i64 k ∧ v = .slice A1 (twoN n m k) c1 ∧ wr.ownsRow w.heap.size 5 1 (.slice A1 (twoN n m k) c1) (twoN n m k) (bvals (twoB a b k)) ∧ Below w.heap.size w wr) (fun _ i _ => 2 - (intOf i).toNat)
  case atStart => exact ⟨0, _, _, by omega, rfl, rfl, o1, hba⟩
  case round =>
    clear o1 hba
    obtain ⟨k, A1, c1, hk, rfl, rfl, ho, hB⟩ := hrel
    have hLr := hL.below hB hL.lt
    have h0 : wr.cell? ⟨g, 0, none⟩ = some (.slice A n c) := hLr.cell 0
    have h1 : wr.cell? ⟨g, 1, none⟩ = some (.slice B m d) := hLr.cell 1
    have hs := hB.size
    match k, hk, ho with
    | 0, _, ho =>
      go_wp2_with fail
      refine (refFrame_any _ _ _ _ _ (ha.below hB) hn).mono ?_
      rintro e w1 ⟨A2, c2, rfl, ho2, hb2⟩
      have hB2 := below_then hB hb2 hs
      have ho' := own_below ho hb2
      have h2 := own_bytes' ho2 (by omega)
      go_wp2_with (at_builtin; (refine wpl_append _ rfl _ _ 22 rfl w.heap.size 5 _ 1 1 Try.underlying22 info_byte rfl (by decide) (.slice A1 (twoN n m 0) c1) (twoN n m 0) _ rfl ho' A2 (n + 9) c2 _ rfl h2.rdc (bvals_one _) (by decide) (by decide) (by simp only [twoN]; omega) hB2.size ?_); intro A3 c3 w3 ho3 hg3 hne3 hnn3; clear hnn3 hne3)
      have hB3 := hB2.grown hg3 hB2.size (own_base ho')
      rw [← bvals_append] at ho3
      have e3 : twoN n m 0 + (n + 9) = twoN n m 1 := by simp [twoN]
      rw [e3] at ho3 ⊢
      go_roundw
      case rel => exact ⟨1, A3, c3, by omega, rfl, rfl, ho3, hB3⟩
      case measure => simp [intOf]
    | 1, _, ho =>
      go_wp2_with fail
      refine (refFrame_any _ _ _ _ _ (hb.below hB) hm).mono ?_
      rintro e w1 ⟨A2, c2, rfl, ho2, hb2⟩
      have hB2 := below_then hB hb2 hs
      have ho' := own_below ho hb2
      have h2 := own_bytes' ho2 (by omega)
      go_wp2_with (at_builtin; (refine wpl_append _ rfl _ _ 22 rfl w.heap.size 5 _ 1 1 Try.underlying22 info_byte rfl (by decide) (.slice A1 (twoN n m 1) c1) (twoN n m 1) _ rfl ho' A2 (m + 9) c2 _ rfl h2.rdc (bvals_one _) (by decide) (by decide) (by simp only [twoN]; omega) hB2.size ?_); intro A3 c3 w3 ho3 hg3 hne3 hnn3; clear hnn3 hne3)
      have hB3 := hB2.grown hg3 hB2.size (own_base ho')
      rw [← bvals_append] at ho3
      have e3 : twoN n m 1 + (m + 9) = twoN n m 2 := by simp [twoN]
      rw [e3] at ho3 ⊢
      go_roundw
      case rel => exact ⟨2, A3, c3, by omega, rfl, rfl, ho3, hB3⟩
      case measure => simp [intOf]
    | 2, _, ho =>
      go_wp2
      go_ret
      exact ⟨A1, c1, rfl, ho, hB⟩
end Go.Proofs.Ytjgiiolamaimnaa
