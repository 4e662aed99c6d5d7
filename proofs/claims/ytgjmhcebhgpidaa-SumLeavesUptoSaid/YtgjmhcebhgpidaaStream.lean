/- Package sum, walked: streams. -/
import Derived.Test.YtgjmhcebhgpidaaAdd
namespace Go.Proofs.Ytgjmhcebhgpidaa
open Go.RowKit
set_option linter.unusedVariables false
set_option linter.unusedSimpArgs false
/-- The stream's cells behind a write. -/
theorem St.after {w1 : World} {g o : Nat} {n c n' c' : Int} (h : St w1 g o n c) : St ((w1.setCell ⟨g, o, none⟩ (.int .u32 n')).setCell ⟨g, o + 1, none⟩ (.int .i64 c')) g o n' c' := by
  obtain ⟨h0, h1, f0, f1⟩ := h
  have e : (w1.setCell ⟨g, o, none⟩ (.int .u32 n')).cell? ⟨g, o + 1, none⟩ = some (.int .i64 c) := by
    rw [World.cell?_setCell_other _ _ _ _ (by simp)]; exact h1
  refine ⟨?_, World.cell?_setCell_same _ _ _ e, by simp [f0], by simp [f1]⟩
  rw [World.cell?_setCell_other _ _ _ _ (by simp)]
  exact World.cell?_setCell_same _ _ _ h0
theorem write_any (g o : Nat) (n c : Int) (s : Crc.R) (A : Option Addr) (l ca : Nat) (bs : List UInt8) (w : World) (h : St w g o n c) (u : U n s) (hb : Bytes w A l bs) (c0 : 0 ≤ c) (c1 : c ≤ 4611686018427387904) :
    Calls Try.prog 18 #[.pointer (some ⟨g, o, none⟩), .slice A l ca] w fun e w' => e = .returned (.tuple #[]) ∧
      ∃ w1 n', U n' (Crc.more s bs) ∧ Below w.heap.size w w1 ∧ w' = (w1.setCell ⟨g, o, none⟩ (.int .u32 n')).setCell ⟨g, o + 1, none⟩ (.int .i64 (c + l)) := by
  go_enter Try.func18, Try.ntmps18
  go_wp2_with (go_at_call 27; refine (add_any _ _ _ _ _ _ _ _ _ _ h u hb c0 c1).mono ?_; rintro e w' ⟨rfl, w1, n1, u1, hB, rfl⟩)
  go_end0
  exact ⟨rfl, w1, n1, u1, hB, rfl⟩
theorem write_nil (v : Value) (w : World) :
    Calls Try.prog 18 #[.pointer none, v] w fun e w' => e = .returned (.tuple #[]) ∧ w = w' := by
  go_enter Try.func18, Try.ntmps18
  go_wp2
  go_end0
  exact ⟨rfl, rfl⟩
theorem sum_any (g o : Nat) (n c : Int) (w : World) (h : St w g o n c) :
    Calls Try.prog 19 #[.pointer (some ⟨g, o, none⟩)] w fun e w' => e = .returned (.int .u32 n) ∧ w = w' := by
  have k0 := h.s
  go_enter Try.func19, Try.ntmps19
  go_wp2
  go_ret
  exact ⟨rfl, rfl⟩
theorem sum_nil (w : World) : Calls Try.prog 19 #[.pointer none] w fun e w' => e = .returned (.int .u32 0) ∧ w = w' := by
  go_enter Try.func19, Try.ntmps19
  go_wp2
  go_ret
  exact ⟨rfl, rfl⟩
theorem len_any (g o : Nat) (n c : Int) (w : World) (h : St w g o n c) :
    Calls Try.prog 20 #[.pointer (some ⟨g, o, none⟩)] w fun e w' => e = .returned (.int .i64 c) ∧ w = w' := by
  have k0 := h.c
  go_enter Try.func20, Try.ntmps20
  go_wp2
  go_ret
  exact ⟨rfl, rfl⟩
theorem len_nil (w : World) : Calls Try.prog 20 #[.pointer none] w fun e w' => e = .returned (.int .i64 0) ∧ w = w' := by
  go_enter Try.func20, Try.ntmps20
  go_wp2
  go_ret
  exact ⟨rfl, rfl⟩
theorem reset_any (g o : Nat) (n c : Int) (w : World) (h : St w g o n c) : Calls Try.prog 24 #[.pointer (some ⟨g, o, none⟩)] w fun e w' => e = .returned (.tuple #[]) ∧ w' = (w.setCell ⟨g, o, none⟩ (.int .u32 0)).setCell ⟨g, o + 1, none⟩ (.int .i64 0) := by
  have k0 := h.s
  have k1 := h.c
  have f0 := h.fs
  have f1 := h.fc
  go_enter Try.func24, Try.ntmps24
  go_wp2
  go_end0
  exact ⟨rfl, rfl⟩
theorem reset_nil (w : World) : Calls Try.prog 24 #[.pointer none] w fun e w' => e = .returned (.tuple #[]) ∧ w = w' := by
  go_enter Try.func24, Try.ntmps24
  go_wp2
  go_end0
  exact ⟨rfl, rfl⟩
end Go.Proofs.Ytgjmhcebhgpidaa
