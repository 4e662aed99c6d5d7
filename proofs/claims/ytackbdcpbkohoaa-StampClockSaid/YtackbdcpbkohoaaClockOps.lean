/- The program's clock at a clock or none: one contract for each method; three clocks in two arrays. -/
import Derived.Test.YtackbdcpbkohoaaRefClock
import Derived.Test.YtackbdcpbkohoaaGrows
namespace Go.Proofs.Ytackbdcpbkohoaa
open Go.RowKit
/-- A clock is as told, if there is one. -/
def CkOk (B : Nat) (w : World) (x : Ck) : Prop := ∀ (g : Nat) (s a : Int), x = some (g, s, a) → Clk w g s a ∧ B ≤ g ∧ GoodC s a
theorem CkOk.below {B : Nat} {w w' : World} {x : Ck} (h : CkOk B w x) (hb : Below w.heap.size w w') : CkOk B w' x :=
  fun g s a e => by obtain ⟨c, d, f⟩ := h g s a e; exact ⟨Blk.keep c hb, d, f⟩
/-- The block of a clock. -/
def ckBlk : Ck → Option Nat
  | some (g, _, _) => some g
  | none => none
/-- A clock that stands elsewhere. -/
def ckTo (s' : Int) : Ck → Ck
  | some (g, _, a) => some (g, s', a)
  | none => none
theorem ckTo_rcl (s' : Int) (x : Ck) (h : rB x = false → s' = 0) : rcl (ckTo s' x) = [.bool (rB x), .int .i64 s', .int .i64 (rW x)] := by
  rcases x with _ | ⟨g, s, a⟩
  · simp only [ckTo, rcl, rB, rS, rW, Option.isSome]
    rw [h rfl]
  · rfl
theorem ckTo_ptA (s' : Int) (x : Ck) : ptA (ckTo s' x) = ptA x := by rcases x with _ | ⟨g, s, a⟩ <;> rfl
theorem ck_bounds {B : Nat} {w : World} {x : Ck} (h : CkOk B w x) : 0 ≤ rS x ∧ rS x ≤ 4611686018427387904 ∧ 0 ≤ rW x ∧ rW x ≤ 1048576 := by
  rcases x with _ | ⟨g, s, a⟩
  · simp [rS, rW]
  · exact (h g s a rfl).2.2
theorem nowC_any {B : Nat} {x : Ck} {w : World} (h : CkOk B w x) : Calls Try.prog 18 #[.pointer (ptA x)] w fun e w' => e = .returned (.int .i64 (rS x)) ∧ w = w' := by
  rcases x with _ | ⟨g, s, a⟩
  · exact now_nil w
  · exact now_any g s a w (h g s a rfl).1
theorem wornC_any {B : Nat} {x : Ck} {w : World} (h : CkOk B w x) : Calls Try.prog 17 #[.pointer (ptA x)] w fun e w' => e = .returned (.bool (rB x && (rS x == 4611686018427387904))) ∧ w = w' := by
  rcases x with _ | ⟨g, s, a⟩
  · exact worn_nil w
  · exact (worn_any g s a w (h g s a rfl).1).mono fun _ _ ⟨h1, h2⟩ => ⟨h1, h2⟩
theorem horizonC_any {B : Nat} {x : Ck} {w : World} (h : CkOk B w x) : Calls Try.prog 19 #[.pointer (ptA x)] w fun e w' => e = .returned (.int .i64 (rS x - rW x)) ∧ ∃ m, w' = w.drewN m := by
  rcases x with _ | ⟨g, s, a⟩
  · exact (horizon_nil w).mono fun _ _ ⟨h1, h2⟩ => ⟨h1, 0, by rw [← h2]; rfl⟩
  · exact horizon_any g s a w (h g s a rfl).1 (h g s a rfl).2.2
theorem nextC_any {B : Nat} {x : Ck} {w : World} (h : CkOk B w x) : Calls Try.prog 16 #[.pointer (ptA x)] w fun e w' =>
    e = .returned (.tuple #[.int .i64 (nextN (rB x) (rS x)), .int .i64 (nextE (rB x) (rS x))]) ∧ w.grownBy w' (ckBlk x) ∧ CkOk B w' (ckTo (nextS (rB x) (rS x)) x) := by
  rcases x with _ | ⟨g, s, a⟩
  · exact (next_nil w).mono fun _ _ ⟨h1, h2⟩ => ⟨h1, h2 ▸ World.grownBy.refl _ _, fun g s a e => by simp [ckTo] at e⟩
  · obtain ⟨hc, hB, g1, g2, g3, g4⟩ := h g s a rfl
    by_cases hw : s = 4611686018427387904
    · subst hw
      refine (next_worn g a w hc).mono fun _ _ ⟨h1, h2⟩ => ⟨by rw [h1]; simp [nextN, nextE, rB, rS], h2 ▸ World.grownBy.refl _ _, ?_⟩
      subst h2
      intro g' s' a' e
      simp only [ckTo, nextS, rB, rS, Option.isSome, ne_eq, not_true_eq_false, and_false, if_false, Option.some.injEq, Prod.mk.injEq] at e
      obtain ⟨rfl, rfl, rfl⟩ := e
      exact ⟨hc, hB, g1, g2, g3, g4⟩
    · refine (next_any g s a w hc g1 (by omega)).mono fun _ _ ⟨h1, h2, h3⟩ => ⟨by rw [h1]; simp [nextN, nextE, rB, rS, hw], h2, ?_⟩
      intro g' s' a' e
      have hs : nextS (rB (some (g, s, a))) (rS (some (g, s, a))) = s + 1 := by simp [nextS, rB, rS, hw]
      rw [hs] at e
      simp only [ckTo, Option.some.injEq, Prod.mk.injEq] at e
      obtain ⟨rfl, rfl, rfl⟩ := e
      exact ⟨h3, hB, by omega, by omega, g3, g4⟩
theorem setC_any {B : Nat} {x : Ck} {w : World} (h : CkOk B w x) (v : Int) : Calls Try.prog 24 #[.pointer (ptA x), .int .i64 v] w fun e w' =>
    e = .returned (.int .i64 (setE (rB x) v)) ∧ w.grownBy w' (ckBlk x) ∧ CkOk B w' (ckTo (setS (rB x) (rS x) v) x) := by
  rcases x with _ | ⟨g, s, a⟩
  · exact (set_nil v w).mono fun _ _ ⟨h1, h2⟩ => ⟨h1, h2 ▸ World.grownBy.refl _ _, fun g s a e => by simp [ckTo] at e⟩
  · obtain ⟨hc, hB, g1, g2, g3, g4⟩ := h g s a rfl
    by_cases hv : 0 ≤ v ∧ v ≤ 4611686018427387904
    · refine (set_any g s a v w hc hv.1 hv.2).mono fun _ _ ⟨h1, h2, h3⟩ => ⟨by rw [h1]; simp [setE, rB, hv], h2, ?_⟩
      intro g' s' a' e
      have hs : setS (rB (some (g, s, a))) (rS (some (g, s, a))) v = v := by simp [setS, rB, hv]
      rw [hs] at e
      simp only [ckTo, Option.some.injEq, Prod.mk.injEq] at e
      obtain ⟨rfl, rfl, rfl⟩ := e
      exact ⟨h3, hB, hv.1, hv.2, g3, g4⟩
    · refine (set_bad g v w (by omega)).mono fun _ _ ⟨h1, h2⟩ => ⟨by rw [h1]; simp [setE, rB, hv], h2 ▸ World.grownBy.refl _ _, ?_⟩
      subst h2
      intro g' s' a' e
      have hs : setS (rB (some (g, s, a))) (rS (some (g, s, a))) v = s := by simp [setS, rB, rS, hv]
      rw [hs] at e
      simp only [ckTo, Option.some.injEq, Prod.mk.injEq] at e
      obtain ⟨rfl, rfl, rfl⟩ := e
      exact ⟨hc, hB, g1, g2, g3, g4⟩
end Go.Proofs.Ytackbdcpbkohoaa
