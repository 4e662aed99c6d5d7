/- Package sum, walked: what a stream's state comes to when bytes are added. -/
import Derived.Test.YtgjmhcebhgpidaaSum
import Derived.Deep.RegionWith
namespace Go.Proofs.Ytgjmhcebhgpidaa
open Go.RowKit
set_option linter.unusedVariables false
set_option linter.unusedSimpArgs false
/-- Two cells of a stream, not frozen. -/
structure St (w : World) (g o : Nat) (n c : Int) : Prop where
  s : w.cell? ⟨g, o, none⟩ = some (.int .u32 n)
  c : w.cell? ⟨g, o + 1, none⟩ = some (.int .i64 c)
  fs : w.frozen? ⟨g, o, none⟩ = false
  fc : w.frozen? ⟨g, o + 1, none⟩ = false
theorem St.lt {w : World} {g o : Nat} {n c : Int} (h : St w g o n c) : g < w.heap.size := block_lt_of_cell h.s
theorem St.below {w w1 : World} {g o : Nat} {n c : Int} {B : Nat} (h : St w g o n c) (hb : Below B w w1) (hg : g < B) : St w1 g o n c :=
  ⟨(hb.cell (p := ⟨g, o, none⟩) hg).trans h.s, (hb.cell (p := ⟨g, o + 1, none⟩) hg).trans h.c, (hb.frozen (p := ⟨g, o, none⟩) hg).trans h.fs, (hb.frozen (p := ⟨g, o + 1, none⟩) hg).trans h.fc⟩
set_option maxHeartbeats 800000 in
theorem add_any (g o : Nat) (n c : Int) (s : Crc.R) (A : Option Addr) (l ca : Nat) (bs : List UInt8) (w : World) (h : St w g o n c) (u : U n s) (hb : Bytes w A l bs) (c0 : 0 ≤ c) (c1 : c ≤ 4611686018427387904) :
    Calls Try.prog 27 #[.pointer (some ⟨g, o, none⟩), .slice A l ca] w fun e w' => e = .returned (.tuple #[]) ∧
      ∃ w1 n', U n' (Crc.more s bs) ∧ Below w.heap.size w w1 ∧ w' = (w1.setCell ⟨g, o, none⟩ (.int .u32 n')).setCell ⟨g, o + 1, none⟩ (.int .i64 (c + l)) := by
  have hl := hb.2.1
  have hg := h.lt
  have k0 := h.s
  have k1 := h.c
  have f0 := h.fs
  have f1 := h.fc
  have u0 := u.lo
  have uh := u.hi
  go_enter Try.func27, Try.ntmps27
  go_wp2_with fail
  go_region_with ((go_at_call 15; refine (more_any _ _ _ _ _ _ _ u (hb.below (Below.refl _ _).drew)).mono ?_; rintro e w1 ⟨n1, rfl, u1, hB⟩; have hs := (h.below (Below.refl _ _).drew hg).below hB hg; have q0 := hs.s; have q1 := hs.c; have r0 := hs.fs; have r1 := hs.fc))
  all_goals
    rw [IntWalk.i64_in (c + (l : Int)) (by omega)]
    go_end0
    exact ⟨rfl, w1, n1, u1, (Below.refl _ _).drew.trans hB, rfl⟩
end Go.Proofs.Ytgjmhcebhgpidaa
