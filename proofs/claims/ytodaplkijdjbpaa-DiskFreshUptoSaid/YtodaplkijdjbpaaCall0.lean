/- The law package's call, of each kind of step. -/
import Derived.Test.YtodaplkijdjbpaaTold
namespace Go.Proofs.Ytodaplkijdjbpaa
open Go.RowKit
set_option linter.unusedVariables false
set_option linter.unusedSimpArgs false
def CallTo (w : World) (G pb : Nat) (ls : Nat → Loc) (P : Pd) (L : Nat) (s : Ps) (e : Ending) (w' : World) : Prop :=
  ∃ v, e = .returned v ∧ TdAt w' v (P.told s) ∧ DTo w G pb ls (P.step s) L w' P.n
theorem call_pre (w : World) (cs : Array Value) : Below w.heap.size w (((w.alloc (.cells cs 33)).alloc (.cells #[.int .i64 0, .int .i64 0, .int .i64 0, .int .i64 0, .slice none 0 0, .slice none 0 0] 36)).alloc (.cells #[.int .i64 0, .int .i64 0, .int .i64 0, .int .i64 0, .slice none 0 0, .slice none 0 0] 36)) ∧ Blk (((w.alloc (.cells cs 33)).alloc (.cells #[.int .i64 0, .int .i64 0, .int .i64 0, .int .i64 0, .slice none 0 0, .slice none 0 0] 36)).alloc (.cells #[.int .i64 0, .int .i64 0, .int .i64 0, .int .i64 0, .slice none 0 0, .slice none 0 0] 36)) (w.heap.size + 1) #[.int .i64 0, .int .i64 0, .int .i64 0, .int .i64 0, .slice none 0 0, .slice none 0 0] 36 ∧ Blk (((w.alloc (.cells cs 33)).alloc (.cells #[.int .i64 0, .int .i64 0, .int .i64 0, .int .i64 0, .slice none 0 0, .slice none 0 0] 36)).alloc (.cells #[.int .i64 0, .int .i64 0, .int .i64 0, .int .i64 0, .slice none 0 0, .slice none 0 0] 36)) (w.heap.size + 1 + 1) #[.int .i64 0, .int .i64 0, .int .i64 0, .int .i64 0, .slice none 0 0, .slice none 0 0] 36 := by
  have x1 := below_alloc w (.cells cs 33)
  generalize hwy : w.alloc (.cells cs 33) = wy at *
  have hz : wy.heap.size = w.heap.size + 1 := by rw [← hwy]; simp
  have x2 := below_alloc wy (.cells #[.int .i64 0, .int .i64 0, .int .i64 0, .int .i64 0, .slice none 0 0, .slice none 0 0] 36)
  have k2 := Blk.fresh wy #[.int .i64 0, .int .i64 0, .int .i64 0, .int .i64 0, .slice none 0 0, .slice none 0 0] 36
  rw [hz] at k2
  have h2 : (wy.alloc (.cells #[.int .i64 0, .int .i64 0, .int .i64 0, .int .i64 0, .slice none 0 0, .slice none 0 0] 36)).heap.size = w.heap.size + 1 + 1 := by simp [hz]
  generalize wy.alloc (.cells #[.int .i64 0, .int .i64 0, .int .i64 0, .int .i64 0, .slice none 0 0, .slice none 0 0] 36) = wx at *
  have x3 := below_alloc wx (.cells #[.int .i64 0, .int .i64 0, .int .i64 0, .int .i64 0, .slice none 0 0, .slice none 0 0] 36)
  have k3 := Blk.fresh wx #[.int .i64 0, .int .i64 0, .int .i64 0, .int .i64 0, .slice none 0 0, .slice none 0 0] 36
  rw [h2] at k3
  have x12 := below_then x1 x2 x1.size
  exact ⟨below_then x12 x3 x12.size, k2.keep x3, k3⟩
set_option maxHeartbeats 1600000 in
set_option maxRecDepth 100000 in
theorem call_0 {w : World} {G pb K L : Nat} {ls : Nat → Loc} {P : Pd} {v : Value} {s : Ps} {A : Option Addr} (h : DAt w G pb ls P K) (hs : PsAt w v s A) (hA : s.f ≠ [] → ∀ k, blkO A = some k → k ≠ G ∧ k ≠ pb) (hk : K + s.p.length + 1 ≤ L) (hL : L ≤ 4294967296) (h0 : s.k = 0) :
    Calls Try.prog 16 #[.pointer (some ⟨G, 0, none⟩), v] w (CallTo w G pb ls P L s) := by
  obtain ⟨⟨C, m, c, n, d, rfl, hP, hF⟩, b0, b1⟩ := hs
  obtain ⟨k, i, a, b, p, f⟩ := s
  simp only at h0 hP hF b0 b1 hk
  subst h0
  have hlen := hP.1
  have ht : P.told ⟨0, i, a, b, p, f⟩ = { Td.no with e := (P.op i (Pa.append p)).2 } := by simp [Pd.told]
  have hst : P.step ⟨0, i, a, b, p, f⟩ = (P.op i (Pa.append p)).1 := by simp [Pd.step]
  have HT := Lib.hid (And.intro ht hst)
  obtain ⟨xz, k2, k3⟩ := call_pre w #[.int .i64 0, .int .i64 i, .int .i64 a, .int .i64 b, .slice C m c, .slice A n d]
  have hD := h.below xz
  have HM := Lib.hid (diskAppend_any hD i C m c p (hP.below xz) (by omega) hL)
  have HX := Lib.hid xz
  have HD := Lib.hid hD
  have HK := Lib.hid (And.intro k2 k3)
  clear k2 k3 hD xz ht hst
  go_enter Try.func16, Try.ntmps16
  go_wp2_with fail
  refine HM.out.mono ?_
  rintro e wm ⟨rfl, hT⟩
  have q2 := hT.blk HD.out HK.out.1 (by decide) (by decide) (by decide) (by decide)
  have q3 := hT.blk HD.out HK.out.2 (by decide) (by decide) (by decide) (by decide)
  obtain ⟨u0, u1, u2, u3, u4, u5, uf⟩ := six_cells q2
  obtain ⟨t0, t1, t2, t3, t4, t5, tf⟩ := six_cells q3
  have hne : w.heap.size + 1 ≠ w.heap.size + 1 + 1 := by omega
  go_wp2_with fail
  have hc : Chg (fun q => q = w.heap.size + 1 + 1) wm (wm.setCell ⟨w.heap.size + 1 + 1, 0, none⟩ (.int .i64 (P.op i (Pa.append p)).2)) := Chg.set (F := fun q => q = w.heap.size + 1 + 1) (Chg.refl _ _) (.inl rfl) _ _
  refine bodyPost_ret (results_row1 rfl _ _ (w.heap.size + 1) 36 _ (0, 0) _ rfl (call_fin q2 hc hne).1 Try.underlying36 rfl (by kernel_rfl)) rfl ?_
  have hcf := (call_fin q2 hc hne (a := .int .i64 (P.op i (Pa.append p)).2) (b := .int .i64 0) (c := .int .i64 0) (d := .int .i64 0) (e := .slice none 0 0) (f := .slice none 0 0)).2
  refine ⟨_, rfl, ?_, ?_⟩
  · rw [HT.out.1]
    exact ⟨none, 0, 0, none, 0, 0, rfl, Bytes.empty _ _, SpAt.nil _ _⟩
  · rw [HT.out.2]
    exact (DTo.after HX.out hT).more hcf (fun k e => by rcases e with e | e <;> omega) (fun k e => by rcases e with e | e <;> subst e; exact ⟨_, _, q2, by decide, by decide, by decide, by decide⟩; exact ⟨_, _, q3, by decide, by decide, by decide, by decide⟩)
end Go.Proofs.Ytodaplkijdjbpaa
