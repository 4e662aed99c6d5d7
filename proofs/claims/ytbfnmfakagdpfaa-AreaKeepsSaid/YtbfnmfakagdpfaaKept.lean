/- Two rows of bytes of one's own, one of them in a box's field, written and grown. -/
import Derived.Test.YtbfnmfakagdpfaaStays
namespace Go.Proofs.Ytbfnmfakagdpfaa
open Go.RowKit
set_option linter.unusedVariables false
set_option linter.unusedSimpArgs false
/-- The rows W and I; I's slice stands in the box X. -/
structure Kp (w0 : World) (F : Nat → Prop) (X : Nat) (base : Int) (wr : World) (n1 : Nat) (W : Option Addr) (c1 : Nat) (n2 : Nat) (I : Option Addr) (c2 : Nat) : Prop where
  rowW : ∃ xs : List UInt8, wr.ownsRow 0 5 1 (.slice W n1 c1) n1 (bvals xs)
  rowI : ∃ xs : List UInt8, wr.ownsRow 0 5 1 (.slice I n2 c2) n2 (bvals xs)
  box : Blk wr X #[.int .i64 base, .slice I n2 c2] 33
  chg : Chg F w0 wr
  inW : ∀ q, blkO W = some q → F q ∨ w0.heap.size ≤ q
  inI : ∀ q, blkO I = some q → F q ∨ w0.heap.size ≤ q
  inX : F X
  dis : ∀ q, blkO W = some q → blkO I ≠ some q
theorem Kp.below {w0 : World} {F : Nat → Prop} {X : Nat} {base : Int} {wr wr' : World} {n1 : Nat} {W : Option Addr} {c1 n2 : Nat} {I : Option Addr} {c2 : Nat} (h : Kp w0 F X base wr n1 W c1 n2 I c2) (hb : Below wr.heap.size wr wr') : Kp w0 F X base wr' n1 W c1 n2 I c2 := by
  obtain ⟨xs, hx⟩ := h.rowW
  obtain ⟨ys, hy⟩ := h.rowI
  exact ⟨⟨xs, own_below hx hb⟩, ⟨ys, own_below hy hb⟩, h.box.keep hb, h.chg.then_ hb, h.inW, h.inI, h.inX, h.dis⟩
theorem Kp.setW {w0 : World} {F : Nat → Prop} {X : Nat} {base : Int} {wr : World} {n1 : Nat} {bW : Nat} {c1 n2 : Nat} {I : Option Addr} {c2 : Nat} (h : Kp w0 F X base wr n1 (some ⟨bW, 0, none⟩) c1 n2 I c2) (k : Nat) (y : UInt8) : Kp w0 F X base (wr.setCell ⟨bW, k, none⟩ (.int .u8 ((y.toNat : Nat) : Int))) n1 (some ⟨bW, 0, none⟩) c1 n2 I c2 := by
  obtain ⟨xs, hx⟩ := h.rowW
  obtain ⟨ys, hy⟩ := h.rowI
  have hst := (hx.stored k (.int .u8 ((y.toNat : Nat) : Int))).1
  rw [bvals_set7] at hst
  have hnx : bW ≠ X := fun e => own_not_blk7 hx h.box (by decide) (by rw [← e]; rfl)
  exact ⟨⟨_, hst⟩, ⟨ys, own_chg hy (chg_set wr bW k _) (fun q e e2 => h.dis q (by rw [e2]; rfl) (by rw [← ownBlock_slice]; exact e))⟩, h.box.chg (chg_set wr bW k _) (fun e => hnx e.symm), h.chg.set (h.inW bW rfl) k _, h.inW, h.inI, h.inX, h.dis⟩
theorem Kp.setI {w0 : World} {F : Nat → Prop} {X : Nat} {base : Int} {wr : World} {n1 : Nat} {W : Option Addr} {c1 n2 : Nat} {bI : Nat} {c2 : Nat} (h : Kp w0 F X base wr n1 W c1 n2 (some ⟨bI, 0, none⟩) c2) (k : Nat) (y : UInt8) : Kp w0 F X base (wr.setCell ⟨bI, k, none⟩ (.int .u8 ((y.toNat : Nat) : Int))) n1 W c1 n2 (some ⟨bI, 0, none⟩) c2 := by
  obtain ⟨xs, hx⟩ := h.rowW
  obtain ⟨ys, hy⟩ := h.rowI
  have hst := (hy.stored k (.int .u8 ((y.toNat : Nat) : Int))).1
  rw [bvals_set7] at hst
  have hnx : bI ≠ X := fun e => own_not_blk7 hy h.box (by decide) (by rw [← e]; rfl)
  exact ⟨⟨xs, own_chg hx (chg_set wr bI k _) (fun q e e2 => h.dis q (by rw [← ownBlock_slice W n1 c1]; exact e) (by rw [e2]; rfl))⟩, ⟨_, hst⟩, h.box.chg (chg_set wr bI k _) (fun e => hnx e.symm), h.chg.set (h.inI bI rfl) k _, h.inW, h.inI, h.inX, h.dis⟩
theorem Kp.size {w0 : World} {F : Nat → Prop} {X : Nat} {base : Int} {wr : World} {n1 : Nat} {W : Option Addr} {c1 n2 : Nat} {I : Option Addr} {c2 : Nat} (h : Kp w0 F X base wr n1 W c1 n2 I c2) : w0.heap.size ≤ wr.heap.size := h.chg.size
theorem Kp.appW {w0 : World} {F : Nat → Prop} {X : Nat} {base : Int} {wr w' : World} {n1 : Nat} {W : Option Addr} {c1 n2 : Nat} {I : Option Addr} {c2 : Nat} {W' : Option Addr} {c' n' : Nat} {zs : List UInt8} (h : Kp w0 F X base wr n1 W c1 n2 I c2) (ho : w'.ownsRow 0 5 1 (.slice W' n' c') n' (bvals zs)) (hg : wr.grownBy w' (Value.ownBlock (.slice W n1 c1)))
    (hne : Value.ownBlock (.slice W' n' c') = Value.ownBlock (.slice W n1 c1) ∨ ∃ b, Value.ownBlock (.slice W' n' c') = some b ∧ wr.heap.size ≤ b) : Kp w0 F X base w' n' W' c' n2 I c2 := by
  obtain ⟨xs, hx⟩ := h.rowW
  obtain ⟨ys, hy⟩ := h.rowI
  have hC := chg_grown hg
  rw [ownBlock_slice] at hC
  rw [ownBlock_slice, ownBlock_slice] at hne
  have hltI := own_lt7 hy
  have hz := h.size
  refine ⟨⟨zs, ho⟩, ⟨ys, own_chg hy hC (fun q e e2 => h.dis q e2 (by rw [← ownBlock_slice]; exact e))⟩, h.box.chg hC (fun e => own_not_blk7 hx h.box (by decide) (by rw [ownBlock_slice]; exact e)), h.chg.trans hC (fun q e => h.inW q e), fun q e => ?_, h.inI, h.inX, fun q e e2 => ?_⟩
  · rcases hne with e2 | ⟨b, e2, e3⟩
    · exact h.inW q (e2 ▸ e)
    · rw [e2] at e; injection e with e; exact .inr (by omega)
  · rcases hne with e3 | ⟨b, e3, e4⟩
    · exact h.dis q (e3 ▸ e) e2
    · rw [e3] at e; injection e with e; have := (hltI q e2).2; omega
theorem Kp.appI {w0 : World} {F : Nat → Prop} {X : Nat} {base : Int} {wr w' : World} {n1 : Nat} {W : Option Addr} {c1 n2 : Nat} {I : Option Addr} {c2 : Nat} {I' : Option Addr} {c' n' : Nat} {zs : List UInt8} (h : Kp w0 F X base wr n1 W c1 n2 I c2) (ho : w'.ownsRow 0 5 1 (.slice I' n' c') n' (bvals zs)) (hg : wr.grownBy w' (Value.ownBlock (.slice I n2 c2)))
    (hne : Value.ownBlock (.slice I' n' c') = Value.ownBlock (.slice I n2 c2) ∨ ∃ b, Value.ownBlock (.slice I' n' c') = some b ∧ wr.heap.size ≤ b) : Blk w' X #[.int .i64 base, .slice I n2 c2] 33 ∧ Kp w0 F X base (w'.setCell ⟨X, 1, none⟩ (.slice I' n' c')) n1 W c1 n' I' c' := by
  obtain ⟨xs, hx⟩ := h.rowW
  obtain ⟨ys, hy⟩ := h.rowI
  have hC := chg_grown hg
  rw [ownBlock_slice] at hC
  rw [ownBlock_slice, ownBlock_slice] at hne
  have hltW := own_lt7 hx
  have hz := h.size
  have hbx := h.box.chg hC (fun e => own_not_blk7 hy h.box (by decide) (by rw [ownBlock_slice]; exact e))
  have hx2 := own_chg hx hC (fun q e e2 => h.dis q (by rw [← ownBlock_slice W n1 c1]; exact e) e2)
  refine ⟨hbx, ⟨xs, own_chg hx2 (chg_set w' X 1 _) (fun q e e2 => own_not_blk7 hx2 hbx (by decide) (by rw [e2] at e; exact e))⟩, ⟨zs, own_chg ho (chg_set w' X 1 _) (fun q e e2 => own_not_blk7 ho hbx (by decide) (by rw [e2] at e; exact e))⟩, hbx.set 1 _, (h.chg.trans hC (fun q e => h.inI q e)).set (.inl h.inX) 1 _, h.inW, fun q e => ?_, h.inX, fun q e e2 => ?_⟩
  · rcases hne with e2 | ⟨b, e2, e3⟩
    · exact h.inI q (e2 ▸ e)
    · rw [e2] at e; injection e with e; exact .inr (by omega)
  · rcases hne with e3 | ⟨b, e3, e4⟩
    · exact h.dis q e (e3 ▸ e2)
    · rw [e3] at e2; injection e2 with e2; have := (hltW q e).2; omega
end Go.Proofs.Ytbfnmfakagdpfaa
