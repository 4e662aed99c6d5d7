/- A disk that the call made. -/
import Derived.Test.YtodaplkijdjbpaaCall
import Derived.Test.YtodaplkijdjbpaaAlike
namespace Go.Proofs.Ytodaplkijdjbpaa
open Go.RowKit
set_option linter.unusedVariables false
set_option linter.unusedSimpArgs false
theorem Pd.op_n (P : Pd) (i : Int) (f : Pa → Option Pa) : (P.op i f).1.n = P.n := by
  unfold Pd.op
  split
  · rfl
  · split
    · rfl
    · split <;> rfl
theorem Pd.step_n (P : Pd) (s : Ps) : (P.step s).n = P.n := by
  unfold Pd.step
  repeat' split
  all_goals first | exact P.op_n _ _ | rfl
/-- A disk in blocks that are younger than w0. -/
def Mine (w0 w : World) (G pb : Nat) (P : Pd) (K : Nat) : Prop := ∃ ls, DAt w G pb ls P K ∧ Below w0.heap.size w0 w ∧ ∀ k, dF G pb ls P.n k → w0.heap.size ≤ k
section
variable {w0 w w1 : World} {G pb K L : Nat} {P Q : Pd}
theorem Mine.low (h : Mine w0 w G pb P K) : Below w0.heap.size w0 w := by obtain ⟨_, _, h, _⟩ := h; exact h
theorem Mine.below (h : Mine w0 w G pb P K) (hb : Below w.heap.size w w1) : Mine w0 w1 G pb P K := by
  obtain ⟨ls, hd, h1, h2⟩ := h
  exact ⟨ls, hd.below hb, below_then h1 hb h1.size, h2⟩
theorem Mine.mono (h : Mine w0 w G pb P K) (hk : K ≤ L) : Mine w0 w G pb P L := by
  obtain ⟨ls, hd, h1, h2⟩ := h
  exact ⟨ls, hd.mono hk, h1, h2⟩
theorem Mine.next (h : Mine w0 w G pb P K) : ∃ ls, DAt w G pb ls P K ∧ (w0.heap.size ≤ G ∧ w0.heap.size ≤ pb) ∧ ∀ Q L w', DTo w G pb ls Q L w' P.n → Q.n = P.n → Mine w0 w' G pb Q L := by
  obtain ⟨ls, hd, h1, h2⟩ := h
  refine ⟨ls, hd, ⟨h2 G (.inl rfl), h2 pb (.inr (.inl rfl))⟩, fun Q L w' ht hn => ?_⟩
  obtain ⟨l2, hd2, hc, hk⟩ := ht
  refine ⟨l2, hd2, h1.trans (hc.below h1.size h2), fun k e => ?_⟩
  rcases hk k e with h | h
  · exact h2 k h
  · exact Nat.le_trans h1.size h
theorem Mine.cast (h : Mine w0 w G pb P K) (e : P = Q) : Mine w0 w G pb Q K := e ▸ h
end
theorem mine_new {n : Nat} {w w' : World} {e : Ending} (h : NewTo n w e w') : ∃ G pb, e = .returned (.tuple #[.pointer (some ⟨G, 0, none⟩), .int .i64 0]) ∧ ∀ K, Mine w w' G pb (Pd.new n) K := by
  obtain ⟨G, pb, gs, he, hd, hb, hk⟩ := h
  exact ⟨G, pb, he, fun K => ⟨_, hd K, hb, hk⟩⟩
theorem blk_bytes8 {w : World} {g : Nat} {bs : List UInt8} {t : TypeId} (h : Blk w g (bvals bs).toArray t) (hn : bs.length ≤ 281474976710656) : Bytes w (some ⟨g, 0, none⟩) bs.length bs :=
  ⟨rfl, hn, .inr ⟨g, 0, rfl, fun j hj => by rw [Nat.zero_add, h.cell]; simp [bvals, List.getD_eq_getElem?_getD, hj]⟩⟩
end Go.Proofs.Ytodaplkijdjbpaa
