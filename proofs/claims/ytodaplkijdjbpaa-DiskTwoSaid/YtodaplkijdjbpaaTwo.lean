/- Two disks apart from each other. -/
import Derived.Test.YtodaplkijdjbpaaApt
import Derived.Test.YtodaplkijdjbpaaMine
namespace Go.Proofs.Ytodaplkijdjbpaa
open Go.RowKit
set_option linter.unusedVariables false
set_option linter.unusedSimpArgs false
/-- Two disks apart from each other and from the blocks F. -/
def Two (w0 w : World) (G pb : Nat) (P : Pd) (H qb : Nat) (Q : Pd) (K : Nat) (F : Nat → Prop) : Prop :=
  ∃ ls, DAt w H qb ls Q K ∧ (∀ k, dF H qb ls Q.n k → w0.heap.size ≤ k ∧ ¬ F k) ∧ Apt w0 w G pb P K (fun k => F k ∨ dF H qb ls Q.n k)
section
variable {w0 w w1 : World} {G pb H qb K L : Nat} {P Q : Pd} {F F' : Nat → Prop}
theorem Two.low (h : Two w0 w G pb P H qb Q K F) : Below w0.heap.size w0 w := by obtain ⟨_, _, _, h⟩ := h; exact h.low
theorem Two.lim (h : Two w0 w G pb P H qb Q K F) : P.lim K := by obtain ⟨_, _, _, h⟩ := h; exact h.lim
theorem Two.swap (h : Two w0 w G pb P H qb Q K F) : Two w0 w H qb Q G pb P K F := by
  obtain ⟨ls2, hd2, h2, ls1, hd1, hb, h1, hf⟩ := h
  refine ⟨ls1, hd1, fun k e => ⟨h1 k e, fun e2 => (hf k (.inl e2)).2 e⟩, ls2, hd2, hb, fun k e => (h2 k e).1, fun k e => ?_⟩
  rcases e with e | e
  · exact ⟨(hf k (.inl e)).1, fun e2 => (h2 k e2).2 e⟩
  · exact ⟨hd1.lt k e, fun e2 => (hf k (.inr e2)).2 e⟩
theorem Two.flt (h : Two w0 w G pb P H qb Q K F) (k : Nat) (hk : F k) : k < w.heap.size := by
  obtain ⟨_, _, _, h⟩ := h
  exact h.flt k (.inl hk)
theorem Two.below (h : Two w0 w G pb P H qb Q K F) (hb : Below w.heap.size w w1) : Two w0 w1 G pb P H qb Q K (fun k => F k ∨ (w.heap.size ≤ k ∧ k < w1.heap.size)) := by
  obtain ⟨ls2, hd2, h2, ha⟩ := h
  refine ⟨ls2, hd2.below hb, fun k e => ⟨(h2 k e).1, ?_⟩, (ha.below hb).sub (fun k e => ?_)⟩
  · rintro (e2 | e2)
    · exact (h2 k e).2 e2
    · have := hd2.lt k e; omega
  · rcases e with (e | e) | e
    · exact .inl (.inl e)
    · exact .inr e
    · exact .inl (.inr e)
theorem Two.sub (h : Two w0 w G pb P H qb Q K F) (hs : ∀ k, F' k → F k) : Two w0 w G pb P H qb Q K F' := by
  obtain ⟨ls2, hd2, h2, ha⟩ := h
  exact ⟨ls2, hd2, fun k e => ⟨(h2 k e).1, fun e2 => (h2 k e).2 (hs k e2)⟩, ha.sub (fun k e => by rcases e with e | e; exact .inl (hs k e); exact .inr e)⟩
theorem Two.mono (h : Two w0 w G pb P H qb Q K F) (hk : K ≤ L) : Two w0 w G pb P H qb Q L F := by
  obtain ⟨ls2, hd2, h2, ha⟩ := h
  exact ⟨ls2, hd2.mono hk, h2, ha.mono hk⟩
/-- The first disk goes on. -/
theorem Two.next (h : Two w0 w G pb P H qb Q K F) : ∃ ls, DAt w G pb ls P K ∧ (w0.heap.size ≤ G ∧ w0.heap.size ≤ pb) ∧ ∀ P' L w', DTo w G pb ls P' L w' P.n → P'.n = P.n → K ≤ L → Two w0 w' G pb P' H qb Q L F ∧ Chg (fun k => ¬ F k) w w' ∧ Below w0.heap.size w0 w' := by
  obtain ⟨ls2, hd2, h2, ha⟩ := h
  obtain ⟨ls1, hd1, hg, nx⟩ := ha.next
  refine ⟨ls1, hd1, hg, fun P' L w' ht hn hk => ?_⟩
  obtain ⟨a1, hc, hb⟩ := nx P' L w' ht hn
  exact ⟨⟨ls2, (hd2.chg hc (fun k e e2 => e2 (.inr e))).mono hk, h2, a1⟩, hc.mono (fun k e e2 => e (.inl e2)), hb⟩
/-- A block of another type is written. -/
theorem Two.other {C : Nat → Prop} (h : Two w0 w G pb P H qb Q K F) (hc : Chg C w w1) (hC : ∀ k, C k → ∃ cs t, Blk w k cs t ∧ 83 ≠ t ∧ 87 ≠ t ∧ 116 ≠ t ∧ 5 ≠ t) (h0 : ∀ k, C k → w0.heap.size ≤ k) : Two w0 w1 G pb P H qb Q K F := by
  obtain ⟨ls2, hd2, h2, ha⟩ := h
  exact ⟨ls2, hd2.chg hc (fun k e e2 => by obtain ⟨cs, t, hb, p1, p2, p3, p4⟩ := hC k e2; exact hd2.off hb p1 p2 p3 p4 e), h2, ha.other hc hC h0⟩
theorem Two.bare (h : Two w0 w G pb P H qb Q K F) : Two w0 w G pb P H qb Q K (fun _ => False) := h.sub (fun _ e => e.elim)
theorem Two.keep (h : Two w0 w G pb P H qb Q K (fun _ => False)) (hb : Below w.heap.size w w1) : Two w0 w1 G pb P H qb Q K (fun _ => False) := (h.below hb).bare
end
/-- A second disk is made. -/
theorem two_new {n K G pb : Nat} {w0 w w' : World} {e : Ending} {P : Pd} {F : Nat → Prop} (ha : Apt w0 w G pb P K F) (h : NewTo n w e w') : ∃ H qb, e = .returned (.tuple #[.pointer (some ⟨H, 0, none⟩), .int .i64 0]) ∧ Below w.heap.size w w' ∧ Two w0 w' G pb P H qb (Pd.new n) K F := by
  obtain ⟨H, qb, gs, he, hd, hB, hk⟩ := h
  have h0 := ha.low.size
  refine ⟨H, qb, he, hB, _, hd K, fun k e => ⟨Nat.le_trans h0 (hk k e), fun e2 => ?_⟩, (ha.below hB).sub (fun k e => ?_)⟩
  · have := ha.flt k e2
    have := hk k e
    omega
  · rcases e with e | e
    · exact .inl e
    · exact .inr ⟨hk k e, (hd K).lt k e⟩
/-- One step of a script that was there before the call, in every later world. -/
theorem Script.at_all {w0 w : World} {A : Option Addr} {n : Nat} {ss : List Ps} (h : Script w0 A n ss) (hb : Below w0.heap.size w0 w) (k : Nat) (hk : k < n) :
    ∃ b o s C m c F l d, A = some ⟨b, o, none⟩ ∧ ss[k]? = some s ∧ w.cell? ⟨b, o + k * 6, none⟩ = some (.int .i64 s.k) ∧ w.cell? ⟨b, o + k * 6 + 1, none⟩ = some (.int .i64 s.i) ∧ w.cell? ⟨b, o + k * 6 + 2, none⟩ = some (.int .i64 s.a) ∧
      w.cell? ⟨b, o + k * 6 + 3, none⟩ = some (.int .i64 s.b) ∧ w.cell? ⟨b, o + k * 6 + 4, none⟩ = some (.slice C m c) ∧ w.cell? ⟨b, o + k * 6 + 5, none⟩ = some (.slice F l d) ∧
      (∀ w1, Below w0.heap.size w0 w1 → PsAt w1 (.agg #[.int .i64 s.k, .int .i64 s.i, .int .i64 s.a, .int .i64 s.b, .slice C m c, .slice F l d]) s F) ∧ s.p.length = m ∧ (s.f ≠ [] → ∀ q, blkO F = some q → q < w0.heap.size) ∧ m ≤ 140737488351232 := by
  obtain ⟨b, o, cs, s, hA, hs, hl, ⟨C, m, c, F, l, d, rfl, h2, h3, h4⟩, hc⟩ := RecS.at_ h k hk
  have mv : ∀ j u, [Value.int .i64 s.k, .int .i64 s.i, .int .i64 s.a, .int .i64 s.b, .slice C m c, .slice F l d][j]? = some u → w.cell? ⟨b, o + k * 6 + j, none⟩ = some u := fun j u hj => (hb.cell (p := ⟨b, o + k * 6 + j, none⟩) (block_lt_of_cell (hc j u hj))).trans (hc j u hj)
  exact ⟨b, o, s, C, m, c, F, l, d, hA, hs, mv 0 _ rfl, mv 1 _ rfl, mv 2 _ rfl, mv 3 _ rfl, mv 4 _ rfl, mv 5 _ rfl, fun w1 hb1 => ⟨⟨C, m, c, l, d, rfl, h2.below hb1, h3.below hb1⟩, h4.2.2.1, h4.2.2.2.1⟩, h2.1, fun hn => h3.lt hn, by have := h4.1; have := h4.2.1; omega⟩
end Go.Proofs.Ytodaplkijdjbpaa
