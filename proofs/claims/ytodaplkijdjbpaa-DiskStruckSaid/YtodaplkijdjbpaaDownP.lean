/- The first Done operations: the plain law; a step of the area 0. -/
import Derived.Test.YtodaplkijdjbpaaApt
namespace Go.Proofs.Ytodaplkijdjbpaa
open Go.RowKit
set_option linter.unusedVariables false
set_option linter.unusedSimpArgs false
/-- An armed disk of one area. -/
structure DnI (P : Pd) (fd : Int) (d : Nat) : Prop where
  n : P.n = 1
  a : P.armed = true
  f : (P.p 0).f.d = fd
  d : (P.p 0).done = d
theorem op_down {P : Pd} {fd : Int} {d : Nat} (h : DnI P fd d) (f : Pa → Option Pa) :
    ((P.op 0 f).2 = 80 ∧ fd ≤ d ∧ (P.op 0 f).1 = P) ∨ ((P.op 0 f).2 = 70 ∧ ¬ fd ≤ d ∧ (P.op 0 f).1 = P) ∨ ((P.op 0 f).2 = 0 ∧ ¬ fd ≤ d ∧ DnI (P.op 0 f).1 fd (d + 1)) := by
  have hn := h.n
  have hd : P.down 0 = decide (fd ≤ (d : Int)) := by simp [Pd.down, h.a, h.f, h.d]
  unfold Pd.op
  rw [if_neg (by omega)]
  simp only [Int.toNat_zero]
  rw [hd]
  by_cases hfd : fd ≤ (d : Int)
  · rw [if_pos (by simpa using hfd)]
    exact .inl ⟨rfl, hfd, rfl⟩
  · rw [if_neg (by simpa using hfd)]
    cases hr : f (P.p 0) with
    | none => exact .inr (.inl ⟨rfl, hfd, rfl⟩)
    | some a => exact .inr (.inr ⟨rfl, hfd, ⟨hn, h.a, by simp only [Pd.set, upd_same]; exact h.f, by simp only [Pd.set, upd_same, h.d]⟩⟩)
theorem step_down {P : Pd} {fd : Int} {d : Nat} (h : DnI P fd d) (k a b : Int) (p : List UInt8) (f : List Ft) (h0 : 0 ≤ k) (h3 : k ≤ 3) :
    ((P.told ⟨k, 0, a, b, p, f⟩).e = 80 ∧ fd ≤ d ∧ P.step ⟨k, 0, a, b, p, f⟩ = P) ∨ ((P.told ⟨k, 0, a, b, p, f⟩).e = 70 ∧ ¬ fd ≤ d ∧ P.step ⟨k, 0, a, b, p, f⟩ = P) ∨ ((P.told ⟨k, 0, a, b, p, f⟩).e = 0 ∧ ¬ fd ≤ d ∧ DnI (P.step ⟨k, 0, a, b, p, f⟩) fd (d + 1)) := by
  have hk : k = 0 ∨ k = 1 ∨ k = 2 ∨ k = 3 := by omega
  rcases hk with rfl | rfl | rfl | rfl
  · simpa [Pd.told, Pd.step] using op_down h (Pa.append p)
  · simpa [Pd.told, Pd.step] using op_down h Pa.sync
  · simpa [Pd.told, Pd.step] using op_down h (Pa.cut a)
  · simpa [Pd.told, Pd.step] using op_down h (Pa.trim a)
theorem PsAt.i0 {w : World} {k i a b : Int} {p : List UInt8} {f : List Ft} {C A : Option Addr} {m c n d : Nat} (h : PsAt w (.agg #[.int .i64 k, .int .i64 i, .int .i64 a, .int .i64 b, .slice C m c, .slice A n d]) ⟨k, i, a, b, p, f⟩ A) :
    PsAt w (.agg #[.int .i64 k, .int .i64 0, .int .i64 a, .int .i64 b, .slice C m c, .slice A n d]) ⟨k, 0, a, b, p, f⟩ A := by
  obtain ⟨⟨C', m', c', n', d', e, h1, h2⟩, b0, b1⟩ := h
  simp only [Value.agg.injEq, Array.mk.injEq, List.cons.injEq, Value.slice.injEq, and_true, true_and] at e
  obtain ⟨⟨rfl, rfl, rfl⟩, rfl, rfl⟩ := e
  exact ⟨⟨_, _, _, _, _, rfl, h1, h2⟩, b0, b1⟩
end Go.Proofs.Ytodaplkijdjbpaa
