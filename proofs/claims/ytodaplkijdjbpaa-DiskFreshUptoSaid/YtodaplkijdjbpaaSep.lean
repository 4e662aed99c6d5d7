/- Rows of bytes that lie apart. -/
import Derived.Test.YtodaplkijdjbpaaFoot
namespace Go.Proofs.Ytodaplkijdjbpaa
open Go.RowKit
set_option linter.unusedVariables false
set_option linter.unusedSimpArgs false
/-- A row of bytes: where it lies, its length, its room, what it holds. -/
structure Rw where
  A : Option Addr
  n : Nat
  c : Nat
  bs : List UInt8
def Rw.own (w : World) (B : Nat) (r : Rw) : Prop := w.ownsRow B 5 1 (.slice r.A r.n r.c) r.n (bvals r.bs)
def Rw.apart (r s : Rw) : Prop := ∀ q, blkO r.A = some q → blkO s.A ≠ some q
theorem Rw.apart_symm {r s : Rw} (h : r.apart s) : s.apart r := fun q e e2 => h q e2 e
/-- Rows that the call made, each apart from the others. -/
structure Sep (w : World) (B : Nat) (rs : List Rw) : Prop where
  own : ∀ r ∈ rs, r.own w B
  sep : rs.Pairwise Rw.apart
theorem Sep.nil (w : World) (B : Nat) : Sep w B [] := ⟨(fun r hr => absurd hr (by simp)), List.Pairwise.nil⟩
theorem Rw.lt {w : World} {B : Nat} {r : Rw} (h : r.own w B) : ∀ q, blkO r.A = some q → B ≤ q ∧ q < w.heap.size := fun q e => h.lt q (by rw [ownBlock_slice]; exact e)
theorem Sep.below {w w1 : World} {B : Nat} {rs : List Rw} (h : Sep w B rs) (hb : Below w.heap.size w w1) : Sep w1 B rs := ⟨fun r hr => own_below (h.own r hr) hb, h.sep⟩
/-- What changes none of the rows. -/
theorem Sep.chg {F : Nat → Prop} {w w1 : World} {B : Nat} {rs : List Rw} (h : Sep w B rs) (hc : Chg F w w1) (hF : ∀ r ∈ rs, ∀ q, blkO r.A = some q → ¬ F q) : Sep w1 B rs :=
  ⟨fun r hr => own_chg (h.own r hr) hc (fun k e => hF r hr k (by rw [← ownBlock_slice r.A r.n r.c]; exact e)), h.sep⟩
/-- A new row. -/
theorem Sep.add {w w1 : World} {B : Nat} {rs : List Rw} {A : Option Addr} {n c : Nat} {bs : List UInt8} (h : Sep w B rs) (hb : Below w.heap.size w w1) (hB : B ≤ w.heap.size) (ho : w1.ownsRow w.heap.size 5 1 (.slice A n c) n (bvals bs)) : Sep w1 B (⟨A, n, c, bs⟩ :: rs) := by
  refine ⟨fun r hr => ?_, .cons (fun r hr q e e2 => ?_) h.sep⟩
  · rcases List.mem_cons.1 hr with rfl | hr
    · exact own_mono ho hB
    · exact own_below (h.own r hr) hb
  · have h1 := own_base ho q (by rw [ownBlock_slice]; exact e)
    have h2 := (Rw.lt (h.own r hr) q e2).2
    omega
/-- A new row, behind a change of other blocks. -/
theorem Sep.add_chg {F : Nat → Prop} {w w1 : World} {B : Nat} {rs : List Rw} {A : Option Addr} {n c : Nat} {bs : List UInt8} (h : Sep w B rs) (hc : Chg F w w1) (hF : ∀ r ∈ rs, ∀ q, blkO r.A = some q → ¬ F q) (hB : B ≤ w.heap.size) (ho : w1.ownsRow w.heap.size 5 1 (.slice A n c) n (bvals bs)) : Sep w1 B (⟨A, n, c, bs⟩ :: rs) := by
  have h1 := h.chg hc hF
  refine ⟨fun r hr => ?_, .cons (fun r hr q e e2 => ?_) h.sep⟩
  · rcases List.mem_cons.1 hr with rfl | hr
    · exact own_mono ho hB
    · exact h1.own r hr
  · have h1 := own_base ho q (by rw [ownBlock_slice]; exact e)
    have h2 := (Rw.lt (h.own r hr) q e2).2
    omega
theorem Sep.at_ {w : World} {B : Nat} {rs : List Rw} (h : Sep w B rs) (j : Nat) {r : Rw} (hj : rs[j]? = some r) : r.own w B := h.own r (List.mem_of_getElem? hj)
theorem Sep.bytes {w : World} {B : Nat} {rs : List Rw} (h : Sep w B rs) (j : Nat) {A : Option Addr} {n c : Nat} {bs : List UInt8} (hj : rs[j]? = some ⟨A, n, c, bs⟩) (hn : n ≤ 281474976710656) : Bytes w A n bs := own_bytes' (h.at_ j hj) hn
theorem pairwise_set {α : Type} {R : α → α → Prop} (hs : ∀ a b, R a b → R b a) {l : List α} (h : l.Pairwise R) : ∀ (j : Nat) (x y : α), l[j]? = some x → (∀ z ∈ l, R x z → R y z) → (l.set j y).Pairwise R := by
  induction h with
  | nil => intro j x y hj; simp at hj
  | @cons a l ha hl ih =>
    intro j x y hj hy
    cases j with
    | zero =>
      simp only [List.getElem?_cons_zero, Option.some.injEq] at hj
      subst hj
      exact .cons (fun z hz => hy z (List.mem_cons_of_mem _ hz) (ha z hz)) hl
    | succ j =>
      simp only [List.getElem?_cons_succ] at hj
      refine .cons (fun z hz => ?_) (ih j x y hj (fun z hz => hy z (List.mem_cons_of_mem _ hz)))
      rcases List.mem_or_eq_of_mem_set hz with hz | rfl
      · exact ha z hz
      · exact hs _ _ (hy a (List.mem_cons_self ..) (hs _ _ (ha x (List.mem_of_getElem? hj))))
/-- One row changes, or moves to new memory. -/
theorem Sep.upd {w w1 : World} {B : Nat} {rs : List Rw} (h : Sep w B rs) (j : Nat) {A A' : Option Addr} {n n' c c' : Nat} {bs bs' : List UInt8} (hj : rs[j]? = some ⟨A, n, c, bs⟩)
    (hc : Chg (fun q => blkO A = some q) w w1) (ho : w1.ownsRow B 5 1 (.slice A' n' c') n' (bvals bs')) (hm : blkO A' = blkO A ∨ ∃ b, blkO A' = some b ∧ w.heap.size ≤ b) : Sep w1 B (rs.set j ⟨A', n', c', bs'⟩) := by
  have hp := pairwise_set (fun _ _ => Rw.apart_symm) h.sep j _ ⟨A', n', c', bs'⟩ hj (fun z hz hr q e e2 => by
    rcases hm with hm | ⟨b, hm, hb⟩
    · exact hr q (by rw [← hm]; exact e) e2
    · have e : blkO A' = some q := e
      rw [hm] at e
      injection e with e
      have := (Rw.lt (h.own z hz) q e2).2
      omega)
  refine ⟨fun r hr => ?_, hp⟩
  obtain ⟨i, hi⟩ := List.getElem?_of_mem hr
  by_cases hij : i = j
  · subst hij
    rw [List.getElem?_set_self (List.getElem?_eq_some_iff.1 hj).1] at hi
    injection hi with hi
    subst hi
    exact ho
  · rw [List.getElem?_set_ne (Ne.symm hij)] at hi
    refine own_chg (h.at_ i hi) hc (fun k e e2 => ?_)
    rw [ownBlock_slice] at e
    have hp2 := List.pairwise_iff_getElem.1 h.sep
    obtain ⟨l1, e1⟩ := List.getElem?_eq_some_iff.1 hi
    obtain ⟨l2, e3⟩ := List.getElem?_eq_some_iff.1 hj
    rcases Nat.lt_or_gt_of_ne hij with hlt | hlt
    · have := hp2 i j l1 l2 hlt
      rw [e1, e3] at this
      exact this k e e2
    · have := hp2 j i l2 l1 hlt
      rw [e1, e3] at this
      exact this k e2 e
end Go.Proofs.Ytodaplkijdjbpaa
