/- Three streams, and what was written to each, in memory. -/
import Derived.Test.YtgjmhcebhgpidaaOps
namespace Go.Proofs.Ytgjmhcebhgpidaa
open Go.RowKit
/-- A function with one value turned. -/
def upd (S : Nat → List UInt8) (j : Nat) (x : List UInt8) : Nat → List UInt8 := fun i => if i = j then x else S i
theorem upd_same (S : Nat → List UInt8) (j : Nat) (x : List UInt8) : upd S j x j = x := by simp [upd]
theorem upd_other (S : Nat → List UInt8) (j i : Nat) (x : List UInt8) (h : i ≠ j) : upd S j x i = S i := by simp [upd, h]
/-- Block H: three streams, to which S was written; block H + 1: three lists of bytes, T. -/
structure Strm (w : World) (H : Nat) (S T : Nat → List UInt8) (wr : World) : Prop where
  st : ∀ j, j < 3 → ∃ n, St wr H (j * 2) n (S j).length ∧ U n (Crc.more 0 (S j))
  cell : ∀ j, j < 3 → ∃ A c, wr.cell? ⟨H + 1, j, none⟩ = some (.slice A (T j).length c) ∧ wr.ownsRow (H + 2) 5 1 (.slice A (T j).length c) (T j).length (bvals (T j))
  fz : ∀ j, wr.frozen? ⟨H + 1, j, none⟩ = false
  bel : Below w.heap.size w wr
  lo : w.heap.size ≤ H
  lt : H + 1 < wr.heap.size
theorem Strm.below {w wr w2 : World} {H : Nat} {S T : Nat → List UInt8} (h : Strm w H S T wr) (hb : Below wr.heap.size wr w2) : Strm w H S T w2 := by
  have hlt := h.lt
  refine ⟨fun j hj => ?_, fun j hj => ?_, fun j => (hb.frozen (p := ⟨H + 1, j, none⟩) hlt).trans (h.fz j), below_then h.bel hb h.bel.size, h.lo, Nat.lt_of_lt_of_le hlt hb.size⟩
  · obtain ⟨n, h1, h2⟩ := h.st j hj
    exact ⟨n, h1.below hb (by omega), h2⟩
  · obtain ⟨A, c, h1, h2⟩ := h.cell j hj
    exact ⟨A, c, (hb.cell (p := ⟨H + 1, j, none⟩) hlt).trans h1, own_below h2 hb⟩
theorem St.other {w1 : World} {g o : Nat} {n c : Int} (h : St w1 g o n c) (a : Addr) (v : Value) (h1 : a ≠ ⟨g, o, none⟩) (h2 : a ≠ ⟨g, o + 1, none⟩) : St (w1.setCell a v) g o n c := by
  obtain ⟨p, q, f0, f1⟩ := h
  exact ⟨(World.cell?_setCell_other _ _ _ _ h1).trans p, (World.cell?_setCell_other _ _ _ _ h2).trans q, by simp [f0], by simp [f1]⟩
/-- A stream's cells are written anew. -/
theorem Strm.put {w wr : World} {H : Nat} {S T : Nat → List UInt8} (h : Strm w H S T wr) (j : Nat) (hj : j < 3) (bs : List UInt8) {n' c' : Int} (u : U n' (Crc.more 0 bs)) (hc' : c' = (bs.length : Int)) :
    Strm w H (upd S j bs) T ((wr.setCell ⟨H, j * 2, none⟩ (.int .u32 n')).setCell ⟨H, j * 2 + 1, none⟩ (.int .i64 c')) := by
  have hlo := h.lo
  subst hc'
  refine ⟨fun i hi => ?_, fun i hi => ?_, fun i => by simp [h.fz i], (h.bel.setCell (p := ⟨H, j * 2, none⟩) hlo _).setCell (p := ⟨H, j * 2 + 1, none⟩) hlo _, hlo, by have := h.lt; simpa using this⟩
  · by_cases e : i = j
    · subst e
      obtain ⟨n, h1, -⟩ := h.st i hi
      rw [upd_same]
      exact ⟨n', h1.after, u⟩
    · obtain ⟨n, h1, h2⟩ := h.st i hi
      rw [upd_other _ _ _ _ e]
      exact ⟨n, (h1.other _ _ (by simp <;> omega) (by simp <;> omega)).other _ _ (by simp <;> omega) (by simp <;> omega), h2⟩
  · obtain ⟨A, c, h1, h2⟩ := h.cell i hi
    refine ⟨A, c, ?_, ownsRow_setCell_below (ownsRow_setCell_below h2 (by simp) _) (by simp) _⟩
    rw [World.cell?_setCell_other _ _ _ _ (by simp), World.cell?_setCell_other _ _ _ _ (by simp)]
    exact h1
/-- A list is stored. -/
theorem Strm.store {w wr : World} {H : Nat} {S T : Nat → List UInt8} (h : Strm w H S T wr) (j : Nat) (hj : j < 3) (bs : List UInt8) {A' : Option Addr} {m c' : Nat} (hm : m = bs.length) (ho : wr.ownsRow (H + 2) 5 1 (.slice A' m c') m (bvals bs)) :
    Strm w H S (upd T j bs) (wr.setCell ⟨H + 1, j, none⟩ (.slice A' m c')) := by
  have hlo := h.lo
  subst hm
  refine ⟨fun i hi => ?_, fun i hi => ?_, fun i => by simp [h.fz i], h.bel.setCell (p := ⟨H + 1, j, none⟩) (by simp <;> omega) _, hlo, by have := h.lt; simpa using this⟩
  · obtain ⟨n, h1, h2⟩ := h.st i hi
    exact ⟨n, h1.other _ _ (by simp) (by simp), h2⟩
  · by_cases e : i = j
    · subst e
      obtain ⟨A, c, h1, -⟩ := h.cell i hi
      rw [upd_same]
      exact ⟨A', c', World.cell?_setCell_same _ _ _ h1, ownsRow_setCell_below ho (by simp) _⟩
    · obtain ⟨A, c, h1, h2⟩ := h.cell i hi
      rw [upd_other _ _ _ _ e]
      refine ⟨A, c, ?_, ownsRow_setCell_below h2 (by simp) _⟩
      rw [World.cell?_setCell_other _ _ _ _ (by simp <;> omega)]
      exact h1
end Go.Proofs.Ytgjmhcebhgpidaa
