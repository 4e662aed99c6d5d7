/- Worlds that differ in new blocks and in some named ones alone. -/
import Derived.Test.YtodaplkijdjbpaaWords
import Derived.Test.YtodaplkijdjbpaaBlk
namespace Go.Proofs.Ytodaplkijdjbpaa
open Go.RowKit
set_option linter.unusedVariables false
set_option linter.unusedSimpArgs false
/-- w' is w but for new blocks and those in F. -/
structure Chg (F : Nat → Prop) (w w' : World) : Prop where
  os : w'.os = w.os
  tape : w'.tape = w.tape
  output : w'.output = w.output
  size : w.heap.size ≤ w'.heap.size
  block : ∀ k, k < w.heap.size → ¬ F k → w'.heap[k]? = w.heap[k]?
theorem Chg.refl (F : Nat → Prop) (w : World) : Chg F w w := ⟨rfl, rfl, rfl, Nat.le_refl _, fun _ _ _ => rfl⟩
theorem Chg.mono {F G : Nat → Prop} {w w' : World} (h : Chg F w w') (hi : ∀ k, F k → G k) : Chg G w w' :=
  ⟨h.os, h.tape, h.output, h.size, fun k hk hn => h.block k hk (fun e => hn (hi k e))⟩
theorem Chg.trans {F F1 : Nat → Prop} {w w1 w2 : World} (h : Chg F w w1) (h1 : Chg F1 w1 w2) (hi : ∀ k, F1 k → F k ∨ w.heap.size ≤ k) : Chg F w w2 :=
  ⟨h1.os.trans h.os, h1.tape.trans h.tape, h1.output.trans h.output, Nat.le_trans h.size h1.size,
   fun k hk hn => (h1.block k (Nat.lt_of_lt_of_le hk h.size) (fun e => (hi k e).elim hn (fun e => by omega))).trans (h.block k hk hn)⟩
theorem chg_grown {w w' : World} {row : Option Nat} (h : w.grownBy w' row) : Chg (fun k => row = some k) w w' :=
  ⟨h.os, h.tape, h.output, h.size, fun k hk hn => h.block k hk (fun e => hn e.symm)⟩
theorem chg_below {w w' : World} (h : Below w.heap.size w w') (F : Nat → Prop) : Chg F w w' := ⟨h.os, h.tape, h.output, h.size, fun k hk _ => h.block k hk⟩
theorem Chg.below {F : Nat → Prop} {w w' : World} {B : Nat} (h : Chg F w w') (hB : B ≤ w.heap.size) (hF : ∀ k, F k → B ≤ k) : Below B w w' :=
  ⟨h.os, h.tape, h.output, h.size, fun k hk => h.block k (by omega) (fun e => by have := hF k e; omega)⟩
theorem chg_set (w : World) (g j : Nat) (v : Value) : Chg (fun k => k = g) w (w.setCell ⟨g, j, none⟩ v) :=
  ⟨rfl, rfl, rfl, by simp [World.setCell], fun k _ hk => heap_setCell_other _ _ _ _ hk⟩
theorem Chg.set {F : Nat → Prop} {w w1 : World} (h : Chg F w w1) {g : Nat} (hg : F g ∨ w.heap.size ≤ g) (j : Nat) (v : Value) : Chg F w (w1.setCell ⟨g, j, none⟩ v) :=
  h.trans (chg_set w1 g j v) (fun k e => by subst e; exact hg)
theorem Chg.then_ {F : Nat → Prop} {w w1 w2 : World} (h : Chg F w w1) (hb : Below w1.heap.size w1 w2) : Chg F w w2 := h.trans (chg_below hb (fun _ => False)) (fun _ e => e.elim)
theorem Chg.after {F : Nat → Prop} {w w1 w2 : World} (hb : Below w.heap.size w w1) (h : Chg F w1 w2) : Chg F w w2 := (chg_below hb F).trans h (fun _ e => .inl e)
theorem Chg.cell {F : Nat → Prop} {w w' : World} (h : Chg F w w') {b o : Nat} {v : Value} (hc : w.cell? ⟨b, o, none⟩ = some v) (hn : ¬ F b) : w'.cell? ⟨b, o, none⟩ = some v :=
  (World.cell?_of_block (h.block b (block_lt_of_cell hc) hn)).trans hc
theorem Blk.chg {F : Nat → Prop} {w w' : World} {g : Nat} {cs : Array Value} {t : TypeId} (h : Blk w g cs t) (hc : Chg F w w') (hn : ¬ F g) : Blk w' g cs t := (hc.block g h.lt hn).trans h
theorem own_chg {F : Nat → Prop} {w w' : World} {B : Nat} {e : TypeId} {z n : Nat} {v : Value} {xs : List Value} (h : w.ownsRow B e z v n xs) (hc : Chg F w w') (hn : ∀ k, v.ownBlock = some k → ¬ F k) : w'.ownsRow B e z v n xs := by
  refine ⟨h.1, ?_⟩
  rcases h.2 with h0 | ⟨g, cap, cur, rfl, hb, hg, rest⟩
  · exact .inl h0
  · refine .inr ⟨g, cap, cur, rfl, hb, ?_, rest⟩
    rw [hc.block g (Array.getElem?_eq_some_iff.1 hg).1 (hn g rfl)]
    exact hg
/-- The block behind an address. -/
def blkO (A : Option Addr) : Option Nat := A.map (·.block)
theorem ownBlock_slice (A : Option Addr) (n c : Nat) : Value.ownBlock (.slice A n c) = blkO A := by cases A <;> rfl
theorem Bytes.chg {F : Nat → Prop} {w w' : World} {A : Option Addr} {n : Nat} {bs : List UInt8} (h : Bytes w A n bs) (hc : Chg F w w') (hn : ∀ k, blkO A = some k → ¬ F k) : Bytes w' A n bs := by
  refine ⟨h.1, h.2.1, ?_⟩
  rcases h.2.2 with h0 | ⟨b, o, rfl, hcell⟩
  · exact .inl h0
  · exact .inr ⟨b, o, rfl, fun j hj => hc.cell (hcell j hj) (hn b rfl)⟩
theorem Bytes.lt {w : World} {A : Option Addr} {n : Nat} {bs : List UInt8} (h : Bytes w A n bs) (h0 : n ≠ 0) : ∀ k, blkO A = some k → k < w.heap.size := by
  intro k hk
  rcases h.2.2 with e | ⟨b, o, rfl, hcell⟩
  · exact absurd e h0
  · obtain rfl : b = k := by simpa [blkO] using hk
    exact block_lt_of_cell (hcell 0 (by omega))
theorem own_cut {w : World} {B : Nat} {e : TypeId} {n c : Nat} {A : Option Addr} {bs : List UInt8} (h : w.ownsRow B e 1 (.slice A n c) n (bvals bs)) (k : Nat) (hk : k ≤ n) : w.ownsRow B e 1 (.slice A k c) k (bvals (bs.take k)) := by
  have hl : bs.length = n := by have := h.1; rwa [bvals_length, Nat.mul_one] at this
  refine ⟨by rw [bvals_length, List.length_take]; omega, ?_⟩
  rcases h.2 with ⟨h0, rfl⟩ | ⟨g, cap, cur, h0, hb, hg, hnc, hcm, hcs, ht⟩
  · obtain rfl : k = 0 := by omega
    injection h0 with h1 h2 h3
    subst h1; subst h3
    exact .inl ⟨rfl, rfl⟩
  · injection h0 with h1 h2 h3
    subst h1; subst h3
    refine .inr ⟨g, c, cur, rfl, hb, hg, by omega, hcm, hcs, ?_⟩
    have : bvals (bs.take k) = (bvals bs).take k := by simp [bvals, List.map_take]
    rw [this, ← ht, List.take_take]
    congr 1
    omega
theorem Bytes.drop {w : World} {b o n : Nat} {bs : List UInt8} (h : Bytes w (some ⟨b, o, none⟩) n bs) (k : Nat) (hk : k ≤ n) : Bytes w (some ⟨b, o + k, none⟩) (n - k) (bs.drop k) := by
  refine ⟨by rw [List.length_drop, h.1], by have := h.2.1; omega, ?_⟩
  rcases h.2.2 with h0 | ⟨b', o', hA, hcell⟩
  · exact .inl (by omega)
  · injection hA with hA
    injection hA with h1 h2
    subst h1; subst h2
    refine .inr ⟨b, o + k, rfl, fun j hj => ?_⟩
    rw [Nat.add_assoc, hcell (k + j) (by omega)]
    simp [List.getD_eq_getElem?_getD]
theorem Bytes.empty (w : World) (A : Option Addr) : Bytes w A 0 [] := ⟨rfl, by omega, .inl rfl⟩
end Go.Proofs.Ytodaplkijdjbpaa
