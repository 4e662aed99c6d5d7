/- Words for lists of whole numbers (int). -/
import Derived.Test.YtjgiiolamaimnaaWords
import Derived.Deep.Draws
namespace Go.Proofs.Ytjgiiolamaimnaa
open Go.RowKit
set_option linter.unusedVariables false
set_option linter.unusedSimpArgs false
/-- The n cells behind A hold these numbers. -/
def Ints (w : World) (A : Option Addr) (n : Nat) (zs : List Int) : Prop :=
  zs.length = n ∧ n ≤ 281474976710656 ∧ (n = 0 ∨ ∃ b o, A = some ⟨b, o, none⟩ ∧ ∀ j, j < n → w.cell? ⟨b, o + j, none⟩ = some (.int .i64 (zs.getD j 0)))
theorem Ints.at_ {w : World} {A : Option Addr} {n : Nat} {zs : List Int} (h : Ints w A n zs) (k : Nat) (hk : k < n) :
    ∃ b o, A = some ⟨b, o, none⟩ ∧ w.cell? ⟨b, o + k, none⟩ = some (.int .i64 (zs.getD k 0)) := by
  rcases h.2.2 with h0 | ⟨b, o, hA, hc⟩
  · omega
  · exact ⟨b, o, hA, hc k hk⟩
theorem Ints.below {w w1 : World} {A : Option Addr} {n : Nat} {zs : List Int} (h : Ints w A n zs) (hb : Below w.heap.size w w1) : Ints w1 A n zs := by
  refine ⟨h.1, h.2.1, ?_⟩
  rcases h.2.2 with h0 | ⟨b, o, hA, hc⟩
  · exact .inl h0
  · exact .inr ⟨b, o, hA, fun j hj => (hb.cell (p := ⟨b, o + j, none⟩) (block_lt_of_cell (hc j hj))).trans (hc j hj)⟩
def ivals (zs : List Int) : List Value := zs.map fun z => Value.int .i64 z
theorem ivals_length (zs : List Int) : (ivals zs).length = zs.length := by simp [ivals]
theorem ivals_append (ys zs : List Int) : ivals (ys ++ zs) = ivals ys ++ ivals zs := by simp [ivals]
theorem ivals_set (zs : List Int) (j : Nat) (z : Int) : (ivals zs).set j (.int .i64 z) = ivals (zs.set j z) := by simp [ivals]
theorem ivals_one (zs : List Int) : ∀ u ∈ ivals zs, u.oneCell' = true := by
  intro u hu
  obtain ⟨b, _, rfl⟩ := List.mem_map.1 hu
  rfl
theorem ivals_at (zs : List Int) (j : Nat) (h : j < zs.length) : (ivals zs)[j]? = some (.int .i64 (zs.getD j 0)) := by
  simp [ivals, List.getD_eq_getElem?_getD, h]
theorem Ints.rdc {w : World} {A : Option Addr} {n : Nat} {zs : List Int} (h : Ints w A n zs) : RdC w A (n * 1) (ivals zs) := by
  refine ⟨by rw [ivals_length, h.1, Nat.mul_one], fun j u hj => ?_⟩
  have hlt : j < zs.length := by have := (List.getElem?_eq_some_iff.1 hj).1; rwa [ivals_length] at this
  rw [ivals_at zs j hlt] at hj
  rcases h.2.2 with h0 | ⟨b, o, hA, hc⟩
  · have := h.1; omega
  · exact ⟨_, hA, by rw [add_plain, hc j (by rw [← h.1]; exact hlt)]; exact hj⟩
theorem own_ints {w : World} {B : Nat} {e : TypeId} {n c : Nat} {A : Option Addr} {zs : List Int} (h : w.ownsRow B e 1 (.slice A n c) n (ivals zs)) (hn : n ≤ 281474976710656) : Ints w A n zs := by
  have hl : zs.length = n := by have := h.1; rwa [ivals_length, Nat.mul_one] at this
  rcases h.2 with ⟨h0, rfl⟩ | ⟨g, cap, cur, h0, _⟩
  · exact ⟨hl, hn, .inl rfl⟩
  · injection h0 with h0 h1 h2
    subst h0
    refine ⟨hl, hn, .inr ⟨g, 0, rfl, fun j hj => ?_⟩⟩
    have := h.cells (g := g) rfl j _ (ivals_at zs j (by omega))
    rwa [add_plain] at this
theorem Ints.take {w : World} {A : Option Addr} {n : Nat} {zs : List Int} (h : Ints w A n zs) (k : Nat) (hk : k ≤ n) : Ints w A k (zs.take k) := by
  refine ⟨by rw [List.length_take, h.1]; omega, by have := h.2.1; omega, ?_⟩
  rcases h.2.2 with h0 | ⟨b, o, hA, hc⟩
  · exact .inl (by omega)
  · refine .inr ⟨b, o, hA, fun j hj => ?_⟩
    rw [hc j (by omega)]
    simp [List.getD_eq_getElem?_getD, hj]
/-- One draws nothing but orders. -/
theorem below_drews (w : World) (n : Nat) : Below w.heap.size w (w.drewN n) := ⟨rfl, rfl, rfl, Nat.le_refl _, fun _ _ => rfl⟩
/-- What a comparison of lists answers; some orders were drawn. -/
def SameRet (b : Bool) (w : World) (e : Ending) (w' : World) : Prop := e = .returned (.bool b) ∧ Below w.heap.size w w'
theorem list_eq_iff (ys zs : List Int) (h : ys.length = zs.length) : ys = zs ↔ ∀ i, i < ys.length → ys.getD i 0 = zs.getD i 0 := by
  constructor
  · rintro rfl i _; rfl
  · intro hi
    refine List.ext_getElem h fun i h1 h2 => ?_
    have := hi i h1
    simpa [List.getD_eq_getElem?_getD, h1, h2] using this
end Go.Proofs.Ytjgiiolamaimnaa
