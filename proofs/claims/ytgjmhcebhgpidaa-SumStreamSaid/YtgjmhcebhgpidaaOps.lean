/- The law SumStream: what its script reads as; three streams and what was written to each. -/
import Derived.Test.YtgjmhcebhgpidaaHead
import Derived.Test.YtgjmhcebhgpidaaStream
import Derived.Test.YtgjmhcebhgpidaaOpen
namespace Go.Proofs.Ytgjmhcebhgpidaa
open Go.RowKit
/-- One call of a stream. -/
structure OpR where
  kind : Int
  who : Int
  b : List UInt8
/-- Its cells. -/
def IsOp (W : World) (cs : List Value) (x : OpR) : Prop :=
  ∃ A l c, cs = [.int .i64 x.kind, .int .i64 x.who, .slice A l c] ∧ l ≤ c ∧ c ≤ 140737488351232 ∧ Bytes W A l x.b ∧ -9223372036854775808 ≤ x.kind ∧ x.kind ≤ 9223372036854775807 ∧ -9223372036854775808 ≤ x.who ∧ x.who ≤ 9223372036854775807
theorem IsOp.below {w w1 : World} (hb : Below w.heap.size w w1) (cs : List Value) (x : OpR) (h : IsOp w cs x) : IsOp w1 cs x := by
  obtain ⟨A, l, c, h1, h2, h3, h4, h5⟩ := h
  exact ⟨A, l, c, h1, h2, h3, h4.below hb, h5⟩
def opFields (W : World) (t : TypeId) (cs : List Value) : Prop := if t = 22 then BytesOf W cs else IntOf .i64 cs
theorem opn_op (W : World) : Opn Try.prog W 51 (fun cs => ∃ x, IsOp W cs x) := by
  refine (opn_struct_list Try.underlying51 [(3, 0, 1), (3, 1, 1), (22, 2, 1)] (by kernel_rfl) (N := 3) (by kernel_rfl) (opFields W) ?_).imp ?_
  · intro x hx
    simp only [List.mem_cons, List.not_mem_nil, or_false] at hx
    rcases hx with rfl | rfl | rfl
    · exact opn_int Try.underlying3
    · exact opn_int Try.underlying3
    · exact opn_bytes Try.underlying22 Try.underlying5 (by kernel_rfl) (by kernel_rfl)
  · rintro cs ⟨hl, hall⟩
    match cs, hl with
    | [v0, v1, v2], _ =>
      have g0 : IntOf .i64 [v0] := hall (3, 0, 1) (by simp)
      have g1 : IntOf .i64 [v1] := hall (3, 1, 1) (by simp)
      have g2 : BytesOf W [v2] := hall (22, 2, 1) (by simp)
      obtain ⟨n0, p0, w0⟩ := g0
      obtain ⟨n1, p1, w1⟩ := g1
      obtain ⟨A, l, c, bs, p2, q1, q2, q3⟩ := g2
      simp only [List.cons.injEq, and_true] at p0 p1 p2
      subst p0 p1 p2
      have b0 := bounds_i64 w0
      have b1 := bounds_i64 w1
      exact ⟨⟨n0, n1, bs⟩, A, l, c, rfl, q1, q2, q3, b0.1, b0.2, b1.1, b1.2⟩

/-- How much the first k steps come to, each counted as one more. -/
def wrN (ops : List OpR) (k : Nat) : Nat := ((ops.take k).map fun o => o.b.length + 1).sum
theorem wrN_succ (ops : List OpR) (k : Nat) (x : OpR) (h : ops[k]? = some x) : wrN ops (k + 1) = wrN ops k + (x.b.length + 1) := by
  obtain ⟨hk, rfl⟩ := List.getElem?_eq_some_iff.1 h
  unfold wrN
  rw [List.take_succ_eq_append_getElem hk, List.map_append, List.sum_append]
  rfl
theorem wrN_mono (ops : List OpR) (k n : Nat) (hk : k ≤ n) (hn : n ≤ ops.length) : wrN ops k ≤ wrN ops n := by
  induction n with
  | zero => obtain rfl : k = 0 := by omega
            exact Nat.le_refl _
  | succ n ih =>
    by_cases e : k = n + 1
    · subst e; exact Nat.le_refl _
    · rw [wrN_succ ops n _ (List.getElem?_eq_getElem (by omega))]
      have := ih (by omega) (by omega)
      omega
def WrRet (ops : List OpR) (w : World) (e : Ending) (w' : World) : Prop := ∃ b, e = .returned (.bool b) ∧ Below w.heap.size w w' ∧ (b = false → wrN ops ops.length ≤ 1073741824)
set_option maxHeartbeats 400000 in
theorem written_any (A : Option Addr) (n c : Nat) (ops : List OpR) (w : World) (h : RecS IsOp w 3 A n ops) (hn : n ≤ 140737488351232) :
    Calls Try.prog 23 #[.slice A n c] w (WrRet ops w) := by
  have hl := Lib.hid h.1
  go_enter Try.func23, Try.ntmps23
  go_wp2
  go_loopw [3, 8] (fun s i wr => ∃ k m : Nat, k ≤ n ∧ i = .int .i64 k ∧ s = .int .i64 m ∧ m = wrN ops k ∧ m ≤ 1073741824 ∧ Below w.heap.size w wr) (fun _ i _ => n - (intOf i).toNat)
  case atStart => exact ⟨0, 0, by omega, rfl, rfl, rfl, by omega, Below.refl _ _⟩
  case round =>
    obtain ⟨k, m, hk, rfl, rfl, hm, hm2, hB⟩ := hrel
    have HM := Lib.hid hm
    clear hm
    by_cases hlt : k < n
    · obtain ⟨b, o, cs, x, rfl, hx, _, ⟨A', l, c', rfl, hlc, hcc, hb, k0, k1, w0, w1⟩, hc⟩ := h.at_ k hlt
      have q0 := hc 0 _ rfl
      have q1 := hc 1 _ rfl
      have q2 := hc 2 _ rfl
      have r0 := (hB.cell (p := ⟨b, o + k * 3 + 0, none⟩) (block_lt_of_cell q0)).trans q0
      have r1 := (hB.cell (p := ⟨b, o + k * 3 + 1, none⟩) (block_lt_of_cell q1)).trans q1
      have r2 := (hB.cell (p := ⟨b, o + k * 3 + 2, none⟩) (block_lt_of_cell q2)).trans q2
      rw [Nat.add_zero] at r0
      have HL := Lib.hid hb.1
      have HX := Lib.hid hx
      clear q0 q1 q2 hc hx
      go_wp2
      · go_ret
        exact ⟨true, rfl, hB.alloc hB.size _, fun h => by cases h⟩
      · go_roundw
        case rel => exact ⟨k + 1, m + (1 + l), by omega, by go_num, by go_num, by rw [wrN_succ _ _ _ HX.out, ← HM.out, HL.out]; omega, by omega, hB.alloc hB.size _⟩
        case measure => simp [intOf]; omega
    · obtain rfl : k = n := by omega
      go_wp2
      go_ret
      exact ⟨false, rfl, hB, fun _ => by rw [hl.out, ← HM.out]; exact hm2⟩
end Go.Proofs.Ytgjmhcebhgpidaa
