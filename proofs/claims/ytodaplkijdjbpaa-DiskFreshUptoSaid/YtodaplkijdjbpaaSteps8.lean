/- What a script of steps reads as. -/
import Derived.Test.YtodaplkijdjbpaaRec1
import Derived.Test.YtodaplkijdjbpaaTold
namespace Go.Proofs.Ytodaplkijdjbpaa
open Go.RowKit
set_option linter.unusedVariables false
set_option linter.unusedSimpArgs false
/-- A fate's cells. -/
def IsFt (W : World) (cs : List Value) (f : Ft) : Prop := cs = [.int .i64 f.d, .int .i64 f.k, .int .u8 ((f.t.toNat : Nat) : Int)] ∧ f.ok
def fateFields (t : TypeId) (cs : List Value) : Prop := if t = 5 then IntOf .u8 cs else IntOf .i64 cs
theorem opn_fate (W : World) : Opn Try.prog W 55 (fun cs => ∃ f, IsFt W cs f) := by
  refine (opn_struct_list Try.underlying55 [(3, 0, 1), (3, 1, 1), (5, 2, 1)] (by kernel_rfl) (N := 3) (by kernel_rfl) fateFields ?_).imp ?_
  · intro x hx
    simp only [List.mem_cons, List.not_mem_nil, or_false] at hx
    rcases hx with rfl | rfl | rfl
    · exact opn_int Try.underlying3
    · exact opn_int Try.underlying3
    · exact opn_int Try.underlying5
  · rintro cs ⟨hl, hall⟩
    match cs, hl with
    | [v0, v1, v2], _ =>
      have g0 : IntOf .i64 [v0] := hall (3, 0, 1) (by simp)
      have g1 : IntOf .i64 [v1] := hall (3, 1, 1) (by simp)
      have g2 : IntOf .u8 [v2] := hall (5, 2, 1) (by simp)
      obtain ⟨n0, p0, w0⟩ := g0
      obtain ⟨n1, p1, w1⟩ := g1
      obtain ⟨n2, p2, w2⟩ := g2
      simp only [List.cons.injEq, and_true] at p0 p1 p2
      subst p0 p1 p2
      have b0 := bounds_i64 w0
      have b1 := bounds_i64 w1
      have b2 := bounds_u8 w2
      refine ⟨⟨n0, n1, UInt8.ofNat n2.toNat⟩, ?_, b0.1, b0.2, b1.1, b1.2⟩
      have e : (((UInt8.ofNat n2.toNat).toNat : Nat) : Int) = n2 := by rw [UInt8.toNat_ofNat']; omega
      simp only [e]
theorem ft_of_recs {W : World} {A : Option Addr} {n : Nat} {fs : List Ft} (h : RecS IsFt W 3 A n fs) : FtAt W A n fs := by
  refine ⟨h.1, ?_⟩
  rcases h.2 with h0 | ⟨b, o, hA, hc⟩
  · exact .inl h0
  · refine .inr ⟨b, o, hA, fun j hj => ?_⟩
    obtain ⟨cs, x, h1, h2, ⟨h3, h5⟩, h4⟩ := hc j hj
    have e : fs.getD j Ft.no = x := by rw [List.getD_eq_getElem?_getD, h1]; rfl
    subst h3
    rw [e]
    exact ⟨h4 0 _ rfl, h4 1 _ rfl, h4 2 _ rfl, h5⟩
theorem ft_agg {W : World} {cs : Array Value} {f : Ft} (h : IsFt W cs.toList f) : cs = #[.int .i64 f.d, .int .i64 f.k, .int .u8 ((f.t.toNat : Nat) : Int)] ∧ f.ok := by
  refine ⟨?_, h.2⟩
  cases cs
  simpa using h.1
/-- Fates among cells. -/
def FatesOf (W : World) (cs : List Value) : Prop := ∃ A n d fs, cs = [.slice A n d] ∧ FtAt W A n fs
theorem opn_fates (W : World) : Opn Try.prog W 24 (FatesOf W) := by
  refine (opn_slice Try.underlying24 (sz := 3) (by kernel_rfl) (B := 24) (by kernel_rfl) (by omega) (opn_fate W)).imp ?_
  intro cs h
  obtain ⟨A, l, c, xs, rfl, h1, h2, h3⟩ := SliceOf.recs h
  exact ⟨A, l, c, xs, rfl, ft_of_recs h3⟩
/-- A step's cells. -/
def IsPs (W : World) (cs : List Value) (s : Ps) : Prop :=
  ∃ C m c A n d, cs = [.int .i64 s.k, .int .i64 s.i, .int .i64 s.a, .int .i64 s.b, .slice C m c, .slice A n d] ∧ Bytes W C m s.p ∧ FtAt W A n s.f ∧ m ≤ c ∧ c ≤ 140737488351232 ∧ -9223372036854775808 ≤ s.b ∧ s.b ≤ 9223372036854775807 ∧ -9223372036854775808 ≤ s.i ∧ s.i ≤ 9223372036854775807 ∧ -9223372036854775808 ≤ s.k ∧ s.k ≤ 9223372036854775807 ∧ -9223372036854775808 ≤ s.a ∧ s.a ≤ 9223372036854775807
theorem IsPs.below {w w1 : World} (hb : Below w.heap.size w w1) (cs : List Value) (x : Ps) (h : IsPs w cs x) : IsPs w1 cs x := by
  obtain ⟨C, m, c, A, n, d, h1, h2, h3, h4⟩ := h
  exact ⟨C, m, c, A, n, d, h1, h2.below hb, h3.below hb, h4⟩
def stepFields (W : World) (t : TypeId) (cs : List Value) : Prop := if t = 30 then BytesOf W cs else if t = 24 then FatesOf W cs else IntOf .i64 cs
theorem opn_step (W : World) : Opn Try.prog W 33 (fun cs => ∃ x, IsPs W cs x) := by
  refine (opn_struct_list Try.underlying33 [(3, 0, 1), (3, 1, 1), (3, 2, 1), (3, 3, 1), (30, 4, 1), (24, 5, 1)] (by kernel_rfl) (N := 6) (by kernel_rfl) (stepFields W) ?_).imp ?_
  · intro x hx
    simp only [List.mem_cons, List.not_mem_nil, or_false] at hx
    rcases hx with rfl | rfl | rfl | rfl | rfl | rfl
    · exact opn_int Try.underlying3
    · exact opn_int Try.underlying3
    · exact opn_int Try.underlying3
    · exact opn_int Try.underlying3
    · exact opn_bytes Try.underlying30 Try.underlying5 (by kernel_rfl) (by kernel_rfl)
    · exact opn_fates W
  · rintro cs ⟨hl, hall⟩
    match cs, hl with
    | [v0, v1, v2, v3, v4, v5], _ =>
      have g0 : IntOf .i64 [v0] := hall (3, 0, 1) (by simp)
      have g1 : IntOf .i64 [v1] := hall (3, 1, 1) (by simp)
      have g2 : IntOf .i64 [v2] := hall (3, 2, 1) (by simp)
      have g3 : IntOf .i64 [v3] := hall (3, 3, 1) (by simp)
      have g4 : BytesOf W [v4] := hall (30, 4, 1) (by simp)
      have g5 : FatesOf W [v5] := hall (24, 5, 1) (by simp)
      obtain ⟨n0, p0, w0⟩ := g0
      obtain ⟨n1, p1, w1⟩ := g1
      obtain ⟨n2, p2, w2⟩ := g2
      obtain ⟨n3, p3, w3⟩ := g3
      obtain ⟨C, m, c, bs, p4, q1, q2, q3⟩ := g4
      obtain ⟨A, n, d, fs, p5, q4⟩ := g5
      simp only [List.cons.injEq, and_true] at p0 p1 p2 p3 p4 p5
      subst p0 p1 p2 p3 p4 p5
      have b0 := bounds_i64 w0
      have b1 := bounds_i64 w1
      have b2 := bounds_i64 w2
      have b3 := bounds_i64 w3
      exact ⟨⟨n0, n1, n2, n3, bs, fs⟩, C, m, c, A, n, d, rfl, q3, q4, q1, q2, b3.1, b3.2, b1.1, b1.2, b0.1, b0.2, b2.1, b2.2⟩
/-- A script of steps in memory. -/
abbrev Script (W : World) (A : Option Addr) (n : Nat) (ss : List Ps) : Prop := RecS IsPs W 6 A n ss
theorem Script.below {w w1 : World} {A : Option Addr} {n : Nat} {ss : List Ps} (h : Script w A n ss) (hb : Below w.heap.size w w1) : Script w1 A n ss := RecS.below h hb (IsPs.below hb)
theorem FtAt.lt {w : World} {A : Option Addr} {n : Nat} {fs : List Ft} (h : FtAt w A n fs) (hn : fs ≠ []) : ∀ k, blkO A = some k → k < w.heap.size := by
  intro k hk
  rcases h.2 with h0 | ⟨b, o, rfl, hc⟩
  · exact absurd (List.eq_nil_of_length_eq_zero (by rw [h.1, h0])) hn
  · have h1 : n ≠ 0 := fun e => hn (List.eq_nil_of_length_eq_zero (by rw [h.1, e]))
    have := block_lt_of_cell (hc 0 (by omega)).1
    injection hk with hk
    simp only at hk this
    omega
/-- One step of a script that was there before the call. -/
theorem Script.at_ {w0 w : World} {A : Option Addr} {n : Nat} {ss : List Ps} (h : Script w0 A n ss) (hb : Below w0.heap.size w0 w) (k : Nat) (hk : k < n) :
    ∃ b o s C m c F l d, A = some ⟨b, o, none⟩ ∧ ss[k]? = some s ∧ w.cell? ⟨b, o + k * 6, none⟩ = some (.int .i64 s.k) ∧ w.cell? ⟨b, o + k * 6 + 1, none⟩ = some (.int .i64 s.i) ∧ w.cell? ⟨b, o + k * 6 + 2, none⟩ = some (.int .i64 s.a) ∧
      w.cell? ⟨b, o + k * 6 + 3, none⟩ = some (.int .i64 s.b) ∧ w.cell? ⟨b, o + k * 6 + 4, none⟩ = some (.slice C m c) ∧ w.cell? ⟨b, o + k * 6 + 5, none⟩ = some (.slice F l d) ∧
      PsAt w (.agg #[.int .i64 s.k, .int .i64 s.i, .int .i64 s.a, .int .i64 s.b, .slice C m c, .slice F l d]) s F ∧ s.p.length = m ∧ (s.f ≠ [] → ∀ q, blkO F = some q → q < w0.heap.size) ∧ m ≤ 140737488351232 := by
  obtain ⟨b, o, cs, s, hA, hs, hl, ⟨C, m, c, F, l, d, rfl, h2, h3, h4⟩, hc⟩ := RecS.at_ h k hk
  have mv : ∀ j u, [Value.int .i64 s.k, .int .i64 s.i, .int .i64 s.a, .int .i64 s.b, .slice C m c, .slice F l d][j]? = some u → w.cell? ⟨b, o + k * 6 + j, none⟩ = some u := fun j u hj => (hb.cell (p := ⟨b, o + k * 6 + j, none⟩) (block_lt_of_cell (hc j u hj))).trans (hc j u hj)
  exact ⟨b, o, s, C, m, c, F, l, d, hA, hs, mv 0 _ rfl, mv 1 _ rfl, mv 2 _ rfl, mv 3 _ rfl, mv 4 _ rfl, mv 5 _ rfl, ⟨⟨C, m, c, l, d, rfl, h2.below hb, h3.below hb⟩, h4.2.2.1, h4.2.2.2.1⟩, h2.1, fun hn => h3.lt hn, by have := h4.1; have := h4.2.1; omega⟩
/-- How much the first k steps come to, each counted as one more. -/
def wrN (ops : List Ps) (k : Nat) : Nat := ((ops.take k).map fun o => o.p.length + 1).sum
theorem wrN_zero (ops : List Ps) : wrN ops 0 = 0 := rfl
theorem wrN_succ (ops : List Ps) (k : Nat) (x : Ps) (h : ops[k]? = some x) : wrN ops (k + 1) = wrN ops k + (x.p.length + 1) := by
  obtain ⟨hk, rfl⟩ := List.getElem?_eq_some_iff.1 h
  unfold wrN
  rw [List.take_succ_eq_append_getElem hk, List.map_append, List.sum_append]
  rfl
theorem wrN_mono (ops : List Ps) (k n : Nat) (hk : k ≤ n) (hn : n ≤ ops.length) : wrN ops k ≤ wrN ops n := by
  induction n with
  | zero => obtain rfl : k = 0 := by omega
            exact Nat.le_refl _
  | succ n ih =>
    by_cases e : k = n + 1
    · subst e; exact Nat.le_refl _
    · rw [wrN_succ ops n _ (List.getElem?_eq_getElem (by omega))]
      have := ih (by omega) (by omega)
      omega
theorem wrN_ge (ops : List Ps) (k : Nat) (hk : k ≤ ops.length) : k ≤ wrN ops k := by
  induction k with
  | zero => exact Nat.zero_le _
  | succ k ih =>
    rw [wrN_succ ops k _ (List.getElem?_eq_getElem (by omega))]
    have := ih (by omega)
    omega
end Go.Proofs.Ytodaplkijdjbpaa
