/- What a call answers; steps. -/
import Derived.Test.YtodaplkijdjbpaaMethD
import Derived.Test.YtodaplkijdjbpaaDiskR
import Derived.Test.YtodaplkijdjbpaaImage
import Derived.Test.YtodaplkijdjbpaaLoad
namespace Go.Proofs.Ytodaplkijdjbpaa
open Go.RowKit
set_option linter.unusedVariables false
set_option linter.unusedSimpArgs false
/-- A step. -/
structure Ps where
  k : Int
  i : Int
  a : Int
  b : Int
  p : List UInt8
  f : List Ft
/-- An answer. -/
structure Td where
  e : Int
  x : Int
  y : Int
  z : Int
  p : List UInt8
  s : List (Int × List UInt8)
def Td.no : Td := ⟨0, 0, 0, 0, [], []⟩
/-- An answer in memory. -/
def TdAt (w : World) (v : Value) (t : Td) : Prop :=
  ∃ A m c B n d, v = .agg #[.int .i64 t.e, .int .i64 t.x, .int .i64 t.y, .int .i64 t.z, .slice A m c, .slice B n d] ∧ Bytes w A m t.p ∧ SpAt w B n t.s
theorem TdAt.below {w w1 : World} {v : Value} {t : Td} (h : TdAt w v t) (hb : Below w.heap.size w w1) : TdAt w1 v t := by
  obtain ⟨A, m, c, B, n, d, e, h1, h2⟩ := h
  exact ⟨A, m, c, B, n, d, e, h1.below hb, h2.below hb⟩
/-- The disk behind a step. -/
def Pd.step (P : Pd) (s : Ps) : Pd :=
  if s.k = 0 then (P.op s.i (Pa.append s.p)).1 else if s.k = 1 then (P.op s.i Pa.sync).1 else if s.k = 2 then (P.op s.i (Pa.cut s.a)).1 else if s.k = 3 then (P.op s.i (Pa.trim s.a)).1 else
  if s.k = 7 then P.arm s.f true else if s.k = 8 then P.strike else P
/-- What it answers. -/
def Pd.told (P : Pd) (s : Ps) : Td :=
  if s.k = 0 then { Td.no with e := (P.op s.i (Pa.append s.p)).2 } else if s.k = 1 then { Td.no with e := (P.op s.i Pa.sync).2 } else if s.k = 2 then { Td.no with e := (P.op s.i (Pa.cut s.a)).2 } else if s.k = 3 then { Td.no with e := (P.op s.i (Pa.trim s.a)).2 } else
  if s.k = 4 then { Td.no with e := (P.read s.i s.a s.b).2, p := (P.read s.i s.a s.b).1 } else
  if s.k = 5 then ⟨(P.bounds s.i).2.2.2, (P.bounds s.i).1, (P.bounds s.i).2.1, (P.bounds s.i).2.2.1, [], []⟩ else
  if s.k = 6 then { Td.no with x := P.dones s.i } else if s.k = 9 then { Td.no with s := P.image } else if s.k = 10 then { Td.no with x := (P.n : Int) } else Td.no
/-- A step in memory. -/
structure PsAt (w : World) (v : Value) (s : Ps) (A : Option Addr) : Prop where
  ex : ∃ C m c n d, v = .agg #[.int .i64 s.k, .int .i64 s.i, .int .i64 s.a, .int .i64 s.b, .slice C m c, .slice A n d] ∧ Bytes w C m s.p ∧ FtAt w A n s.f
  b0 : -9223372036854775808 ≤ s.b
  b1 : s.b ≤ 9223372036854775807
theorem PsAt.below {w w1 : World} {v : Value} {s : Ps} {A : Option Addr} (h : PsAt w v s A) (hb : Below w.heap.size w w1) : PsAt w1 v s A := by
  obtain ⟨⟨C, m, c, n, d, e, h1, h2⟩, b0, b1⟩ := h
  exact ⟨⟨C, m, c, n, d, e, h1.below hb, h2.below hb⟩, b0, b1⟩
theorem SpAt.nil (w : World) (A : Option Addr) : SpAt w A 0 [] := ⟨rfl, .inl rfl⟩
theorem spv_at (qs : List (Int × Rw)) (j : Nat) (hj : j < qs.length) (q0 : Int × Rw) : (spv qs)[j * 2]? = some (.int .i64 (qs.getD j q0).1) ∧ (spv qs)[j * 2 + 1]? = some (qs.getD j q0).2.val := by
  induction qs generalizing j with
  | nil => simp at hj
  | cons q qs ih =>
    cases j with
    | zero => exact ⟨rfl, rfl⟩
    | succ j =>
      have h := ih j (by simpa using hj)
      have e : spv (q :: qs) = [.int .i64 q.1, q.2.val] ++ spv qs := by simp [spv]
      rw [e]
      refine ⟨?_, ?_⟩
      · rw [List.getElem?_append_right (by simp; omega)]
        simp only [List.length_cons, List.length_nil, List.getD_cons_succ]
        rw [show (j + 1) * 2 - (0 + 1 + 1) = j * 2 by omega]
        exact h.1
      · rw [List.getElem?_append_right (by simp; omega)]
        simp only [List.length_cons, List.length_nil, List.getD_cons_succ]
        rw [show (j + 1) * 2 + 1 - (0 + 1 + 1) = j * 2 + 1 by omega]
        exact h.2
/-- New spans are spans. -/
theorem Spans.at_ {w : World} {B n c : Nat} {A : Option Addr} {qs : List (Int × Rw)} (h : Spans w B A n c qs) (hl : ∀ q ∈ qs, q.2.n ≤ 281474976710656) : SpAt w A n (qs.map fun q => (q.1, q.2.bs)) := by
  refine ⟨by rw [List.length_map]; exact h.len, ?_⟩
  by_cases h0 : n = 0
  · exact .inl h0
  · refine .inr ?_
    rcases h.row.2 with ⟨_, e⟩ | ⟨g, cap, cur, hv, _, _⟩
    · exact absurd e h0
    · injection hv with e1
      subst e1
      refine ⟨g, 0, rfl, fun j hj => ?_⟩
      have hj' : j < qs.length := by rw [h.len]; exact hj
      have hlen := h.row.1
      have e2 := spv_at qs j hj' (0, ⟨none, 0, 0, []⟩)
      have em : (qs.map fun q => (q.1, q.2.bs)).getD j (0, []) = ((qs.getD j (0, ⟨none, 0, 0, []⟩)).1, (qs.getD j (0, ⟨none, 0, 0, []⟩)).2.bs) := by
        simp [List.getD_eq_getElem?_getD, hj']
      rw [em]
      have hmem : qs.getD j (0, ⟨none, 0, 0, []⟩) ∈ qs := by
        rw [List.getD_eq_getElem?_getD, List.getElem?_eq_getElem hj']
        exact List.getElem_mem hj'
      refine ⟨?_, (qs.getD j (0, ⟨none, 0, 0, []⟩)).2.A, (qs.getD j (0, ⟨none, 0, 0, []⟩)).2.n, (qs.getD j (0, ⟨none, 0, 0, []⟩)).2.c, ?_, ?_, ?_⟩
      · have := h.row.cellAt (j * 2) (by omega)
        rw [Nat.zero_add]; exact this.trans e2.1
      · have := h.row.cellAt (j * 2 + 1) (by omega)
        rw [Nat.zero_add]; exact this.trans e2.2
      · exact own_bytes' (h.sep.own _ (by rw [List.mem_reverse]; exact List.mem_map_of_mem hmem)) (hl _ hmem)
      · exact own_cap8 (h.sep.own _ (by rw [List.mem_reverse]; exact List.mem_map_of_mem hmem))
theorem results_row1 {P : Program} {fn : Func} {p : Tmp} {ty : TypeId} (h : fn.results = #[.cell p ty]) (tmps : Array Value) (w : World) (g : Nat) (t : TypeId) (cs : Array Value) (fr : Nat × Nat) (d : TypeDesc)
    (hp : tmps.getD p undef = .pointer (some ⟨g, 0, none⟩)) (hg : w.heap[g]? = some (.cells cs t fr))
    (hu : P.underlying ty = some d) (hd : (match d with | .struct _ | .array _ _ => true | _ => false) = true) (hi : (P.info? ty).map (·.size) = some cs.size) :
    (results fn tmps).run P w = .ok (.agg cs) w := by
  have hp' : tmps[p]?.getD undef = .pointer (some ⟨g, 0, none⟩) := by simpa using hp
  simp [results, h, hp', asAddr, run_loadVar_row w g t ty cs fr d hg hu hd hi, Sem.run_bind, Result.andThen]
theorem DAt.off {w : World} {G pb K : Nat} {ls : Nat → Loc} {P : Pd} (h : DAt w G pb ls P K) {q : Nat} {cs : Array Value} {t : TypeId} (hb : Blk w q cs t) (h1 : 83 ≠ t) (h2 : 87 ≠ t) (h3 : 116 ≠ t) (h4 : 5 ≠ t) : ¬ dF G pb ls P.n q := by
  rintro (e | e | ⟨j, hj, e⟩)
  · exact blk_type h.hd hb h1 e.symm
  · obtain ⟨cs, hb2, _⟩ := h.ps
    exact blk_type hb2 hb h2 e.symm
  · exact (h.ar j hj).off hb h3 h4 e
/-- Other blocks change behind an operation. -/
theorem DTo.more {w w1 w2 : World} {G pb K n : Nat} {ls : Nat → Loc} {P : Pd} {F : Nat → Prop} (h : DTo w G pb ls P K w1 n) (hc : Chg F w1 w2) (hF : ∀ k, F k → w.heap.size ≤ k) (hB : ∀ k, F k → ∃ cs t, Blk w1 k cs t ∧ 83 ≠ t ∧ 87 ≠ t ∧ 116 ≠ t ∧ 5 ≠ t) : DTo w G pb ls P K w2 n := by
  obtain ⟨l2, hd, hc1, hk⟩ := h
  exact ⟨l2, hd.chg hc (fun k e e2 => by obtain ⟨cs, t, hb, h1, h2, h3, h4⟩ := hB k e2; exact hd.off hb h1 h2 h3 h4 e), hc1.trans hc (fun k e => .inr (hF k e)), hk⟩
theorem DTo.blk {w w1 : World} {G pb K L : Nat} {ls : Nat → Loc} {P Q : Pd} (h : DTo w G pb ls Q L w1 P.n) (hd : DAt w G pb ls P K) {q : Nat} {cs : Array Value} {t : TypeId} (hb : Blk w q cs t) (h1 : 83 ≠ t) (h2 : 87 ≠ t) (h3 : 116 ≠ t) (h4 : 5 ≠ t) : Blk w1 q cs t := by
  obtain ⟨l2, _, hc, _⟩ := h
  exact hb.chg hc (hd.off hb h1 h2 h3 h4)
/-- The cells of an answer's variable. -/
theorem six_cells {w : World} {q : Nat} {a b c d e f : Value} {t : TypeId} (h : Blk w q #[a, b, c, d, e, f] t) :
    w.cell? ⟨q, 0, none⟩ = some a ∧ w.cell? ⟨q, 1, none⟩ = some b ∧ w.cell? ⟨q, 2, none⟩ = some c ∧ w.cell? ⟨q, 3, none⟩ = some d ∧ w.cell? ⟨q, 4, none⟩ = some e ∧ w.cell? ⟨q, 5, none⟩ = some f ∧ ∀ j, w.frozen? ⟨q, j, none⟩ = false :=
  ⟨h.cell 0, h.cell 1, h.cell 2, h.cell 3, h.cell 4, h.cell 5, h.frozen⟩
theorem diskDone_b {w : World} {G pb K : Nat} {ls : Nat → Loc} {P : Pd} (h : DAt w G pb ls P K) (i : Int) :
    Calls Try.prog 36 #[.pointer (some ⟨G, 0, none⟩), .int .i64 i] w fun e w' => e = .returned (.int .i64 (P.dones i)) ∧ Below w.heap.size w w' :=
  (diskDone_any h i).mono (fun e w' hh => ⟨hh.1, hh.2 ▸ Below.refl _ _⟩)
theorem diskAreas_b {w : World} {G pb K : Nat} {ls : Nat → Loc} {P : Pd} (h : DAt w G pb ls P K) :
    Calls Try.prog 41 #[.pointer (some ⟨G, 0, none⟩)] w fun e w' => e = .returned (.int .i64 (P.n : Nat)) ∧ Below w.heap.size w w' :=
  (diskAreas_any h).mono (fun e w' hh => ⟨hh.1, hh.2 ▸ Below.refl _ _⟩)
/-- The result's variable is written. -/
theorem call_fin {wm wn : World} {q2 q3 : Nat} {z0 z1 z2 z3 z4 z5 a b c d e f : Value} {t : TypeId} (h2 : Blk wm q2 #[z0, z1, z2, z3, z4, z5] t) (hc : Chg (fun q => q = q3) wm wn) (hne : q2 ≠ q3) :
    Blk ((((((wn.setCell ⟨q2, 0, none⟩ a).setCell ⟨q2, 1, none⟩ b).setCell ⟨q2, 2, none⟩ c).setCell ⟨q2, 3, none⟩ d).setCell ⟨q2, 4, none⟩ e).setCell ⟨q2, 5, none⟩ f) q2 #[a, b, c, d, e, f] t ∧
    Chg (fun q => q = q2 ∨ q = q3) wm ((((((wn.setCell ⟨q2, 0, none⟩ a).setCell ⟨q2, 1, none⟩ b).setCell ⟨q2, 2, none⟩ c).setCell ⟨q2, 3, none⟩ d).setCell ⟨q2, 4, none⟩ e).setCell ⟨q2, 5, none⟩ f) := by
  refine ⟨((((((h2.chg hc hne).set 0 a).set 1 b).set 2 c).set 3 d).set 4 e).set 5 f, ?_⟩
  refine (hc.mono (fun q e => .inr e) : Chg (fun q => q = q2 ∨ q = q3) wm wn).trans (F1 := fun q => q = q2) ?_ (fun q e => .inl (.inl e))
  exact Chg.set (F := fun q => q = q2) (Chg.set (F := fun q => q = q2) (Chg.set (F := fun q => q = q2) (Chg.set (F := fun q => q = q2) (Chg.set (F := fun q => q = q2) (Chg.set (F := fun q => q = q2) (Chg.refl _ _) (.inl rfl) _ _) (.inl rfl) _ _) (.inl rfl) _ _) (.inl rfl) _ _) (.inl rfl) _ _) (.inl rfl) _ _
theorem DTo.mono {w w1 : World} {G pb K L n : Nat} {ls : Nat → Loc} {P : Pd} (h : DTo w G pb ls P K w1 n) (hk : K ≤ L) : DTo w G pb ls P L w1 n := by
  obtain ⟨l2, hd, hc, hq⟩ := h
  exact ⟨l2, hd.mono hk, hc, hq⟩
theorem read_len {w : World} {G pb K : Nat} {ls : Nat → Loc} {P : Pd} (h : DAt w G pb ls P K) (i a b : Int) : (P.read i a b).1.length ≤ 140737488355328 + K := by
  unfold Pd.read
  split
  · simp
  · rename_i hi
    split
    · simp
    · have := (h.lim.a i.toNat (by omega)).n
      simp only [List.length_take, List.length_drop]
      omega
theorem Spans.chg {F : Nat → Prop} {w w1 : World} {B n c : Nat} {A : Option Addr} {qs : List (Int × Rw)} (h : Spans w B A n c qs) (hc : Chg F w w1) (hF : ∀ k, F k → ∃ cs t, Blk w k cs t ∧ 44 ≠ t ∧ 5 ≠ t) : Spans w1 B A n c qs :=
  ⟨h.len, own_chg h.row hc (fun k e e2 => by obtain ⟨cs, t, hb, h1, _⟩ := hF k e2; exact own_not_blk7 h.row hb h1 e), h.sep.chg hc (fun r hr k e e2 => by obtain ⟨cs, t, hb, _, h2⟩ := hF k e2; exact own_not_blk7 (h.sep.own r hr) hb h2 (by rw [ownBlock_slice]; exact e))⟩
theorem image_len {w wm : World} {G pb K n c B : Nat} {ls : Nat → Loc} {P : Pd} {A : Option Addr} {qs : List (Int × Rw)} (h : DAt w G pb ls P K) (hS : Spans wm B A n c qs) (hq : qs.map (fun q => (q.1, q.2.bs)) = P.image) (hK : K ≤ 4294967296) (q : Int × Rw) (hm : q ∈ qs) : q.2.n ≤ 281474976710656 := by
  have ho := (hS.sep.own q.2 (by rw [List.mem_reverse]; exact List.mem_map_of_mem hm)).1
  simp only [bvals_length, Nat.mul_one] at ho
  have h2 : (q.1, q.2.bs) ∈ P.image := by rw [← hq]; exact List.mem_map_of_mem (f := fun q => (q.1, q.2.bs)) hm
  simp only [Pd.image, Pd.imageK, List.mem_map, List.mem_range] at h2
  obtain ⟨j, hj, e⟩ := h2
  injection e with e1 e2
  have h3 := (h.lim.a j hj).n
  rw [← ho, ← e2, List.length_take]
  omega
end Go.Proofs.Ytodaplkijdjbpaa
