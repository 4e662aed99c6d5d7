/- What the document answers to a step: words for it. -/
import Derived.Test.YtodaplkijdjbpaaRefI
import Derived.Test.YtodaplkijdjbpaaRefS
import Derived.Test.YtodaplkijdjbpaaRefOAppend
import Derived.Test.YtodaplkijdjbpaaRefOSync
import Derived.Test.YtodaplkijdjbpaaRefOCut
import Derived.Test.YtodaplkijdjbpaaRefOTrim
namespace Go.Proofs.Ytodaplkijdjbpaa
open Go.RowKit
set_option linter.unusedVariables false
set_option linter.unusedSimpArgs false
/-- Spans in blocks of F. -/
def SpF (F : Nat → Prop) (w : World) (A : Option Addr) (n : Nat) (l : List (Int × List UInt8)) : Prop :=
  l.length = n ∧ (n = 0 ∨ ∃ b o, A = some ⟨b, o, none⟩ ∧ F b ∧ ∀ j, j < n → w.cell? ⟨b, o + j * 2, none⟩ = some (.int .i64 (l.getD j (0, [])).1) ∧
    ∃ A' m c', w.cell? ⟨b, o + j * 2 + 1, none⟩ = some (.slice A' m c') ∧ Out F w A' m (l.getD j (0, [])).2 ∧ m ≤ c')
section
variable {F F' : Nat → Prop} {w w1 : World} {A : Option Addr} {n : Nat} {l : List (Int × List UInt8)}
theorem SpF.nil (F : Nat → Prop) (w : World) (A : Option Addr) : SpF F w A 0 [] := ⟨rfl, .inl rfl⟩
theorem SpF.at_ (h : SpF F w A n l) : SpAt w A n l := by
  refine ⟨h.1, ?_⟩
  rcases h.2 with h0 | ⟨b, o, h1, _, h2⟩
  · exact .inl h0
  · refine .inr ⟨b, o, h1, fun j hj => ?_⟩
    obtain ⟨k1, A', m, c', k2, k3, k4⟩ := h2 j hj
    exact ⟨k1, A', m, c', k2, k3.1, k4⟩
theorem SpF.chg (h : SpF F w A n l) (hc : Chg (fun k => ¬ F k) w w1) : SpF F w1 A n l := by
  refine ⟨h.1, ?_⟩
  rcases h.2 with h0 | ⟨b, o, h1, hF, h2⟩
  · exact .inl h0
  · refine .inr ⟨b, o, h1, hF, fun j hj => ?_⟩
    obtain ⟨k1, A', m, c', k2, k3, k4⟩ := h2 j hj
    exact ⟨hc.cell k1 (fun e => e hF), A', m, c', hc.cell k2 (fun e => e hF), k3.chg hc, k4⟩
theorem SpF.mono (h : SpF F w A n l) (hs : ∀ k, F k → F' k) : SpF F' w A n l := by
  refine ⟨h.1, ?_⟩
  rcases h.2 with h0 | ⟨b, o, h1, hF, h2⟩
  · exact .inl h0
  · refine .inr ⟨b, o, h1, hs b hF, fun j hj => ?_⟩
    obtain ⟨k1, A', m, c', k2, k3, k4⟩ := h2 j hj
    exact ⟨k1, A', m, c', k2, k3.mono hs, k4⟩
/-- New spans. -/
theorem Spans.inF {B c : Nat} {qs : List (Int × Rw)} (h : Spans w B A n c qs) (hl : ∀ q ∈ qs, q.2.n ≤ 281474976710656) (hF : ∀ k, B ≤ k ∧ k < w.heap.size → F k) : SpF F w A n (qs.map fun q => (q.1, q.2.bs)) := by
  refine ⟨by rw [List.length_map]; exact h.len, ?_⟩
  by_cases h0 : n = 0
  · exact .inl h0
  · refine .inr ?_
    rcases h.row.2 with ⟨_, e⟩ | ⟨g, cap, cur, hv, _, _⟩
    · exact absurd e h0
    · have hFg : ∀ k, Value.ownBlock (.slice A n c) = some k → F k := fun k e => hF k (h.row.lt k e)
      injection hv with e1
      subst e1
      refine ⟨g, 0, rfl, hFg g rfl, fun j hj => ?_⟩
      have hj' : j < qs.length := by rw [h.len]; exact hj
      have hlen := h.row.1
      have e2 := spv_at qs j hj' (0, ⟨none, 0, 0, []⟩)
      have em : (qs.map fun q => (q.1, q.2.bs)).getD j (0, []) = ((qs.getD j (0, ⟨none, 0, 0, []⟩)).1, (qs.getD j (0, ⟨none, 0, 0, []⟩)).2.bs) := by
        simp [List.getD_eq_getElem?_getD, hj']
      rw [em]
      have hmem : qs.getD j (0, ⟨none, 0, 0, []⟩) ∈ qs := by
        rw [List.getD_eq_getElem?_getD, List.getElem?_eq_getElem hj']
        exact List.getElem_mem hj'
      have hown := h.sep.own _ (by rw [List.mem_reverse]; exact List.mem_map_of_mem hmem)
      refine ⟨?_, (qs.getD j (0, ⟨none, 0, 0, []⟩)).2.A, (qs.getD j (0, ⟨none, 0, 0, []⟩)).2.n, (qs.getD j (0, ⟨none, 0, 0, []⟩)).2.c, ?_, ⟨?_, fun _ k e => hF k (Rw.lt hown k e)⟩, ?_⟩
      · have := h.row.cellAt (j * 2) (by omega)
        rw [Nat.zero_add]; exact this.trans e2.1
      · have := h.row.cellAt (j * 2 + 1) (by omega)
        rw [Nat.zero_add]; exact this.trans e2.2
      · exact own_bytes' hown (hl _ hmem)
      · exact own_cap8 hown
end
/-- An answer in blocks of F. -/
def TdF (F : Nat → Prop) (w : World) (v : Value) (t : Td) : Prop :=
  ∃ A m c B n d, v = .agg #[.int .i64 t.e, .int .i64 t.x, .int .i64 t.y, .int .i64 t.z, .slice A m c, .slice B n d] ∧ Out F w A m t.p ∧ SpF F w B n t.s
section
variable {F F' : Nat → Prop} {w w1 : World} {v : Value} {t : Td}
theorem TdF.at_ (h : TdF F w v t) : TdAt w v t := by
  obtain ⟨A, m, c, B, n, d, h1, h2, h3⟩ := h
  exact ⟨A, m, c, B, n, d, h1, h2.1, h3.at_⟩
theorem TdF.chg (h : TdF F w v t) (hc : Chg (fun k => ¬ F k) w w1) : TdF F w1 v t := by
  obtain ⟨A, m, c, B, n, d, h1, h2, h3⟩ := h
  exact ⟨A, m, c, B, n, d, h1, h2.chg hc, h3.chg hc⟩
theorem TdF.mono (h : TdF F w v t) (hs : ∀ k, F k → F' k) : TdF F' w v t := by
  obtain ⟨A, m, c, B, n, d, h1, h2, h3⟩ := h
  exact ⟨A, m, c, B, n, d, h1, h2.mono hs, h3.mono hs⟩
theorem TdF.ints (F : Nat → Prop) (w : World) (e x y z : Int) : TdF F w (.agg #[.int .i64 e, .int .i64 x, .int .i64 y, .int .i64 z, .slice none 0 0, .slice none 0 0]) ⟨e, x, y, z, [], []⟩ := ⟨none, 0, 0, none, 0, 0, rfl, Out.nil _ _ _, SpF.nil _ _ _⟩
end
/-- What Want answers. -/
def WantTo (t : Td) (Q : Pd) (F : Nat → Prop) (w : World) (e : Ending) (w' : World) : Prop :=
  ∃ v A c, e = .returned (.tuple #[v, rV Q A c]) ∧ TdF (New F w w') w' v t ∧ RAt w' A Q (New F w w') ∧ Below w.heap.size w w'
theorem results_row_row {P : Program} {fn : Func} {p q : Tmp} {ty ty2 : TypeId} (h : fn.results = #[.cell p ty, .cell q ty2]) (tmps : Array Value) (w : World) (g : Nat) (t : TypeId) (cs : Array Value) (fr : Nat × Nat) (d : TypeDesc) (g2 : Nat) (t2 : TypeId) (cs2 : Array Value) (fr2 : Nat × Nat) (d2 : TypeDesc)
    (hp : tmps.getD p undef = .pointer (some ⟨g, 0, none⟩)) (hg : w.heap[g]? = some (.cells cs t fr))
    (hu : P.underlying ty = some d) (hd : (match d with | .struct _ | .array _ _ => true | _ => false) = true) (hi : (P.info? ty).map (·.size) = some cs.size)
    (hp2 : tmps.getD q undef = .pointer (some ⟨g2, 0, none⟩)) (hg2 : w.heap[g2]? = some (.cells cs2 t2 fr2))
    (hu2 : P.underlying ty2 = some d2) (hd2 : (match d2 with | .struct _ | .array _ _ => true | _ => false) = true) (hi2 : (P.info? ty2).map (·.size) = some cs2.size) :
    (results fn tmps).run P w = .ok (.tuple #[.agg cs, .agg cs2]) w := by
  have hp' : tmps[p]?.getD undef = .pointer (some ⟨g, 0, none⟩) := by simpa using hp
  have hp2' : tmps[q]?.getD undef = .pointer (some ⟨g2, 0, none⟩) := by simpa using hp2
  simp [results, h, hp', hp2', asAddr, run_loadVar_row w g t ty cs fr d hg hu hd hi, run_loadVar_row w g2 t2 ty2 cs2 fr2 d2 hg2 hu2 hd2 hi2, Sem.run_bind, Result.andThen]
/-- In the middle of Want. -/
structure Wt (w wx : World) (gD gT r1 r2 : Nat) (Q : Pd) (A : Option Addr) (c : Nat) (cs : Array Value) (F : Nat → Prop) : Prop where
  d : Blk wx gD #[.slice A Q.n c, .bool Q.armed] 48
  t : Blk wx gT cs 36
  z1 : Blk wx r1 #[.int .i64 0, .int .i64 0, .int .i64 0, .int .i64 0, .slice none 0 0, .slice none 0 0] 36
  z2 : Blk wx r2 #[.slice none 0 0, .bool false] 48
  ra : RAt wx A Q (fun x => New F w wx x ∧ x ≠ gD ∧ x ≠ gT ∧ x ≠ r1 ∧ x ≠ r2)
  b : Below w.heap.size w wx
  l1 : w.heap.size ≤ gD
  l2 : w.heap.size ≤ gT
  l3 : w.heap.size ≤ r1
  l4 : w.heap.size ≤ r2
  n1 : gD ≠ r2
  n2 : gT ≠ r1
/-- The blocks but for the call's own variables. -/
abbrev Wf (F : Nat → Prop) (w wx : World) (gD gT r1 r2 : Nat) : Nat → Prop := fun x => New F w wx x ∧ x ≠ gD ∧ x ≠ gT ∧ x ≠ r1 ∧ x ≠ r2
section
variable {w wx wm : World} {gD gT r1 r2 c c5 : Nat} {P Q : Pd} {A A5 : Option Addr} {cs cs' : Array Value} {F : Nat → Prop}
theorem Wf.low (h : wx.heap.size ≤ wm.heap.size) : ∀ k, Wf F w wx gD gT r1 r2 k → Wf F w wm gD gT r1 r2 k := fun k e => ⟨New.low h k e.1, e.2⟩
theorem Wt.below (h : Wt w wx gD gT r1 r2 Q A c cs F) (hb : Below wx.heap.size wx wm) : Wt w wm gD gT r1 r2 Q A c cs F :=
  ⟨h.d.keep hb, h.t.keep hb, h.z1.keep hb, h.z2.keep hb, (h.ra.below hb).mono (Wf.low hb.size), below_then h.b hb h.b.size, h.l1, h.l2, h.l3, h.l4, h.n1, h.n2⟩
theorem Wt.new (h : Wt w wx gD gT r1 r2 Q A c cs F) (hb : Below wx.heap.size wx wm) : ∀ k, New (Wf F w wx gD gT r1 r2) wx wm k → Wf F w wm gD gT r1 r2 k := by
  have h1 := h.d.lt
  have h2 := h.t.lt
  have h3 := h.z1.lt
  have h4 := h.z2.lt
  have h5 := h.b.size
  have h6 := hb.size
  rintro k (e | e)
  · exact Wf.low h6 k e
  · exact ⟨.inr ⟨by omega, e.2⟩, by omega, by omega, by omega, by omega⟩
/-- The disk's variable is written behind a call. -/
theorem Wt.disk (h : Wt w wx gD gT r1 r2 P A c cs F) (hb : Below wx.heap.size wx wm) (h5 : RAt wm A5 Q (New (Wf F w wx gD gT r1 r2) wx wm)) :
    Wt w ((wm.setCell ⟨gD, 0, none⟩ (.slice A5 Q.n c5)).setCell ⟨gD, 1, none⟩ (.bool Q.armed)) gD gT r1 r2 Q A5 c5 cs F := by
  have hC := (chg_set wm gD 0 (.slice A5 Q.n c5)).set (.inl rfl) 1 (.bool Q.armed)
  have hm := h.below hb
  have e1 := blk_type hm.d hm.t (by decide)
  have e2 := blk_type hm.d hm.z1 (by decide)
  refine ⟨(hm.d.set 0 _).set 1 _, hm.t.chg hC (fun e => e1 e.symm), hm.z1.chg hC (fun e => e2 e.symm), hm.z2.chg hC (fun e => h.n1 e.symm), ?_, hm.b.trans (hC.below hm.b.size (fun k e => by subst e; exact h.l1)), h.l1, h.l2, h.l3, h.l4, h.n1, h.n2⟩
  exact ((h5.mono (h.new hb)).chg (hC.mono (fun k e e2 => e2.2.1 e))).mono (Wf.low hC.size)
/-- A cell of the answer is written. -/
theorem Wt.tset (h : Wt w wx gD gT r1 r2 Q A c cs F) (j : Nat) (v : Value) : Wt w (wx.setCell ⟨gT, j, none⟩ v) gD gT r1 r2 Q A c (cs.setIfInBounds j v) F := by
  have hC := chg_set wx gT j v
  have e1 := blk_type h.d h.t (by decide)
  have e2 := blk_type h.z2 h.t (by decide)
  exact ⟨h.d.chg hC e1, h.t.set j v, h.z1.chg hC (fun e => h.n2 e.symm), h.z2.chg hC e2, (h.ra.chg (hC.mono (fun k e e2 => e2.2.2.1 e))).mono (Wf.low hC.size), h.b.trans (hC.below h.b.size (fun k e => by subst e; exact h.l2)), h.l1, h.l2, h.l3, h.l4, h.n1, h.n2⟩
/-- Both results are written, in whatever order. -/
theorem Wt.fin {wf : World} {v0 v1 v2 v3 v4 v5 : Value} {t : Td} (h : Wt w wx gD gT r1 r2 Q A c #[v0, v1, v2, v3, v4, v5] F) (ht : TdF (Wf F w wx gD gT r1 r2) wx (.agg #[v0, v1, v2, v3, v4, v5]) t) (hC : Chg (fun k => k = r1 ∨ k = r2) wx wf) : RAt wf A Q (New F w wf) ∧ TdF (New F w wf) wf (.agg #[v0, v1, v2, v3, v4, v5]) t ∧ Below w.heap.size w wf := by
  have hc2 : Chg (fun k => ¬ Wf F w wx gD gT r1 r2 k) wx wf := hC.mono (fun k e e2 => by rcases e with e | e; exact e2.2.2.2.1 e; exact e2.2.2.2.2 e)
  exact ⟨(h.ra.chg hc2).mono (fun k e => New.low hC.size k e.1), (ht.chg hc2).mono (fun k e => New.low hC.size k e.1), h.b.trans (hC.below h.b.size (fun k e => by rcases e with e | e <;> subst e; exact h.l3; exact h.l4))⟩
theorem six_set {g : Nat} {z0 z1 z2 z3 z4 z5 : Value} {t : TypeId} (h : Blk wx g #[z0, z1, z2, z3, z4, z5] t) (v0 v1 v2 v3 v4 v5 : Value) : Blk ((((((wx.setCell ⟨g, 0, none⟩ v0).setCell ⟨g, 1, none⟩ v1).setCell ⟨g, 2, none⟩ v2).setCell ⟨g, 3, none⟩ v3).setCell ⟨g, 4, none⟩ v4).setCell ⟨g, 5, none⟩ v5) g #[v0, v1, v2, v3, v4, v5] t ∧
    Chg (fun k => k = g) wx ((((((wx.setCell ⟨g, 0, none⟩ v0).setCell ⟨g, 1, none⟩ v1).setCell ⟨g, 2, none⟩ v2).setCell ⟨g, 3, none⟩ v3).setCell ⟨g, 4, none⟩ v4).setCell ⟨g, 5, none⟩ v5) :=
  ⟨(((((h.set 0 v0).set 1 v1).set 2 v2).set 3 v3).set 4 v4).set 5 v5, (((((chg_set wx g 0 v0).set (.inl rfl) 1 v1).set (.inl rfl) 2 v2).set (.inl rfl) 3 v3).set (.inl rfl) 4 v4).set (.inl rfl) 5 v5⟩
theorem two_set {g : Nat} {z0 z1 : Value} {t : TypeId} (h : Blk wx g #[z0, z1] t) (v0 v1 : Value) : Blk ((wx.setCell ⟨g, 0, none⟩ v0).setCell ⟨g, 1, none⟩ v1) g #[v0, v1] t ∧ Chg (fun k => k = g) wx ((wx.setCell ⟨g, 0, none⟩ v0).setCell ⟨g, 1, none⟩ v1) :=
  ⟨(h.set 0 v0).set 1 v1, (chg_set wx g 0 v0).set (.inl rfl) 1 v1⟩
theorem both_set {w1 w2 : World} {ra rb : Nat} {ca cb ca' cb' : Array Value} {ta tb : TypeId} (h1 : Blk wx ra ca ta) (h2 : Blk wx rb cb tb) (hne : ra ≠ rb) (ha : Blk wx ra ca ta → Blk w1 ra ca' ta ∧ Chg (fun k => k = ra) wx w1) (hb : Blk w1 rb cb tb → Blk w2 rb cb' tb ∧ Chg (fun k => k = rb) w1 w2) :
    Blk w2 ra ca' ta ∧ Blk w2 rb cb' tb ∧ Chg (fun k => k = ra ∨ k = rb) wx w2 := by
  obtain ⟨a1, a2⟩ := ha h1
  obtain ⟨b1, b2⟩ := hb (h2.chg a2 (fun e => hne e.symm))
  exact ⟨a1.chg b2 hne, b1, (a2.mono (fun k e => .inl e) : Chg (fun k => k = ra ∨ k = rb) _ _).trans b2 (fun k e => .inl (.inr e))⟩
/-- What lies there in the end: the first result first. -/
theorem Wt.end12 {wf : World} {v0 v1 v2 v3 v4 v5 : Value} {t : Td} (h : Wt w wx gD gT r1 r2 Q A c #[v0, v1, v2, v3, v4, v5] F) (ht : TdF (Wf F w wx gD gT r1 r2) wx (.agg #[v0, v1, v2, v3, v4, v5]) t) (q : Nat)
    (hf : wf = ((((((((wx.setCell ⟨r1, 0, none⟩ v0).setCell ⟨r1, 1, none⟩ v1).setCell ⟨r1, 2, none⟩ v2).setCell ⟨r1, 3, none⟩ v3).setCell ⟨r1, 4, none⟩ v4).setCell ⟨r1, 5, none⟩ v5).setCell ⟨r2, 0, none⟩ (.slice A Q.n c)).setCell ⟨r2, 1, none⟩ (.bool Q.armed)).drewN q) :
    Blk wf r1 #[v0, v1, v2, v3, v4, v5] 36 ∧ Blk wf r2 #[.slice A Q.n c, .bool Q.armed] 48 ∧ RAt wf A Q (New F w wf) ∧ TdF (New F w wf) wf (.agg #[v0, v1, v2, v3, v4, v5]) t ∧ Below w.heap.size w wf := by
  have e0 := blk_type h.z1 h.z2 (by decide)
  have hh := both_set h.z1 h.z2 e0 (fun k => six_set k v0 v1 v2 v3 v4 v5) (fun k => two_set k (.slice A Q.n c) (.bool Q.armed))
  subst hf
  exact ⟨hh.1.keep (below_drew7 _ q), hh.2.1.keep (below_drew7 _ q), h.fin ht (hh.2.2.then_ (below_drew7 _ q))⟩
theorem Wt.end21 {wf : World} {v0 v1 v2 v3 v4 v5 : Value} {t : Td} (h : Wt w wx gD gT r1 r2 Q A c #[v0, v1, v2, v3, v4, v5] F) (ht : TdF (Wf F w wx gD gT r1 r2) wx (.agg #[v0, v1, v2, v3, v4, v5]) t) (q : Nat)
    (hf : wf = ((((((((wx.setCell ⟨r2, 0, none⟩ (.slice A Q.n c)).setCell ⟨r2, 1, none⟩ (.bool Q.armed)).setCell ⟨r1, 0, none⟩ v0).setCell ⟨r1, 1, none⟩ v1).setCell ⟨r1, 2, none⟩ v2).setCell ⟨r1, 3, none⟩ v3).setCell ⟨r1, 4, none⟩ v4).setCell ⟨r1, 5, none⟩ v5).drewN q) :
    Blk wf r1 #[v0, v1, v2, v3, v4, v5] 36 ∧ Blk wf r2 #[.slice A Q.n c, .bool Q.armed] 48 ∧ RAt wf A Q (New F w wf) ∧ TdF (New F w wf) wf (.agg #[v0, v1, v2, v3, v4, v5]) t ∧ Below w.heap.size w wf := by
  have e0 := blk_type h.z2 h.z1 (by decide)
  have hh := both_set h.z2 h.z1 e0 (fun k => two_set k (.slice A Q.n c) (.bool Q.armed)) (fun k => six_set k v0 v1 v2 v3 v4 v5)
  subst hf
  have hc : Chg (fun k => k = r1 ∨ k = r2) wx _ := (hh.2.2.mono (fun k e => e.symm)).then_ (below_drew7 _ q)
  exact ⟨hh.2.1.keep (below_drew7 _ q), hh.1.keep (below_drew7 _ q), h.fin ht hc⟩
end
/-- The variables of Want. -/
theorem want_pre {w w1 w2 w3 w4 w5 : World} {A : Option Addr} {P : Pd} {F : Nat → Prop} {c : Nat} (h : RAt w A P F) (hF : ∀ k, F k → k < w.heap.size) (sc : Array Value)
    (h1 : w.alloc (.cells #[.slice A P.n c, .bool P.armed] 48) = w1) (h2 : w1.alloc (.cells sc 33) = w2) (h3 : w2.alloc (.cells #[.int .i64 0, .int .i64 0, .int .i64 0, .int .i64 0, .slice none 0 0, .slice none 0 0] 36) = w3)
    (h4 : w3.alloc (.cells #[.slice none 0 0, .bool false] 48) = w4) (h5 : w4.alloc (.cells #[.int .i64 0, .int .i64 0, .int .i64 0, .int .i64 0, .slice none 0 0, .slice none 0 0] 36) = w5) :
    Wt w w5 w.heap.size w4.heap.size w2.heap.size w3.heap.size P A c #[.int .i64 0, .int .i64 0, .int .i64 0, .int .i64 0, .slice none 0 0, .slice none 0 0] F ∧ Blk w5 w1.heap.size sc 33 ∧ Below w.heap.size w w5 := by
  have z1 : w1.heap.size = w.heap.size + 1 := by rw [← h1]; simp
  have z2 : w2.heap.size = w1.heap.size + 1 := by rw [← h2]; simp
  have z3 : w3.heap.size = w2.heap.size + 1 := by rw [← h3]; simp
  have z4 : w4.heap.size = w3.heap.size + 1 := by rw [← h4]; simp
  have x1 : Below w.heap.size w w1 := by rw [← h1]; exact below_alloc _ _
  have x2 : Below w1.heap.size w1 w2 := by rw [← h2]; exact below_alloc _ _
  have x3 : Below w2.heap.size w2 w3 := by rw [← h3]; exact below_alloc _ _
  have x4 : Below w3.heap.size w3 w4 := by rw [← h4]; exact below_alloc _ _
  have x5 : Below w4.heap.size w4 w5 := by rw [← h5]; exact below_alloc _ _
  have b1 : Blk w1 w.heap.size #[.slice A P.n c, .bool P.armed] 48 := by rw [← h1]; exact Blk.fresh _ _ _
  have b2 : Blk w2 w1.heap.size sc 33 := by rw [← h2]; exact Blk.fresh _ _ _
  have b3 : Blk w3 w2.heap.size #[.int .i64 0, .int .i64 0, .int .i64 0, .int .i64 0, .slice none 0 0, .slice none 0 0] 36 := by rw [← h3]; exact Blk.fresh _ _ _
  have b4 : Blk w4 w3.heap.size #[.slice none 0 0, .bool false] 48 := by rw [← h4]; exact Blk.fresh _ _ _
  have b5 : Blk w5 w4.heap.size #[.int .i64 0, .int .i64 0, .int .i64 0, .int .i64 0, .slice none 0 0, .slice none 0 0] 36 := by rw [← h5]; exact Blk.fresh _ _ _
  have y2 := below_then x1 x2 x1.size
  have y3 := below_then y2 x3 y2.size
  have y4 := below_then y3 x4 y3.size
  have y5 := below_then y4 x5 y4.size
  refine ⟨⟨(((b1.keep x2).keep x3).keep x4).keep x5, b5, (b3.keep x4).keep x5, b4.keep x5, (h.below y5).mono (fun k e => ?_), y5, by omega, by omega, by omega, by omega, by omega, by omega⟩, ((b2.keep x3).keep x4).keep x5, y5⟩
  have := hF k e
  exact ⟨.inl e, by omega, by omega, by omega, by omega⟩
end Go.Proofs.Ytodaplkijdjbpaa
