/- Three clocks in two arrays; what a call of them reads as. -/
import Derived.Test.YtackbdcpbkohoaaClockOps
namespace Go.Proofs.Ytackbdcpbkohoaa
open Go.RowKit
/-- The program's clocks and the document's, in two arrays. -/
structure Three (B H V : Nat) (w : World) (hs vs : List Ck) : Prop where
  hl : hs.length = 3
  vl : vs.length = 3
  h : Blk w H (hs.map ptrV).toArray 38
  v : Blk w V (vs.flatMap rcl).toArray 41
  clk : Clks B w hs
  inj : Inj hs
  bH : B ≤ H
  bV : B ≤ V
theorem Three.below {B H V : Nat} {w w' : World} {hs vs : List Ck} (t : Three B H V w hs vs) (hb : Below w.heap.size w w') : Three B H V w' hs vs :=
  ⟨t.hl, t.vl, Blk.keep t.h hb, Blk.keep t.v hb, t.clk.below hb, t.inj, t.bH, t.bV⟩
theorem Three.ck {B H V : Nat} {w : World} {hs vs : List Ck} (t : Three B H V w hs vs) {j : Nat} {x : Ck} (hx : hs[j]? = some x) : CkOk B w x :=
  fun g s a e => t.clk j g s a (e ▸ hx)
theorem Three.hcell {B H V : Nat} {w : World} {hs vs : List Ck} (t : Three B H V w hs vs) {j : Nat} {x : Ck} (hx : hs[j]? = some x) : w.cell? ⟨H, j, none⟩ = some (.pointer (ptA x)) := by
  rw [Blk.cell t.h j]
  simp [hx, ptrV]
theorem Three.vcell {B H V : Nat} {w : World} {hs vs : List Ck} (t : Three B H V w hs vs) {j : Nat} {x : Ck} (hx : vs[j]? = some x) :
    w.cell? ⟨V, j * 3, none⟩ = some (.bool (rB x)) ∧ w.cell? ⟨V, j * 3 + 1, none⟩ = some (.int .i64 (rS x)) ∧ w.cell? ⟨V, j * 3 + 2, none⟩ = some (.int .i64 (rW x)) := by
  obtain ⟨r0, r1, r2⟩ := rcl_at vs j x hx
  exact ⟨(Blk.cell t.v _).trans (by simpa using r0), (Blk.cell t.v _).trans (by simpa using r1), (Blk.cell t.v _).trans (by simpa using r2)⟩
theorem blk_ne {w : World} {g g' : Nat} {cs cs' : Array Value} {t t' : TypeId} (h : Blk w g cs t) (h' : Blk w g' cs' t') (hne : t ≠ t') : g ≠ g' := by
  rintro rfl
  unfold Blk at h h'
  rw [h] at h'
  injection h' with h'
  injection h' with a b c
  exact hne b
theorem ckBlk_ne {B : Nat} {w : World} {x : Ck} (h : CkOk B w x) {g : Nat} {cs : Array Value} {t : TypeId} (hb : Blk w g cs t) (hne : t ≠ 63) : ckBlk x ≠ some g := by
  rcases x with _ | ⟨g', s, a⟩
  · simp [ckBlk]
  · intro e
    simp only [ckBlk, Option.some.injEq] at e
    exact blk_ne hb (h g' s a rfl).1 hne e.symm
/-- One clock goes on. -/
theorem Three.go {B H V : Nat} {w w' : World} {hs vs : List Ck} (t : Three B H V w hs vs) {j : Nat} {x : Ck} {s' : Int} (hx : hs[j]? = some x) (hg : w.grownBy w' (ckBlk x)) (hc : CkOk B w' (ckTo s' x)) : Three B H V w' (hs.set j (ckTo s' x)) vs := by
  have hk := t.ck hx
  have hH := Blk.grown t.h hg (ckBlk_ne hk t.h (by decide))
  have hV := Blk.grown t.v hg (ckBlk_ne hk t.v (by decide))
  have hm : (hs.set j (ckTo s' x)).map ptrV = hs.map ptrV := by
    refine List.ext_getElem? fun i => ?_
    rw [List.getElem?_map, List.getElem?_map, set_at hx]
    split
    · rename_i e; subst e; rw [hx]; simp [ptrV, ckTo_ptA]
    · rfl
  refine ⟨by simpa using t.hl, t.vl, by rw [hm]; exact hH, hV, ?_, ?_, t.bH, t.bV⟩
  · rcases x with _ | ⟨g, s, a⟩
    · intro i g s a e
      rw [set_at hx] at e
      split at e
      · simp [ckTo] at e
      · obtain ⟨c, d, f⟩ := t.clk i g s a e
        exact ⟨Blk.grown c hg (by simp [ckBlk]), d, f⟩
    · exact t.clk.step t.inj hx hg (hc g s' a rfl).1 (hc g s' a rfl).2.2
  · rcases x with _ | ⟨g, s, a⟩
    · intro i k g s a s2 a2 e1 e2
      rw [set_at hx] at e1 e2
      split at e1
      · simp [ckTo] at e1
      · split at e2
        · simp [ckTo] at e2
        · exact t.inj i k g s a s2 a2 e1 e2
    · exact t.inj.step hx
/-- A new clock at a place. -/
theorem Three.put {B H V : Nat} {w : World} {hs vs : List Ck} (t : Three B H V w hs vs) {j : Nat} {x y : Ck} (hx : hs[j]? = some x) (hc : CkOk B w y) (hn : ∀ (i g : Nat) (s a s' a' : Int), hs[i]? = some (some (g, s, a)) → y ≠ some (g, s', a')) : Three B H V (w.setCell ⟨H, j, none⟩ (.pointer (ptA y))) (hs.set j y) vs := by
  have hset : ∀ i : Nat, (hs.set j y)[i]? = if i = j then some y else hs[i]? := fun i => set_at hx i
  have hg := grown_set w H j (.pointer (ptA y))
  have keep : ∀ {g : Nat} {s a : Int}, Clk w g s a → Clk (w.setCell ⟨H, j, none⟩ (.pointer (ptA y))) g s a := fun c => Blk.grown c hg (fun e => by injection e with e; exact blk_ne t.h c (by decide) e)
  refine ⟨by simpa using t.hl, t.vl, ?_, Blk.grown t.v hg (fun e => by injection e with e; exact blk_ne t.h t.v (by decide) e), ?_, ?_, t.bH, t.bV⟩
  · have := Blk.set t.h j (.pointer (ptA y))
    have e : (hs.map ptrV).toArray.setIfInBounds j (.pointer (ptA y)) = ((hs.set j y).map ptrV).toArray := by
      rw [List.map_set]
      simp [ptrV]
    rw [e] at this
    exact this
  · intro i g s a e
    rw [hset] at e
    split at e
    · simp only [Option.some.injEq] at e
      obtain ⟨c, d, f⟩ := hc g s a e
      exact ⟨keep c, d, f⟩
    · obtain ⟨c, d, f⟩ := t.clk i g s a e
      exact ⟨keep c, d, f⟩
  · intro i k g s a s' a' e1 e2
    rw [hset] at e1 e2
    split at e1
    · split at e2
      · omega
      · simp only [Option.some.injEq] at e1
        exact absurd e1 (hn k g s' a' s a e2)
    · split at e2
      · simp only [Option.some.injEq] at e2
        exact absurd e2 (hn i g s a s' a' e1)
      · exact t.inj i k g s a s' a' e1 e2
/-- The document's clock at a place is written. -/
theorem Three.write {B H V : Nat} {w : World} {hs vs : List Ck} (t : Three B H V w hs vs) {j : Nat} {x y : Ck} (hx : vs[j]? = some x) :
    Three B H V (((w.setCell ⟨V, j * 3, none⟩ (.bool (rB y))).setCell ⟨V, j * 3 + 1, none⟩ (.int .i64 (rS y))).setCell ⟨V, j * 3 + 2, none⟩ (.int .i64 (rW y))) hs (vs.set j y) := by
  have hg := grown_trans (grown_trans (grown_set w V (j * 3) (.bool (rB y))) (grown_set _ V (j * 3 + 1) (.int .i64 (rS y)))) (grown_set _ V (j * 3 + 2) (.int .i64 (rW y)))
  have hV := Blk.set (Blk.set (Blk.set t.v (j * 3) (.bool (rB y))) (j * 3 + 1) (.int .i64 (rS y))) (j * 3 + 2) (.int .i64 (rW y))
  have e : (((vs.flatMap rcl).toArray.setIfInBounds (j * 3) (.bool (rB y))).setIfInBounds (j * 3 + 1) (.int .i64 (rS y))).setIfInBounds (j * 3 + 2) (.int .i64 (rW y)) = ((vs.set j y).flatMap rcl).toArray := by
    have hlen := t.vl
    have hj := (List.getElem?_eq_some_iff.1 hx).1
    rcases vs with _ | ⟨v0, _ | ⟨v1, _ | ⟨v2, _ | ⟨v3, vs⟩⟩⟩⟩ <;> simp at hlen
    have : j = 0 ∨ j = 1 ∨ j = 2 := by simp at hj; omega
    rcases this with rfl | rfl | rfl <;> simp [rcl]
  rw [e] at hV
  refine ⟨t.hl, by simpa using t.vl, Blk.grown t.h hg (fun e => by injection e with e; exact blk_ne t.v t.h (by decide) e), hV, fun i g s a e => ?_, t.inj, t.bH, t.bV⟩
  obtain ⟨c, d, f⟩ := t.clk i g s a e
  exact ⟨Blk.grown c hg (fun e => by injection e with e; exact blk_ne t.v c (by decide) e), d, f⟩
/-- A variable that is neither is written. -/
theorem Three.other {B H V D : Nat} {w w' : World} {hs vs : List Ck} {cs : Array Value} {ty : TypeId} (t : Three B H V w hs vs) (hD : Blk w D cs ty) (h1 : ty ≠ 38) (h2 : ty ≠ 41) (h3 : ty ≠ 63) (hg : w.grownBy w' (some D)) : Three B H V w' hs vs :=
  ⟨t.hl, t.vl, Blk.grown t.h hg (fun e => by injection e with e; exact blk_ne hD t.h h1 e), Blk.grown t.v hg (fun e => by injection e with e; exact blk_ne hD t.v h2 e),
   fun i g s a e => by obtain ⟨c, d, f⟩ := t.clk i g s a e; exact ⟨Blk.grown c hg (fun e => by injection e with e; exact blk_ne hD c h3 e), d, f⟩, t.inj, t.bH, t.bV⟩
end Go.Proofs.Ytackbdcpbkohoaa
