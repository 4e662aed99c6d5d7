/- Rows of bytes apart from each other, and a list of two of them in a box. -/
import Derived.Test.YtjgiiolamaimnaaRowW
import Derived.Test.YtjgiiolamaimnaaSep
import Derived.Test.YtjgiiolamaimnaaAppIn
import Derived.Test.YtjgiiolamaimnaaMarks
namespace Go.Proofs.Ytjgiiolamaimnaa
open Go.RowKit Go.Shelf
set_option linter.unusedVariables false
set_option linter.unusedSimpArgs false
def Rw.val (r : Rw) : Value := .slice r.A r.n r.c
/-- The list while it grows: its box, its row, and the rows that it tells. -/
structure Lst (W : World) (B gb : Nat) (rs : List Rw) (k : Nat) (A : Option Addr) (c : Nat) (ps : List Rw) : Prop where
  box : Blk W gb #[.slice A k c] 51
  row : W.ownsRow B 22 1 (.slice A k c) k (ps.map Rw.val)
  sep : Sep W B (ps.reverse ++ rs)
theorem Lst.below {w w1 : World} {B gb k c : Nat} {rs ps : List Rw} {A : Option Addr} (h : Lst w B gb rs k A c ps) (hb : Below w.heap.size w w1) : Lst w1 B gb rs k A c ps := ⟨h.box.keep hb, own_below h.row hb, h.sep.below hb⟩
theorem Lst.chg {F : Nat → Prop} {w w1 : World} {B gb k c : Nat} {rs ps : List Rw} {A : Option Addr} (h : Lst w B gb rs k A c ps) (hc : Chg F w w1) (hg : ¬ F gb) (hA : ∀ q, blkO A = some q → ¬ F q) (hF : ∀ r ∈ ps.reverse ++ rs, ∀ q, blkO r.A = some q → ¬ F q) : Lst w1 B gb rs k A c ps :=
  ⟨h.box.chg hc hg, own_chg h.row hc (fun q e => hA q (by rw [← ownBlock_slice A k c]; exact e)), h.sep.chg hc hF⟩
/-- The list when it is whole: nothing is written in it any more. -/
structure Kept (W : World) (B : Nat) (rs : List Rw) (gb gl c : Nat) (u v : Value) : Prop where
  sep : Sep W B rs
  box : Blk W gb #[.slice (some ⟨gl, 0, none⟩) 2 c] 51
  c0 : W.cell? ⟨gl, 0, none⟩ = some u
  c1 : W.cell? ⟨gl, 1, none⟩ = some v
  ap : ∀ r ∈ rs, ∀ q, blkO r.A = some q → q ≠ gb ∧ q ≠ gl
theorem Kept.below {w w1 : World} {B gb gl c : Nat} {rs : List Rw} {u v : Value} (h : Kept w B rs gb gl c u v) (hb : Below w.heap.size w w1) : Kept w1 B rs gb gl c u v :=
  ⟨h.sep.below hb, h.box.keep hb, (hb.cell (p := ⟨gl, 0, none⟩) (block_lt_of_cell h.c0)).trans h.c0, (hb.cell (p := ⟨gl, 1, none⟩) (block_lt_of_cell h.c1)).trans h.c1, h.ap⟩
theorem Kept.add {w w1 : World} {B gb gl c' : Nat} {rs : List Rw} {u v : Value} {A : Option Addr} {n c : Nat} {bs : List UInt8} (h : Kept w B rs gb gl c' u v) (hb : Below w.heap.size w w1) (hB : B ≤ w.heap.size) (ho : w1.ownsRow w.heap.size 5 1 (.slice A n c) n (bvals bs)) : Kept w1 B (⟨A, n, c, bs⟩ :: rs) gb gl c' u v := by
  have h1 := h.below hb
  refine ⟨h.sep.add hb hB ho, h1.box, h1.c0, h1.c1, fun r hr q e => ?_⟩
  rcases List.mem_cons.1 hr with rfl | hr
  · have h2 := own_base ho q (by rw [ownBlock_slice]; exact e)
    have h3 := h.box.lt
    have h4 := block_lt_of_cell h.c0
    simp only at h4
    exact ⟨by omega, by omega⟩
  · exact h.ap r hr q e
theorem Kept.upd {w w1 : World} {B gb gl c2 : Nat} {rs : List Rw} {u v : Value} (h : Kept w B rs gb gl c2 u v) (j : Nat) {A A' : Option Addr} {n n' c c' : Nat} {bs bs' : List UInt8} (hj : rs[j]? = some ⟨A, n, c, bs⟩)
    (hc : Chg (fun q => blkO A = some q) w w1) (ho : w1.ownsRow B 5 1 (.slice A' n' c') n' (bvals bs')) (hm : blkO A' = blkO A ∨ ∃ b, blkO A' = some b ∧ w.heap.size ≤ b) : Kept w1 B (rs.set j ⟨A', n', c', bs'⟩) gb gl c2 u v := by
  have h0 := h.ap _ (List.mem_of_getElem? hj)
  have h3 := h.box.lt
  have h4 := block_lt_of_cell h.c0
  simp only at h4
  refine ⟨h.sep.upd j hj hc ho hm, h.box.chg hc (fun e => (h0 _ e).1 rfl), hc.cell h.c0 (fun e => (h0 _ e).2 rfl), hc.cell h.c1 (fun e => (h0 _ e).2 rfl), fun r hr q e => ?_⟩
  rcases List.mem_or_eq_of_mem_set hr with hr | rfl
  · exact h.ap r hr q e
  · rcases hm with hm | ⟨b, hm, hb⟩
    · exact h0 q (by rw [← hm]; exact e)
    · have e : blkO A' = some q := e
      rw [hm] at e
      injection e with e
      exact ⟨by omega, by omega⟩
theorem Kept.fill {w w1 : World} {B gb gl c2 : Nat} {rs : List Rw} {u v : Value} (h : Kept w B rs gb gl c2 u v) (j : Nat) {A : Option Addr} {n c : Nat} {bs bs' : List UInt8} (hj : rs[j]? = some ⟨A, n, c, bs⟩)
    (hc : Chg (fun q => blkO A = some q) w w1) (ho : w1.ownsRow B 5 1 (.slice A n c) n (bvals bs')) : Kept w1 B (rs.set j ⟨A, n, c, bs'⟩) gb gl c2 u v := h.upd j hj hc ho (.inl rfl)
theorem info_row9 : (Try.prog.info? 22).map (fun i => (i.zero, i.size, i.bytes)) = some (some (.slice none 0 0), 1, 24) := by kernel_rfl
/-- A row of bytes is appended to the list. -/
theorem Lst.app {w w6 : World} {B gb k c c6 : Nat} {rs ps : List Rw} {A A6 : Option Addr} {r : Rw} (hb : Blk w gb #[.slice A k c] 51) (hr : w.ownsRow B 22 1 (.slice A k c) k (ps.map Rw.val)) (hs : Sep w B (r :: (ps.reverse ++ rs)))
    (ho : w6.ownsRow B 22 1 (.slice A6 (k + 1) c6) (k + 1) (ps.map Rw.val ++ [r.val])) (hg : w.grownBy w6 (Value.ownBlock (.slice A k c))) :
    Lst (w6.setCell ⟨gb, 0, none⟩ (.slice A6 (k + 1) c6)) B gb rs (k + 1) A6 c6 (ps ++ [r]) := by
  have hb6 := hb.grown hg (own_not_blk4 hr hb (by decide))
  have hc := chg_set w6 gb 0 (.slice A6 (k + 1) c6)
  have hs6 := hs.chg (chg_grown hg) (fun x hx q e e2 => by
    rcases own_apart9 (hs.own x hx) hr (by decide) with h0 | h0
    · rw [ownBlock_slice] at h0; rw [h0] at e; cases e
    · exact h0 (by rw [ownBlock_slice, ownBlock_slice] at *; rw [e, e2]))
  refine ⟨hb6.set 0 _, ?_, ?_⟩
  · rw [List.map_append]
    exact own_chg ho hc (fun q e e2 => own_not_blk4 ho hb6 (by decide) (by rw [e, e2]))
  · rw [List.reverse_append]
    exact hs6.chg hc (fun x hx q e e2 => own_not_blk4 (hs6.own x hx) hb6 (by decide) (by rw [ownBlock_slice]; exact e.trans (congrArg some e2)))
/-- What the loop over the frames bears. -/
def LI (wz w1 : World) (gb gl : Nat) (rs : List Rw) (R : List UInt8) (k : Nat) (W : World) : Prop :=
  ∃ A c ps, Lst W w1.heap.size gb rs k A c ps ∧ Hid (∀ i, i < k → ∃ r, ps[i]? = some r ∧ r.bs = ((allF R).getD i (0, [])).2) ∧ Hid (∀ r ∈ ps, ∀ q, blkO r.A = some q → wz.heap.size + 2 ≤ q) ∧ Hid (∀ q, blkO A = some q → q = gl ∨ wz.heap.size + 2 ≤ q) ∧ Below w1.heap.size w1 W
theorem LI.below {wz w1 A B : World} {gb gl : Nat} {rs : List Rw} {R : List UInt8} {k : Nat} (h : LI wz w1 gb gl rs R k A) (hb : Below A.heap.size A B) : LI wz w1 gb gl rs R k B := by
  obtain ⟨A2, c2, ps, hL, h1, h2, h3, hB⟩ := h
  exact ⟨A2, c2, ps, hL.below hb, h1, h2, h3, below_then hB hb hB.size⟩
theorem LI.book {wz w1 A B : World} {gb gl : Nat} {rs : List Rw} {R : List UInt8} {k : Nat} (h : LI wz w1 gb gl rs R k A) (hz : wz.heap.size + 2 ≤ A.heap.size) (hc : Chg (bookF wz) A B) (hw : w1.heap.size ≤ wz.heap.size) (hgb : gb < wz.heap.size) (hgl : gl < wz.heap.size) (hrs : ∀ r ∈ rs, ∀ q, blkO r.A = some q → q < wz.heap.size) : LI wz w1 gb gl rs R k B := by
  obtain ⟨A2, c2, ps, hL, h1, h2, h3, hB⟩ := h
  refine ⟨A2, c2, ps, hL.chg hc (fun e => by rcases e with e | e <;> omega) (fun q e e2 => ?_) (fun r hr q e e2 => ?_), h1, h2, h3, chgBook_below hB hc hw hB.size⟩
  · rcases h3.out q e with h | h <;> rcases e2 with e2 | e2 <;> omega
  · rcases List.mem_append.1 hr with hr | hr
    · have := h2.out r (List.mem_reverse.1 hr) q e
      rcases e2 with e2 | e2 <;> omega
    · have := hrs r hr q e
      rcases e2 with e2 | e2 <;> omega
/-- One more. -/
theorem LI.next {wz w1 W Wa w6 : World} {gb gl k c c6 : Nat} {rs ps : List Rw} {R : List UInt8} {A A6 : Option Addr} {r : Rw} (hL : Lst W w1.heap.size gb rs k A c ps) (hB : Below w1.heap.size w1 W) (h1 : Hid (∀ i, i < k → ∃ r, ps[i]? = some r ∧ r.bs = ((allF R).getD i (0, [])).2)) (h2 : Hid (∀ r ∈ ps, ∀ q, blkO r.A = some q → wz.heap.size + 2 ≤ q)) (h3 : Hid (∀ q, blkO A = some q → q = gl ∨ wz.heap.size + 2 ≤ q))
    (hba : Below W.heap.size W Wa) (hs : Sep Wa w1.heap.size (r :: (ps.reverse ++ rs))) (ho : w6.ownsRow w1.heap.size 22 1 (.slice A6 (k + 1) c6) (k + 1) (ps.map Rw.val ++ [r.val])) (hg : Wa.grownBy w6 (Value.ownBlock (.slice A k c)))
    (hm : Value.ownBlock (.slice A6 (k + 1) c6) = Value.ownBlock (.slice A k c) ∨ ∃ b, Value.ownBlock (.slice A6 (k + 1) c6) = some b ∧ Wa.heap.size ≤ b)
    (hrb : r.bs = ((allF R).getD k (0, [])).2) (hrq : ∀ q, blkO r.A = some q → wz.heap.size + 2 ≤ q) (hz : wz.heap.size + 2 ≤ W.heap.size) (hgb : gb < wz.heap.size) (hgl : gl < wz.heap.size) (hgb1 : w1.heap.size ≤ gb) {Pq : Nat → Prop} (hP : ∀ q, Pq q → q < wz.heap.size ∧ q ≠ gb ∧ q ≠ gl) :
    Keep2 wz W (w6.setCell ⟨gb, 0, none⟩ (.slice A6 (k + 1) c6)) ∧ Chg (fun q => ¬ Pq q) W (w6.setCell ⟨gb, 0, none⟩ (.slice A6 (k + 1) c6)) ∧ LI wz w1 gb gl rs R (k + 1) (w6.setCell ⟨gb, 0, none⟩ (.slice A6 (k + 1) c6)) := by
  rw [ownBlock_slice, ownBlock_slice] at hm
  have hLa := hL.below hba
  have hlen : ps.length = k := by have := hL.row.1; simpa using this
  have hn := Lst.app hLa.box hLa.row hs ho hg
  rw [ownBlock_slice] at hg
  have hC : Chg (fun q => q = gb ∨ blkO A = some q) W (w6.setCell ⟨gb, 0, none⟩ (.slice A6 (k + 1) c6)) :=
    (Chg.after hba ((chg_grown hg).mono (fun q e => .inr e))).set (.inl (.inl rfl)) 0 _
  have hA : ∀ q, blkO A = some q → q = gl ∨ wz.heap.size + 2 ≤ q := h3.out
  refine ⟨keep2_of hC hz (fun e => ?_) (fun e => ?_), hC.mono (fun q e e2 => ?_), A6, c6, ps ++ [r], hn, Lib.hid (fun i hi => ?_), Lib.hid (fun x hx q e => ?_), Lib.hid (fun q e => ?_), ?_⟩
  · rcases e with e | e
    · omega
    · rcases hA _ e with h | h <;> omega
  · rcases e with e | e
    · omega
    · rcases hA _ e with h | h <;> omega
  · have := hP q e2
    rcases e with e | e
    · exact this.2.1 e
    · rcases hA _ e with h | h
      · exact this.2.2 h
      · omega
  · by_cases hik : i < k
    · obtain ⟨x, hx, hxb⟩ := h1.out i hik
      exact ⟨x, by rw [List.getElem?_append_left (by omega)]; exact hx, hxb⟩
    · obtain rfl : i = k := by omega
      exact ⟨r, by rw [List.getElem?_append_right (by omega), hlen, Nat.sub_self]; rfl, hrb⟩
  · rcases List.mem_append.1 hx with hx | hx
    · exact h2.out x hx q e
    · obtain rfl := List.mem_singleton.1 hx
      exact hrq q e
  · rcases hm with hm | ⟨b, hm, hb⟩
    · exact hA q (by rw [← hm]; exact e)
    · rw [hm] at e
      injection e with e
      have := hba.size
      exact .inr (by omega)
  · refine hB.trans (hC.below hB.size (fun q e => ?_))
    rcases e with e | e
    · omega
    · exact own_base hL.row q (by rw [ownBlock_slice]; exact e)
/-- The frames of a row of two. -/
theorem allF_two (a b : List UInt8) (ha : a.length ≤ 65536) (hb : b.length ≤ 65536) : (allF (frameB a ++ frameB b)).length = 2 ∧ ((allF (frameB a ++ frameB b)).getD 0 (0, [])).2 = a ∧ ((allF (frameB a ++ frameB b)).getD 1 (0, [])).2 = b := by
  have h := allF_row [a, b] (fun k hk => by
    match k, hk with
    | 0, _ => exact ha
    | 1, _ => exact hb) (endB [a, b] 2) 2 (Nat.le_refl _) (by simp) (fun k hk => endB_mono [a, b] 2 (k + 1) (by omega) (by simp)) (.inl rfl)
  have hr : (rowB [a, b] [a, b].length).take (endB [a, b] 2) = frameB a ++ frameB b := by
    rw [show [a, b].length = 2 from rfl, endB, List.take_length]
    simp [rowB]
  rw [hr] at h
  exact ⟨h.1, by rw [h.2.2 0 (by omega)]; rfl, by rw [h.2.2 1 (by omega)]; rfl⟩
/-- The list as it is in the end. -/
theorem LI.kept {wz w1 W : World} {gb gl : Nat} {rs : List Rw} {R a b : List UInt8} (h : LI wz w1 gb gl rs R 2 W) (ha : ((allF R).getD 0 (0, [])).2 = a) (hb : ((allF R).getD 1 (0, [])).2 = b) :
    ∃ g2 c2 A0 k0 A1 k1, Kept W w1.heap.size (⟨A1, b.length, k1, b⟩ :: ⟨A0, a.length, k0, a⟩ :: rs) gb g2 c2 (.slice A0 a.length k0) (.slice A1 b.length k1) ∧ Below w1.heap.size w1 W := by
  obtain ⟨A2, c2, ps, hL, h1, h2, h3, hB⟩ := h
  have hlen : ps.length = 2 := by have := hL.row.1; simpa using this
  obtain ⟨x, y, rfl⟩ : ∃ x y, ps = [x, y] := by
    match ps, hlen with
    | [x, y], _ => exact ⟨x, y, rfl⟩
  obtain ⟨r0, e0, f0⟩ := h1.out 0 (by omega)
  obtain ⟨r1, e1, f1⟩ := h1.out 1 (by omega)
  cases e0
  cases e1
  rw [ha] at f0
  rw [hb] at f1
  have hsep : Sep W w1.heap.size (y :: x :: rs) := hL.sep
  obtain ⟨Ax, nx, cx, bx⟩ := x
  obtain ⟨Ay, ny, cy, bY⟩ := y
  simp only at f0 f1
  subst f0 f1
  have hx := (hsep.at_ 1 rfl).1
  have hy := (hsep.at_ 0 rfl).1
  simp only [bvals_length, Nat.mul_one] at hx hy
  subst hx hy
  rcases hL.row.2 with ⟨h0, _⟩ | ⟨g, cap, cur, hv, hg1, hg2, _⟩
  · cases h0
  · injection hv with e1 e2 e3
    subst e1
    refine ⟨g, c2, Ax, cx, Ay, cy, ⟨hsep, hL.box, hL.row.cellAt 0 (by decide), hL.row.cellAt 1 (by decide), fun r hr q e => ⟨fun e2 => ?_, fun e2 => ?_⟩⟩, hB⟩
    · exact own_not_blk4 (hsep.own r hr) hL.box (by decide) (by rw [ownBlock_slice, e, e2])
    · rcases own_apart9 (hsep.own r hr) hL.row (by decide) with h0 | h0
      · rw [ownBlock_slice, e] at h0; cases h0
      · exact h0 (by rw [ownBlock_slice, e, e2]; rfl)
/-- The state behind the loop: the rows, the list, what the return will find. -/
structure Fin (W w1 : World) (rs : List Rw) (gb gl c : Nat) (u v : Value) (D : Nat) : Prop where
  kept : Kept W w1.heap.size rs gb gl c u v
  dfr : W.heap[D]? = some (.deferred (some []))
  low : Below w1.heap.size w1 W
section
variable {W W' w1 : World} {rs : List Rw} {gb gl c2 D : Nat} {u v : Value}
theorem Fin.below (h : Fin W w1 rs gb gl c2 u v D) (hb : Below W.heap.size W W') : Fin W' w1 rs gb gl c2 u v D :=
  ⟨h.kept.below hb, (hb.block _ (Array.getElem?_eq_some_iff.1 h.dfr).1).trans h.dfr, below_then h.low hb h.low.size⟩
theorem Fin.add {A : Option Addr} {n c : Nat} {bs : List UInt8} (h : Fin W w1 rs gb gl c2 u v D) (hb : Below W.heap.size W W') (ho : W'.ownsRow W.heap.size 5 1 (.slice A n c) n (bvals bs)) : Fin W' w1 (⟨A, n, c, bs⟩ :: rs) gb gl c2 u v D :=
  ⟨h.kept.add hb h.low.size ho, (h.below hb).dfr, (h.below hb).low⟩
theorem Fin.upd (h : Fin W w1 rs gb gl c2 u v D) (j : Nat) {A A' : Option Addr} {n n' c c' : Nat} {bs bs' : List UInt8} (hj : rs[j]? = some ⟨A, n, c, bs⟩)
    (hc : Chg (fun q => blkO A = some q) W W') (ho : W'.ownsRow w1.heap.size 5 1 (.slice A' n' c') n' (bvals bs')) (hm : blkO A' = blkO A ∨ ∃ b, blkO A' = some b ∧ W.heap.size ≤ b) : Fin W' w1 (rs.set j ⟨A', n', c', bs'⟩) gb gl c2 u v D := by
  refine ⟨h.kept.upd j hj hc ho hm, (hc.block _ (Array.getElem?_eq_some_iff.1 h.dfr).1 (fun e => ?_)).trans h.dfr, h.low.trans (hc.below h.low.size (fun q e => ?_))⟩
  · have hr := h.kept.sep.at_ j hj
    rcases hr.2 with ⟨h0, _⟩ | ⟨g, cap, cur, hv, _, hg, _⟩
    · simp only [Value.slice.injEq] at h0
      rw [h0.1] at e; cases e
    · injection hv with e1
      simp only at e1
      rw [e1] at e
      injection e with e
      simp only at e
      rw [e, h.dfr] at hg
      cases hg
  · exact (Rw.lt (h.kept.sep.at_ j hj) q e).1
theorem Fin.fill_any (h : Fin W w1 rs gb gl c2 u v D) (j : Nat) {A : Option Addr} {n c : Nat} {bs : List UInt8} (hj : rs[j]? = some ⟨A, n, c, bs⟩) (y : UInt8) (i : Int) (hi : ((y.toNat : Nat) : Int) = i) (hn : n ≤ 100000000000000) :
    Calls Try.prog 30 #[.slice A n c, .int .u8 i] W fun e W' => e = .returned (.tuple #[]) ∧ Fin W' w1 (rs.set j ⟨A, n, c, List.replicate n y⟩) gb gl c2 u v D := by
  subst hi
  refine (fillB_any _ _ _ _ _ y _ (h.kept.sep.at_ j hj) (by simp only; omega)).mono ?_
  rintro e w' ⟨he, ho, hc⟩
  exact ⟨he, h.upd j hj hc ho (.inl rfl)⟩
theorem Fin.grown_any (h : Fin W w1 rs gb gl c2 u v D) (j : Nat) {A : Option Addr} {n c : Nat} {bs : List UInt8} (hj : rs[j]? = some ⟨A, n, c, bs⟩) (y : UInt8) (i : Int) (hi : ((y.toNat : Nat) : Int) = i) (hn : n ≤ 100000000000000) :
    Calls Try.prog 31 #[.slice A n c, .int .u8 i] W fun e W' => ∃ A' c', e = .returned (.slice A' (n + 80) c') ∧ Fin W' w1 (rs.set j ⟨A', n + 80, c', bs ++ List.replicate 80 y⟩) gb gl c2 u v D := by
  subst hi
  refine (grownB_any _ _ _ _ _ y _ (h.kept.sep.at_ j hj) h.low.size (by simp only; omega)).mono ?_
  rintro e w' ⟨A', c', he, ho, hc, hm⟩
  exact ⟨A', c', he, h.upd j hj hc ho hm⟩
theorem Fin.bytes (h : Fin W w1 rs gb gl c2 u v D) (j : Nat) {A : Option Addr} {n c : Nat} {bs : List UInt8} (hj : rs[j]? = some ⟨A, n, c, bs⟩) (hn : n ≤ 281474976710656) : Bytes W A n bs := h.kept.sep.bytes j hj hn
theorem Fin.same_any (h : Fin W w1 rs gb gl c2 u v D) (i j : Nat) {A B : Option Addr} {n c m d : Nat} {bs : List UInt8} (hi : rs[i]? = some ⟨A, n, c, bs⟩) (hj : rs[j]? = some ⟨B, m, d, bs⟩) (hn : n ≤ 281474976710656) (hm : m ≤ 281474976710656) :
    Calls Try.prog 19 #[.slice A n c, .slice B m d] W fun e W' => e = .returned (.bool true) ∧ W = W' := by
  refine (Go.Proofs.Ytjgiiolamaimnaa.same_any _ _ _ _ _ _ _ _ _ (h.bytes i hi hn) (h.bytes j hj hm)).mono ?_
  rintro e w' ⟨rfl, rfl⟩
  exact ⟨by simp, rfl⟩
theorem Fin.marked_any (h : Fin W w1 rs gb gl c2 u v D) (j : Nat) {A : Option Addr} {n m c : Nat} (y z : UInt8) (hj : rs[j]? = some ⟨A, m, c, List.replicate n y ++ List.replicate 80 z⟩) (p q : Int) (hp : ((y.toNat : Nat) : Int) = p) (hq : ((z.toNat : Nat) : Int) = q) (hn : n ≤ 100000000000) (hm : m ≤ 281474976710656) (k : Int) (hk : k = (n : Nat)) :
    Calls Try.prog 32 #[.slice A m c, .int .i64 k, .int .u8 p, .int .u8 q] W fun e W' => e = .returned (.bool true) ∧ Fin W' w1 rs gb gl c2 u v D := by
  subst hp hq hk
  refine (markedB_any _ _ _ n _ y z _ (h.bytes j hj hm) (by omega)).mono ?_
  rintro e w' ⟨rfl, hb⟩
  exact ⟨by simp, h.below hb⟩
end
theorem same_self (A1 A2 : Option Addr) (l1 c1 l2 c2 : Nat) (bs : List UInt8) (w : World) (ha : Bytes w A1 l1 bs) (hb : Bytes w A2 l2 bs) :
    Calls Try.prog 19 #[.slice A1 l1 c1, .slice A2 l2 c2] w fun e w' => e = .returned (.bool true) ∧ w = w' := by
  refine (same_any _ _ _ _ _ _ _ _ _ ha hb).mono ?_
  rintro e w' ⟨rfl, rfl⟩
  exact ⟨by simp, rfl⟩
/-- A return of true by a plain result. -/
theorem leaves_tmp {w0 W : World} {fn : Func} {p : Tmp} {tmps : Array Value} (h : fn.results = #[.tmp p]) (hp : tmps.getD p undef = .bool true) (hB : Below w0.heap.size w0 W) :
    bodyPostM Fence.wide 5 Try.prog fn (fun e w' => e = .returned (.bool true) ∧ Below w0.heap.size w0 w') .ret { tmps := tmps, defers := [] } W :=
  ⟨.bool true, by rw [results_tmp h, hp], rfl, hB⟩
theorem leaves_tmp1 {w0 W : World} {fn : Func} {p : Tmp} {r : Nat} {tmps : Array Value} (h : fn.results = #[.tmp p]) (hp : tmps.getD p undef = .bool true) (hB : Below w0.heap.size w0 W)
    (hr : w0.heap.size ≤ r) (hK : W.heap[r]? = some (.deferred (some []))) :
    bodyPostM Fence.wide 5 Try.prog fn (fun e w' => e = .returned (.bool true) ∧ Below w0.heap.size w0 w') .ret { tmps := tmps, defers := [{ target := .collected r, args := #[] }] } W := by
  have c1 := chg_put (fun q => q = r) W r (.deferred none) rfl
  exact ⟨by simp, .inl ⟨_, _, rfl, run_takeDeferred (w := W) hK, ⟨.bool true, by rw [results_tmp h, hp], rfl, hB.trans (c1.below hB.size (fun q e => by omega))⟩⟩⟩
end Go.Proofs.Ytjgiiolamaimnaa
