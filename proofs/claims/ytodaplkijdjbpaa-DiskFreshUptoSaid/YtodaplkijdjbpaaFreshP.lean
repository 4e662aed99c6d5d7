/- A disk and rows of bytes apart from it: words for DiskFresh. -/
import Derived.Test.YtodaplkijdjbpaaGrown8
import Derived.Test.YtodaplkijdjbpaaApt
import Derived.Test.YtodaplkijdjbpaaFixed
namespace Go.Proofs.Ytodaplkijdjbpaa
open Go.RowKit
set_option linter.unusedVariables false
set_option linter.unusedSimpArgs false
/-- New rows beside the older ones. -/
theorem Sep.append {w w1 : World} {B : Nat} {rs ns : List Rw} (h : Sep w B rs) (hb : Below w.heap.size w w1) (hB : B ≤ w.heap.size) (hn : Sep w1 w.heap.size ns) : Sep w1 B (ns ++ rs) := by
  refine ⟨fun r hr => ?_, List.pairwise_append.2 ⟨hn.sep, h.sep, fun r hr s hs q e e2 => ?_⟩⟩
  · rcases List.mem_append.1 hr with hr | hr
    · exact own_mono (hn.own r hr) hB
    · exact own_below (h.own r hr) hb
  · have h1 := (Rw.lt (hn.own r hr) q e).1
    have h2 := (Rw.lt (h.own s hs) q e2).2
    omega
/-- The disk, and rows that are none of its blocks; all are in F. -/
structure Fs (w wx : World) (G pb : Nat) (P : Pd) (K : Nat) (F : Nat → Prop) (rs : List Rw) : Prop where
  apt : Apt w wx G pb P K F
  sep : Sep wx w.heap.size rs
  inF : ∀ r ∈ rs, ∀ q, blkO r.A = some q → F q
section
variable {w wx w1 : World} {G pb K L k n c i : Nat} {P : Pd} {F F' : Nat → Prop} {rs ns : List Rw} {A : Option Addr} {xs : List UInt8}
theorem Fs.low (h : Fs w wx G pb P K F rs) : Below w.heap.size w wx := h.apt.low
theorem Fs.op (h : Fs w wx G pb P K F rs) : ∃ ls, DAt wx G pb ls P K ∧ (w.heap.size ≤ G ∧ w.heap.size ≤ pb) ∧ ∀ Q L w', DTo wx G pb ls Q L w' P.n → Q.n = P.n → Fs w w' G pb Q L F rs ∧ Chg (fun k => ¬ F k) wx w' := by
  obtain ⟨ls, hd, hg, nx⟩ := h.apt.next
  refine ⟨ls, hd, hg, fun Q L w' ht hn => ?_⟩
  obtain ⟨a1, a2, a3⟩ := nx Q L w' ht hn
  exact ⟨⟨a1, h.sep.chg a2 (fun r hr q e e2 => e2 (h.inF r hr q e)), h.inF⟩, a2⟩
theorem Fs.below (h : Fs w wx G pb P K F rs) (hb : Below wx.heap.size wx w1) : Fs w w1 G pb P K (fun k => F k ∨ (wx.heap.size ≤ k ∧ k < w1.heap.size)) rs := ⟨h.apt.below hb, h.sep.below hb, fun r hr q e => .inl (h.inF r hr q e)⟩
theorem Fs.add (h : Fs w wx G pb P K F rs) (hb : Below wx.heap.size wx w1) (hn : Sep w1 wx.heap.size ns) : Fs w w1 G pb P K (fun k => F k ∨ (wx.heap.size ≤ k ∧ k < w1.heap.size)) (ns ++ rs) := by
  refine ⟨h.apt.below hb, h.sep.append hb h.low.size hn, fun r hr q e => ?_⟩
  rcases List.mem_append.1 hr with hr | hr
  · exact .inr (Rw.lt (hn.own r hr) q e)
  · exact .inl (h.inF r hr q e)
theorem Fs.add1 (h : Fs w wx G pb P K F rs) (hb : Below wx.heap.size wx w1) (ho : w1.ownsRow wx.heap.size 5 1 (.slice A n c) n (bvals xs)) : Fs w w1 G pb P K (fun k => F k ∨ (wx.heap.size ≤ k ∧ k < w1.heap.size)) (⟨A, n, c, xs⟩ :: rs) :=
  h.add hb (ns := [⟨A, n, c, xs⟩]) ⟨fun r hr => by rw [List.mem_singleton] at hr; subst hr; exact ho, List.pairwise_singleton _ _⟩
theorem Fs.mono (h : Fs w wx G pb P K F rs) (hk : K ≤ L) : Fs w wx G pb P L F rs := ⟨h.apt.mono hk, h.sep, h.inF⟩
/-- A block of F that is no row is written. -/
theorem Fs.box (h : Fs w wx G pb P K F rs) {C : Nat → Prop} (hc : Chg C wx w1) (hC : ∀ k, C k → F k) (h0 : ∀ k, C k → w.heap.size ≤ k) (hr : ∀ r ∈ rs, ∀ q, blkO r.A = some q → ¬ C q) : Fs w w1 G pb P K F rs := ⟨h.apt.free hc hC h0, h.sep.chg hc hr, h.inF⟩
/-- Nothing older has changed. -/
theorem Fs.keep (h : Fs w wx G pb P K F rs) (hb : Below wx.heap.size wx w1) : Fs w w1 G pb P K F rs := ⟨(h.apt.below hb).sub (fun k e => .inl e), h.sep.below hb, h.inF⟩
/-- A block of another type is written. -/
theorem Fs.other (h : Fs w wx G pb P K F rs) {g : Nat} {cs : Array Value} {t : TypeId} (hb : Blk wx g cs t) (hc : Chg (fun k => k = g) wx w1) (h1 : 83 ≠ t) (h2 : 87 ≠ t) (h3 : 116 ≠ t) (h4 : 5 ≠ t) (h0 : w.heap.size ≤ g) : Fs w w1 G pb P K F rs :=
  ⟨h.apt.other hc (fun k e => by subst e; exact ⟨_, _, hb, h1, h2, h3, h4⟩) (fun k e => by subst e; exact h0), h.sep.chg hc (fun r hr q e e2 => by subst e2; exact own_not_blk7 (h.sep.own r hr) hb h4 (by rw [ownBlock_slice]; exact e)), h.inF⟩
theorem Fs.own (h : Fs w wx G pb P K F rs) (hk : rs[k]? = some ⟨A, n, c, xs⟩) : wx.ownsRow w.heap.size 5 1 (.slice A n c) n (bvals xs) := h.sep.at_ k hk
theorem Fs.bytes (h : Fs w wx G pb P K F rs) (hk : rs[k]? = some ⟨A, n, c, xs⟩) (hn : n ≤ 281474976710656) : Bytes wx A n xs := own_bytes' (h.own hk) hn
/-- A byte of a row is written. -/
theorem Fs.write (h : Fs w wx G pb P K F rs) (hk : rs[k]? = some ⟨A, n, c, xs⟩) (hi : i < n) (y : UInt8) :
    ∃ b, A = some ⟨b, 0, none⟩ ∧ (∃ x : Int, wx.cell? ⟨b, i, none⟩ = some (.int .u8 x)) ∧ wx.frozen? ⟨b, i, none⟩ = false ∧ n ≤ c ∧ Fs w (wx.setCell ⟨b, i, none⟩ (.int .u8 ((y.toNat : Nat) : Int))) G pb P K F (rs.set k ⟨A, n, c, xs.set i y⟩) ∧
      (∀ g cs t, Blk wx g cs t → 5 ≠ t → Blk (wx.setCell ⟨b, i, none⟩ (.int .u8 ((y.toNat : Nat) : Int))) g cs t) := by
  have ho := h.own hk
  have hl : xs.length = n := by have := ho.1; rwa [bvals_length, Nat.mul_one] at this
  have hnc : n ≤ c := own_cap8 ho
  rcases ho.2 with ⟨_, h0⟩ | ⟨b, cap, cur, hv, -⟩
  · omega
  · injection hv with e1 e2 e3
    subst e1
    have hcell : wx.cell? ⟨b, i, none⟩ = some (.int .u8 (((xs.getD i 0).toNat : Nat) : Int)) := (ho.cellAt i (by omega)).trans (bvals_at _ _ (by omega))
    have hst := (ho.stored i (.int .u8 ((y.toNat : Nat) : Int))).1
    rw [bvals_set8] at hst
    have hC : Chg (fun q => blkO (some ⟨b, 0, none⟩) = some q) wx (wx.setCell ⟨b, i, none⟩ (.int .u8 ((y.toNat : Nat) : Int))) := Chg.set (F := fun q => blkO (some ⟨b, 0, none⟩) = some q) (Chg.refl _ _) (.inl rfl) _ _
    have hmem := List.mem_of_getElem? hk
    refine ⟨b, rfl, ⟨_, hcell⟩, ho.frozenAt i, hnc, ⟨h.apt.free hC (fun q e => h.inF _ hmem q e) (fun q e => (Rw.lt (h.sep.own _ hmem) q e).1), h.sep.upd k hk hC hst (.inl rfl), fun r hr q e => ?_⟩, fun g cs t hb ht => hb.chg hC (fun e => own_not_blk7 ho hb ht (by rw [ownBlock_slice]; exact e))⟩
    rcases List.mem_or_eq_of_mem_set hr with hr | rfl
    · exact h.inF r hr q e
    · exact h.inF _ hmem q e
end
/-- Rows in the other order. -/
theorem Sep.rev {w : World} {B : Nat} {rs : List Rw} (h : Sep w B rs) : Sep w B rs.reverse :=
  ⟨fun r hr => h.own r (List.mem_reverse.1 hr), List.pairwise_reverse.2 (h.sep.imp (fun e => Rw.apart_symm e))⟩
theorem Sep.left {w : World} {B : Nat} {rs ss : List Rw} (h : Sep w B (rs ++ ss)) : Sep w B rs := ⟨fun r hr => h.own r (List.mem_append_left _ hr), (List.pairwise_append.1 h.sep).1⟩
theorem apt_load8 {l : List (Int × List UInt8)} {w0 w w' : World} {G pb : Nat} {ls : Nat → Loc} (hb : Below w0.heap.size w0 w) (hw : Below w.heap.size w w') (hd : DAt w' G pb ls (Pd.load l) 0) (hk : ∀ k, dF G pb ls l.length k → w.heap.size ≤ k) : Apt w0 w' G pb (Pd.load l) 0 (fun k => k < w.heap.size) :=
  ⟨ls, hd, below_then hb hw hb.size, fun k e => Nat.le_trans hb.size (hk k e), fun k e => ⟨Nat.lt_of_lt_of_le e hw.size, fun e2 => by have := hk k e2; omega⟩⟩
/-- The disk of the law, step by step. -/
def frP (xs : List UInt8) : Pd := Pd.load [(3, xs), (5, xs)]
def frQ1 (xs bs : List UInt8) : Pd := ((frP xs).op 0 (Pa.append bs)).1
def frQ2 (xs bs : List UInt8) : Pd := ((frQ1 xs bs).op 1 (Pa.append bs)).1
def frQ3 (xs bs : List UInt8) : Pd := ((frQ2 xs bs).op 0 Pa.sync).1
def frQ4 (xs bs : List UInt8) : Pd := ((frQ3 xs bs).op 1 Pa.sync).1
theorem op_free {P : Pd} {j : Nat} {f : Pa → Option Pa} {a : Pa} (hj : j < P.n) (ha : P.down j = false) (hf : f (P.p j) = some a) : P.op (j : Int) f = (P.set j { a with f := (P.p j).f, done := (P.p j).done + 1 }, 0) := by
  unfold Pd.op
  rw [if_neg (by omega), Int.toNat_natCast, ha, hf]
  simp
theorem fr_e1 (xs bs : List UInt8) : (frP xs).op 0 (Pa.append bs) = ((frP xs).set 0 ⟨3, xs ++ bs, xs.length, Ft.no, 1⟩, 0) := by
  have := op_free (P := frP xs) (j := 0) (f := Pa.append bs) (a := ⟨3, xs ++ bs, xs.length, Ft.no, 0⟩) (by simp [frP, Pd.load]) (by simp [frP, Pd.load, Pd.down]) (by simp [frP, Pd.load, Pa.append, Pa.of])
  simpa [frP, Pd.load, Pa.of] using this
theorem fr_q1 (xs bs : List UInt8) : (frQ1 xs bs).n = 2 ∧ (frQ1 xs bs).armed = false ∧ (frQ1 xs bs).p 0 = ⟨3, xs ++ bs, xs.length, Ft.no, 1⟩ ∧ (frQ1 xs bs).p 1 = ⟨5, xs, xs.length, Ft.no, 0⟩ := by
  unfold frQ1
  rw [fr_e1]
  refine ⟨rfl, rfl, ?_, ?_⟩
  · simp only [Pd.set, upd_same]
  · simp only [Pd.set]
    rw [upd_other _ _ _ _ (by omega)]
    rfl
theorem fr_e2 (xs bs : List UInt8) : (frQ1 xs bs).op 1 (Pa.append bs) = ((frQ1 xs bs).set 1 ⟨5, xs ++ bs, xs.length, Ft.no, 1⟩, 0) := by
  obtain ⟨h1, h2, h3, h4⟩ := fr_q1 xs bs
  have := op_free (P := frQ1 xs bs) (j := 1) (f := Pa.append bs) (a := ⟨5, xs ++ bs, xs.length, Ft.no, 0⟩) (by omega) (by simp [Pd.down, h2]) (by rw [h4]; rfl)
  rw [h4] at this
  exact this
theorem fr_q2 (xs bs : List UInt8) : (frQ2 xs bs).n = 2 ∧ (frQ2 xs bs).armed = false ∧ (frQ2 xs bs).p 0 = ⟨3, xs ++ bs, xs.length, Ft.no, 1⟩ ∧ (frQ2 xs bs).p 1 = ⟨5, xs ++ bs, xs.length, Ft.no, 1⟩ := by
  obtain ⟨h1, h2, h3, h4⟩ := fr_q1 xs bs
  unfold frQ2
  rw [fr_e2]
  refine ⟨h1, h2, ?_, ?_⟩
  · simp only [Pd.set]
    rw [upd_other _ _ _ _ (by omega)]
    exact h3
  · simp only [Pd.set, upd_same]
theorem fr_e3 (xs bs : List UInt8) : (frQ2 xs bs).op 0 Pa.sync = ((frQ2 xs bs).set 0 ⟨3, xs ++ bs, (xs ++ bs).length, Ft.no, 2⟩, 0) := by
  obtain ⟨h1, h2, h3, h4⟩ := fr_q2 xs bs
  have := op_free (P := frQ2 xs bs) (j := 0) (f := Pa.sync) (a := ⟨3, xs ++ bs, (xs ++ bs).length, Ft.no, 1⟩) (by omega) (by simp [Pd.down, h2]) (by rw [h3]; rfl)
  rw [h3] at this
  exact this
theorem fr_q3 (xs bs : List UInt8) : (frQ3 xs bs).n = 2 ∧ (frQ3 xs bs).armed = false ∧ (frQ3 xs bs).p 0 = ⟨3, xs ++ bs, (xs ++ bs).length, Ft.no, 2⟩ ∧ (frQ3 xs bs).p 1 = ⟨5, xs ++ bs, xs.length, Ft.no, 1⟩ := by
  obtain ⟨h1, h2, h3, h4⟩ := fr_q2 xs bs
  unfold frQ3
  rw [fr_e3]
  refine ⟨h1, h2, ?_, ?_⟩
  · simp only [Pd.set, upd_same]
  · simp only [Pd.set]
    rw [upd_other _ _ _ _ (by omega)]
    exact h4
theorem fr_e4 (xs bs : List UInt8) : (frQ3 xs bs).op 1 Pa.sync = ((frQ3 xs bs).set 1 ⟨5, xs ++ bs, (xs ++ bs).length, Ft.no, 2⟩, 0) := by
  obtain ⟨h1, h2, h3, h4⟩ := fr_q3 xs bs
  have := op_free (P := frQ3 xs bs) (j := 1) (f := Pa.sync) (a := ⟨5, xs ++ bs, (xs ++ bs).length, Ft.no, 1⟩) (by omega) (by simp [Pd.down, h2]) (by rw [h4]; rfl)
  rw [h4] at this
  exact this
theorem fr_q4 (xs bs : List UInt8) : (frQ4 xs bs).n = 2 ∧ (frQ4 xs bs).armed = false ∧ (frQ4 xs bs).p 0 = ⟨3, xs ++ bs, (xs ++ bs).length, Ft.no, 2⟩ ∧ (frQ4 xs bs).p 1 = ⟨5, xs ++ bs, (xs ++ bs).length, Ft.no, 2⟩ := by
  obtain ⟨h1, h2, h3, h4⟩ := fr_q3 xs bs
  unfold frQ4
  rw [fr_e4]
  refine ⟨h1, h2, ?_, ?_⟩
  · simp only [Pd.set]
    rw [upd_other _ _ _ _ (by omega)]
    exact h3
  · simp only [Pd.set, upd_same]
/-- Armed, it answers so. -/
structure FrA (ws : List UInt8) (fd : Int) (P : Pd) : Prop where
  n : P.n = 2
  r0 : ∀ m : Nat, m = ws.length → P.read 0 3 m = (ws, 0)
  r1 : ∀ m : Nat, m = ws.length → P.read 1 5 m = (ws, 0)
  im : P.image = [(3, ws), (5, ws)]
  sy : (P.op 0 Pa.sync).2 = if fd ≤ 0 then 80 else 0
  im2 : (P.op 0 Pa.sync).1.image = [(3, ws), (5, ws)]
theorem fr_arm (xs bs : List UInt8) (f : Ft) : FrA (xs ++ bs) f.d ((frQ4 xs bs).arm [f, f] true) := by
  obtain ⟨h1, h2, h3, h4⟩ := fr_q4 xs bs
  have p0 : ((frQ4 xs bs).arm [f, f] true).p 0 = ⟨3, xs ++ bs, (xs ++ bs).length, f, 0⟩ := by simp only [Pd.arm, h3, Pa.arm]; rfl
  have p1 : ((frQ4 xs bs).arm [f, f] true).p 1 = ⟨5, xs ++ bs, (xs ++ bs).length, f, 0⟩ := by simp only [Pd.arm, h4, Pa.arm]; rfl
  have hn : ((frQ4 xs bs).arm [f, f] true).n = 2 := h1
  have ha : ((frQ4 xs bs).arm [f, f] true).armed = true := rfl
  generalize (frQ4 xs bs).arm [f, f] true = P at *
  generalize xs ++ bs = ws at *
  have hi : ∀ Q : Pd, Q.n = 2 → Q.p 0 = ⟨3, ws, ws.length, (Q.p 0).f, (Q.p 0).done⟩ → Q.p 1 = ⟨5, ws, ws.length, (Q.p 1).f, (Q.p 1).done⟩ → Q.image = [(3, ws), (5, ws)] := fun Q q1 q2 q3 => by
    unfold Pd.image Pd.imageK
    rw [q1]
    show [((Q.p 0).base, (Q.p 0).bs.take (Q.p 0).safe), ((Q.p 1).base, (Q.p 1).bs.take (Q.p 1).safe)] = _
    rw [q2, q3]
    simp
  refine ⟨hn, fun m hm => ?_, fun m hm => ?_, hi P hn (by rw [p0]) (by rw [p1]), ?_, ?_⟩
  · have := read_all P 0 (by omega)
    rw [p0] at this
    rw [hm]
    exact this
  · have := read_all P 1 (by omega)
    rw [p1] at this
    rw [hm]
    exact this
  · unfold Pd.op
    rw [if_neg (by omega)]
    have e0 : (0 : Int).toNat = 0 := rfl
    rw [e0]
    by_cases hd : f.d ≤ 0
    · rw [if_pos hd, if_pos (by simp [Pd.down, ha, p0, hd])]
    · rw [if_neg hd, if_neg (by simp [Pd.down, ha, p0, hd])]
      rfl
  · unfold Pd.op
    rw [if_neg (by omega)]
    have e0 : (0 : Int).toNat = 0 := rfl
    rw [e0]
    split
    · exact hi P hn (by rw [p0]) (by rw [p1])
    · rw [p0]
      show (P.set 0 _).image = _
      refine hi _ hn ?_ ?_
      · simp only [Pd.set, upd_same]
      · simp only [Pd.set]
        rw [upd_other _ _ _ _ (by omega), p1]
theorem four_cells {w : World} {q : Nat} {a b c d : Value} {t : TypeId} (h : Blk w q #[a, b, c, d] t) : w.cell? ⟨q, 0, none⟩ = some a ∧ w.cell? ⟨q, 1, none⟩ = some b ∧ w.cell? ⟨q, 2, none⟩ = some c ∧ w.cell? ⟨q, 3, none⟩ = some d ∧ ∀ j, w.frozen? ⟨q, j, none⟩ = false := ⟨h.cell 0, h.cell 1, h.cell 2, h.cell 3, h.frozen⟩
theorem Fs.full {w wx : World} {G pb K k n c : Nat} {P : Pd} {F : Nat → Prop} {rs : List Rw} {A : Option Addr} {zs : List UInt8} {y : UInt8} (h : Fs w wx G pb P K F rs) (hk : rs[k]? = some ⟨A, n, c, zs⟩) (hj : ∀ j, j < n → zs.getD j 0 = y) : zs = List.replicate n y := by
  have := (h.own hk).1
  rw [bvals_length, Nat.mul_one] at this
  exact all_marks8 this hj
theorem own_blk8 {w : World} {B : Nat} {e : TypeId} {sz n c : Nat} {A : Option Addr} {xs : List Value} (h : w.ownsRow B e sz (.slice A n c) n xs) (h0 : n ≠ 0) : ∃ g cs, A = some ⟨g, 0, none⟩ ∧ B ≤ g ∧ Blk w g cs e ∧ n * sz ≤ cs.size ∧ ∀ j, j < n * sz → cs[j]? = xs[j]? := by
  rcases h.2 with ⟨_, e⟩ | ⟨g, cap, cur, hv, hb, hg, hnc, hcm, hcs, ht⟩
  · exact absurd e h0
  · injection hv with e1 e2 e3
    refine ⟨g, cur, e1, hb, hg, by rw [hcs]; exact Nat.mul_le_mul_right _ hnc, fun j hj => ?_⟩
    have := h.1
    rw [← ht, List.getElem?_take, if_pos hj, Array.getElem?_toList]
theorem span_cap8 {w : World} {B n z c : Nat} {e : TypeId} {A : Option Addr} {xs : List Value} (h : w.ownsRow B e z (.slice A n c) n xs) : n ≤ c := by
  rcases h.2 with ⟨h1, h0⟩ | ⟨g, cap, cur, hv, _, _, hnc, _⟩
  · omega
  · injection hv with _ _ e
    omega
/-- Two spans in memory that the call made. -/
def SpB (w : World) (g : Nat) (b0 b1 : Int) (r0 r1 : Rw) : Prop := ∃ cs, Blk w g cs 44 ∧ 4 ≤ cs.size ∧ cs[0]? = some (.int .i64 b0) ∧ cs[1]? = some (.slice r0.A r0.n r0.c) ∧ cs[2]? = some (.int .i64 b1) ∧ cs[3]? = some (.slice r1.A r1.n r1.c)
theorem SpB.keep {w w1 : World} {g : Nat} {b0 b1 : Int} {r0 r1 : Rw} (h : SpB w g b0 b1 r0 r1) (hk : ∀ cs, Blk w g cs 44 → Blk w1 g cs 44) : SpB w1 g b0 b1 r0 r1 := by
  obtain ⟨cs, h1, h2⟩ := h
  exact ⟨cs, hk cs h1, h2⟩
theorem SpB.below {w w1 : World} {g : Nat} {b0 b1 : Int} {r0 r1 : Rw} (h : SpB w g b0 b1 r0 r1) (hb : Below w.heap.size w w1) : SpB w1 g b0 b1 r0 r1 := h.keep (fun cs hc => hc.keep hb)
theorem SpB.cells {w : World} {g : Nat} {b0 b1 : Int} {r0 r1 : Rw} (h : SpB w g b0 b1 r0 r1) : w.cell? ⟨g, 0, none⟩ = some (.int .i64 b0) ∧ w.cell? ⟨g, 1, none⟩ = some (.slice r0.A r0.n r0.c) ∧ w.cell? ⟨g, 2, none⟩ = some (.int .i64 b1) ∧ w.cell? ⟨g, 3, none⟩ = some (.slice r1.A r1.n r1.c) ∧ ∀ j, w.frozen? ⟨g, j, none⟩ = false := by
  obtain ⟨cs, h1, h2, h3, h4, h5, h6⟩ := h
  exact ⟨(h1.cell _).trans h3, (h1.cell _).trans h4, (h1.cell _).trans h5, (h1.cell _).trans h6, h1.frozen⟩
theorem SpB.blk {w : World} {g : Nat} {b0 b1 : Int} {r0 r1 : Rw} (h : SpB w g b0 b1 r0 r1) : ∃ cs, Blk w g cs 44 := by
  obtain ⟨cs, h1, _⟩ := h
  exact ⟨cs, h1⟩
theorem SpB.set0 {w : World} {g : Nat} {b0 b1 : Int} {r0 r1 : Rw} (h : SpB w g b0 b1 r0 r1) (b : Int) : SpB (w.setCell ⟨g, 0, none⟩ (.int .i64 b)) g b b1 r0 r1 := by
  obtain ⟨cs, h1, h2, h3, h4, h5, h6⟩ := h
  exact ⟨_, h1.set _ _, by rw [Array.size_setIfInBounds]; exact h2, set_at (by omega), by rw [set_off (by omega)]; exact h4, by rw [set_off (by omega)]; exact h5, by rw [set_off (by omega)]; exact h6⟩
theorem SpB.set1 {w : World} {g : Nat} {b0 b1 : Int} {r0 r1 : Rw} (h : SpB w g b0 b1 r0 r1) (b : Int) : SpB (w.setCell ⟨g, 2, none⟩ (.int .i64 b)) g b0 b r0 r1 := by
  obtain ⟨cs, h1, h2, h3, h4, h5, h6⟩ := h
  exact ⟨_, h1.set _ _, by rw [Array.size_setIfInBounds]; exact h2, by rw [set_off (by omega)]; exact h3, by rw [set_off (by omega)]; exact h4, set_at (by omega), by rw [set_off (by omega)]; exact h6⟩
/-- What an Image of the law's disk is. -/
theorem two_spans {w w' : World} {A : Option Addr} {n c : Nat} {qs : List (Int × Rw)} {ws : List UInt8} (hS : Spans w' w.heap.size A n c qs) (hq : qs.map (fun q => (q.1, q.2.bs)) = [(3, ws), (5, ws)]) :
    ∃ g A0 c0 A1 c1, n = 2 ∧ A = some ⟨g, 0, none⟩ ∧ w.heap.size ≤ g ∧ SpB w' g 3 5 ⟨A0, ws.length, c0, ws⟩ ⟨A1, ws.length, c1, ws⟩ ∧ Sep w' w.heap.size [⟨A1, ws.length, c1, ws⟩, ⟨A0, ws.length, c0, ws⟩] ∧ 2 ≤ c := by
  match qs, hq with
  | [(x0, r0), (x1, r1)], hq =>
    simp only [List.map_cons, List.map_nil, List.cons.injEq, Prod.mk.injEq, and_true] at hq
    obtain ⟨⟨rfl, e0⟩, rfl, e1⟩ := hq
    have hn : n = 2 := hS.len.symm
    subst hn
    obtain ⟨g, cs, hA, hg, hb, hz, hc⟩ := own_blk8 hS.row (by omega)
    have hcap := span_cap8 hS.row
    obtain ⟨A0, n0, c0, y0⟩ := r0
    obtain ⟨A1, n1, c1, y1⟩ := r1
    simp only at e0 e1
    subst e0
    have hsep : Sep w' w.heap.size [⟨A1, n1, c1, y1⟩, ⟨A0, n0, c0, y0⟩] := hS.sep
    have l0 := (hsep.own _ (List.mem_cons_of_mem _ (List.mem_cons_self ..))).1
    have l1 := (hsep.own _ (List.mem_cons_self ..)).1
    simp only [bvals_length, Nat.mul_one] at l0 l1
    subst e1
    subst l0 l1
    refine ⟨g, A0, c0, A1, c1, rfl, hA, hg, ⟨cs, hb, hz, ?_, ?_, ?_, ?_⟩, hsep, hcap⟩
    · rw [hc 0 (by omega)]; rfl
    · rw [hc 1 (by omega)]; rfl
    · rw [hc 2 (by omega)]; rfl
    · rw [hc 3 (by omega)]; rfl
  | [], hq => simp at hq
  | [_], hq => simp at hq
  | _ :: _ :: _ :: _, hq => simp at hq
section
variable {w wx : World} {G pb K m : Nat} {P : Pd} {F : Nat → Prop} {rs : List Rw} {ws : List UInt8}
theorem rd_any (h : Fs w wx G pb P K F rs) (hK : K ≤ 4294967296) (hl : ws.length = m) (hm : m ≤ 1099511627776) (i x : Int) (hr : P.read i x (m : Nat) = (ws, 0)) :
    Calls Try.prog 28 #[.pointer (some ⟨G, 0, none⟩), .int .i64 i, .int .i64 x, .int .i64 (m : Nat)] wx fun e w' => ∃ A c, e = .returned (.tuple #[.slice A m c, .int .i64 0]) ∧ Below wx.heap.size wx w' ∧ w'.ownsRow wx.heap.size 5 1 (.slice A m c) m (bvals ws) := by
  obtain ⟨ls, hD, -, -⟩ := h.op
  have := diskRead_any hD hK i x (m : Nat) (by omega) (by omega)
  rw [hr] at this
  refine this.mono ?_
  rintro e w' ⟨A, c, rfl, ho, hb⟩
  simp only at ho ⊢
  rw [hl] at ho ⊢
  exact ⟨A, c, rfl, hb, ho⟩
theorem im_any (h : Fs w wx G pb P K F rs) (hl : ws.length = m) (hi : P.image = [(3, ws), (5, ws)]) :
    Calls Try.prog 21 #[.pointer (some ⟨G, 0, none⟩)] wx fun e w' => ∃ g c A0 c0 A1 c1, e = .returned (.slice (some ⟨g, 0, none⟩) 2 c) ∧ Below wx.heap.size wx w' ∧ wx.heap.size ≤ g ∧ SpB w' g 3 5 ⟨A0, m, c0, ws⟩ ⟨A1, m, c1, ws⟩ ∧ Sep w' wx.heap.size [⟨A1, m, c1, ws⟩, ⟨A0, m, c0, ws⟩] ∧ 2 ≤ c := by
  obtain ⟨ls, hD, -, -⟩ := h.op
  refine (diskImage_any hD).mono ?_
  rintro e w' ⟨A, n, c, qs, rfl, hS, hq, hb⟩
  rw [hi] at hq
  obtain ⟨g, A0, c0, A1, c1, rfl, rfl, h1, h2, h3, h4⟩ := two_spans hS hq
  rw [hl] at h2 h3
  exact ⟨g, c, A0, c0, A1, c1, rfl, hb, h1, h2, h3, h4⟩
end
theorem Fs.put1 {w wx w1 : World} {G pb K n c : Nat} {P : Pd} {F : Nat → Prop} {rs : List Rw} {A : Option Addr} {xs : List UInt8} (h : Fs w wx G pb P K F rs) (hb : Below wx.heap.size wx w1) (ho : w1.ownsRow wx.heap.size 5 1 (.slice A n c) n (bvals xs)) : ∃ F', Fs w w1 G pb P K F' (⟨A, n, c, xs⟩ :: rs) := ⟨_, h.add1 hb ho⟩
theorem Fs.put2 {w wx w1 : World} {G pb K : Nat} {P : Pd} {F : Nat → Prop} {rs : List Rw} {r s : Rw} (h : Fs w wx G pb P K F rs) (hb : Below wx.heap.size wx w1) (hn : Sep w1 wx.heap.size [r, s]) : ∃ F', Fs w w1 G pb P K F' (r :: s :: rs) := ⟨_, h.add hb hn⟩
/-- The cells of two pairs of spans. -/
theorem im4 {w w1 : World} {g g' : Nat} {b0 b1 c0 c1 : Int} {r0 r1 s0 s1 : Rw} (h : SpB w g b0 b1 r0 r1) (h' : SpB w g' c0 c1 s0 s1) (hb : Below w.heap.size w w1) :
    w1.cell? ⟨g, 1, none⟩ = some (.slice r0.A r0.n r0.c) ∧ w1.cell? ⟨g, 3, none⟩ = some (.slice r1.A r1.n r1.c) ∧ w1.cell? ⟨g', 1, none⟩ = some (.slice s0.A s0.n s0.c) ∧ w1.cell? ⟨g', 3, none⟩ = some (.slice s1.A s1.n s1.c) :=
  ⟨(h.below hb).cells.2.1, (h.below hb).cells.2.2.2.1, (h'.below hb).cells.2.1, (h'.below hb).cells.2.2.2.1⟩
theorem info_int8 : (Try.prog.info? 3).map (fun i => (i.zero, i.size, i.bytes)) = some (some (.int .i64 0), 1, 8) := by kernel_rfl
section
variable {w wx w1 : World} {G pb K g B : Nat} {P : Pd} {F : Nat → Prop} {ns rs : List Rw}
/-- The lists were grown: the others are as they were. -/
theorem Fs.grown (h : Fs w wx G pb P K F (ns ++ rs)) {cs : Array Value} (hg : Blk wx g cs 30) (hgF : F g) (h0 : w.heap.size ≤ g) (hc : Chg (fun q => q = g ∨ ∃ r ∈ ns.reverse, blkO r.A = some q) wx w1) : Fs w w1 G pb P K F rs := by
  refine ⟨h.apt.free hc (fun q e => ?_) (fun q e => ?_), ⟨fun r hr => own_chg (h.sep.own r (List.mem_append_right _ hr)) hc (fun q e e2 => ?_), (List.pairwise_append.1 h.sep.sep).2.1⟩, fun r hr q e => h.inF r (List.mem_append_right _ hr) q e⟩
  · rcases e with e | ⟨r, hr, e⟩
    · exact e ▸ hgF
    · exact h.inF r (List.mem_append_left _ (List.mem_reverse.1 hr)) q e
  · rcases e with e | ⟨r, hr, e⟩
    · exact e ▸ h0
    · exact (Rw.lt (h.sep.own r (List.mem_append_left _ (List.mem_reverse.1 hr))) q e).1
  · have e' := e
    rw [ownBlock_slice] at e'
    rcases e2 with e2 | ⟨s, hs, e2⟩
    · subst e2
      exact own_not_blk7 (h.sep.own r (List.mem_append_right _ hr)) hg (by decide) e
    · exact (List.pairwise_append.1 h.sep.sep).2.2 s (List.mem_reverse.1 hs) r hr q e2 e'
theorem keep_grown (h : Rows8 wx B g rs) (hc : Chg (fun q => q = g ∨ ∃ r ∈ rs, blkO r.A = some q) wx w1) {q : Nat} {cs : Array Value} {t : TypeId} (hb : Blk wx q cs t) (h1 : 30 ≠ t) (h2 : 5 ≠ t) : Blk w1 q cs t :=
  hb.chg hc (fun e => by
    rcases e with e | ⟨r, hr, e⟩
    · exact blk_type h.blk hb h1 e.symm
    · exact own_not_blk7 (h.sep.own r hr) hb h2 (by rw [ownBlock_slice]; exact e))
end
theorem Sep.congr {w : World} {B : Nat} {rs ss : List Rw} (h : Sep w B rs) (e : rs = ss) : Sep w B ss := e ▸ h
theorem ballocF {w0 w : World} {o : Obj} (h : Below w0.heap.size w0 w) : Below w0.heap.size w0 (w.alloc o) := h.alloc h.size o
theorem keep1 {w w1 : World} {g j : Nat} {v : Value} (h : w.cell? ⟨g, j, none⟩ = some v) (hb : Below w.heap.size w w1) : w1.cell? ⟨g, j, none⟩ = some v := (hb.cell (p := ⟨g, j, none⟩) (block_lt_of_cell h)).trans h
section
variable {w wx W : World} {G pb K L m : Nat} {P : Pd} {F : Nat → Prop} {rs : List Rw} {ws : List UInt8}
theorem sync_at (h : Fs w wx G pb P K F rs) (hb : Below wx.heap.size wx W) {se : Int} (hse : (P.op 0 Pa.sync).2 = se) (hk : K + 1 ≤ L) (hL : L ≤ 4294967296) :
    Calls Try.prog 27 #[.pointer (some ⟨G, 0, none⟩), .int .i64 0] W fun e w' => e = .returned (.int .i64 se) ∧ Fs w w' G pb (P.op 0 Pa.sync).1 L F rs ∧ ∀ q cs t, Blk wx q cs t → 83 ≠ t → 87 ≠ t → 116 ≠ t → 5 ≠ t → Blk w' q cs t := by
  obtain ⟨ls, hD, -, nx⟩ := (h.keep hb).op
  refine (diskSync_any hD 0 hk hL).mono ?_
  rintro e w' ⟨he, hT⟩
  rw [hse] at he
  exact ⟨he, (nx _ _ _ hT (Pd.op_n _ _ _)).1, fun q cs t hq t1 t2 t3 t4 => hT.blk hD (hq.keep hb) t1 t2 t3 t4⟩
theorem im_at (h : Fs w wx G pb P K F rs) (hb : Below wx.heap.size wx W) (hm : m ≤ 281474976710656) (hl : ws.length = m) (hi : P.image = [(3, ws), (5, ws)]) :
    Calls Try.prog 21 #[.pointer (some ⟨G, 0, none⟩)] W fun e w' => ∃ g c, e = .returned (.slice (some ⟨g, 0, none⟩) 2 c) ∧ Below W.heap.size W w' ∧ Below wx.heap.size wx W ∧ SpAt w' (some ⟨g, 0, none⟩) 2 [(3, ws), (5, ws)] := by
  refine (im_any (h.keep hb) hl hi).mono ?_
  rintro e w' ⟨g, c, A0, c0, A1, c1, rfl, hb2, hg, hS, hsep, hc⟩
  obtain ⟨u0, u1, u2, u3, -⟩ := hS.cells
  have o0 := hsep.own _ (List.mem_cons_of_mem _ (List.mem_cons_self ..))
  have o1 := hsep.own _ (List.mem_cons_self ..)
  refine ⟨g, c, rfl, hb2, hb, rfl, .inr ⟨g, 0, rfl, fun j hj => ?_⟩⟩
  have e : j = 0 ∨ j = 1 := by omega
  rcases e with rfl | rfl
  · exact ⟨u0, _, _, _, u1, own_bytes' o0 (by simp only; omega), own_cap8 o0⟩
  · exact ⟨u2, _, _, _, u3, own_bytes' o1 (by simp only; omega), own_cap8 o1⟩
theorem lit_at {A : Option Addr} {c g : Nat} (h : Blk W g #[.int .i64 3, .slice A m c, .int .i64 5, .slice A m c] 44) (hb : Bytes W A m ws) (hc : m ≤ c) : SpAt W (some ⟨g, 0, none⟩) 2 [(3, ws), (5, ws)] := by
  refine ⟨rfl, .inr ⟨g, 0, rfl, fun j hj => ?_⟩⟩
  have e : j = 0 ∨ j = 1 := by omega
  rcases e with rfl | rfl
  · exact ⟨h.cell 0, _, _, _, h.cell 1, hb, hc⟩
  · exact ⟨h.cell 2, _, _, _, h.cell 3, hb, hc⟩
theorem marked0 {A : Option Addr} {l c : Nat} {z : UInt8} {zi : Int} (hb : Bytes wx A l (List.replicate l z)) (hz : ((z.toNat : Nat) : Int) = zi) (hW : Below wx.heap.size wx W) :
    Calls Try.prog 32 #[.slice A l c, .int .i64 0, .int .u8 0, .int .u8 zi] W fun e w' => e = .returned (.bool true) ∧ Below wx.heap.size wx w' := by
  subst hz
  refine (marked_any A l c 0 l 0 z W (hb.below hW)).mono ?_
  rintro e w' ⟨he, q, rfl⟩
  exact ⟨he, below_then hW (below_drew7 W q) hW.size⟩
theorem equal_at {A B : Option Addr} {l c c' : Nat} (ha : Bytes wx A l ws) (hb : Bytes wx B l ws) (hW : Below wx.heap.size wx W) :
    Calls Try.prog 18 #[.slice A l c, .slice B l c'] W fun e w' => e = .returned (.bool true) ∧ Below wx.heap.size wx w' := by
  refine (equal_same A B l c l c' ws W (ha.below hW) (hb.below hW)).mono ?_
  rintro e w' ⟨he, q, rfl⟩
  exact ⟨he, below_then hW (below_drew7 W q) hW.size⟩
theorem spans_at {A B : Option Addr} {c c' : Nat} {l : List (Int × List UInt8)} (ha : SpAt W A 2 l) (hb : SpAt W B 2 l) (hW : Below wx.heap.size wx W) :
    Calls Try.prog 31 #[.slice A 2 c, .slice B 2 c'] W fun e w' => e = .returned (.bool true) ∧ Below wx.heap.size wx w' := by
  refine (spansAlike_same A B 2 c c' l W ha hb (by omega)).mono ?_
  rintro e w' ⟨he, q, rfl⟩
  exact ⟨he, below_then hW (below_drew7 W q) hW.size⟩
theorem fixed_at (hW : Below wx.heap.size wx W) : Calls Try.prog 15 #[] W fun e w' => e = .returned (.bool true) ∧ Below wx.heap.size wx w' := by
  refine (fixed_any W).mono ?_
  rintro e w' ⟨he, hb⟩
  exact ⟨he, below_then hW hb hW.size⟩
end
end Go.Proofs.Ytodaplkijdjbpaa
