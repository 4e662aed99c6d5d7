/- A disk in memory, and what it is as a plain thing. -/
import Derived.Test.YtodaplkijdjbpaaAreaT
import Derived.Test.YtodaplkijdjbpaaAreaR
import Derived.Test.YtodaplkijdjbpaaAreaC
import Derived.Test.YtodaplkijdjbpaaAreaI
import Derived.Test.YtodaplkijdjbpaaOpen
namespace Go.Proofs.Ytodaplkijdjbpaa
open Go.RowKit
set_option linter.unusedVariables false
set_option linter.unusedSimpArgs false
/-- A fate. -/
structure Ft where
  d : Int
  k : Int
  t : UInt8
def Ft.no : Ft := ⟨0, 0, 0⟩
def Ft.ok (f : Ft) : Prop := -9223372036854775808 ≤ f.d ∧ f.d ≤ 9223372036854775807 ∧ -9223372036854775808 ≤ f.k ∧ f.k ≤ 9223372036854775807
/-- A plain area with its fate and its count. -/
structure Pa where
  base : Int
  bs : List UInt8
  safe : Nat
  f : Ft
  done : Nat
def Pa.new : Pa := ⟨0, [], 0, Ft.no, 0⟩
/-- A plain disk. -/
structure Pd where
  n : Nat
  p : Nat → Pa
  armed : Bool
def upd {α : Type} (f : Nat → α) (i : Nat) (x : α) : Nat → α := fun j => if j = i then x else f j
theorem upd_same {α : Type} (f : Nat → α) (i : Nat) (x : α) : upd f i x i = x := by simp [upd]
theorem upd_other {α : Type} (f : Nat → α) (i j : Nat) (x : α) (h : j ≠ i) : upd f i x j = f j := by simp [upd, h]
/-- What so many steps and bytes may come to. -/
structure Pa.lim (a : Pa) (K : Nat) : Prop where
  d : a.done ≤ K
  b0 : 0 ≤ a.base
  e : a.base + a.bs.length ≤ 4611826755915743232 + K
  n : a.bs.length ≤ 140737488355328 + K
  s : a.safe ≤ a.bs.length
  f : a.f.ok
theorem Pa.lim.mono {a : Pa} {K L : Nat} (h : a.lim K) (hk : K ≤ L) : a.lim L := ⟨by have := h.d; omega, h.b0, by have := h.e; omega, by have := h.n; omega, h.s, h.f⟩
structure Pd.lim (P : Pd) (K : Nat) : Prop where
  n0 : 1 ≤ P.n
  n1 : P.n ≤ 16
  a : ∀ j, j < P.n → (P.p j).lim K
theorem Pd.lim.mono {P : Pd} {K L : Nat} (h : P.lim K) (hk : K ≤ L) : P.lim L := ⟨h.n0, h.n1, fun j hj => (h.a j hj).mono hk⟩
def Pd.set (P : Pd) (i : Nat) (a : Pa) : Pd := { P with p := upd P.p i a }
theorem Pd.lim.set {P : Pd} {K : Nat} (h : P.lim K) (i : Nat) {a : Pa} (ha : a.lim K) : (P.set i a).lim K := ⟨h.n0, h.n1, fun j hj => by
  by_cases e : j = i
  · subst e; simp only [Pd.set, upd_same]; exact ha
  · simp only [Pd.set, upd_other _ _ _ _ e]; exact h.a j hj⟩
/-- Where an area lies. -/
structure Loc where
  g : Nat
  A : Option Addr
  c : Nat
/-- The cells of a disk's parts. -/
structure Cells (P : Pd) (ls : Nat → Loc) (cs : Array Value) : Prop where
  size : cs.size = P.n * 5
  ptr : ∀ j, j < P.n → cs[j * 5]? = some (.pointer (some ⟨(ls j).g, 0, none⟩))
  fd : ∀ j, j < P.n → cs[j * 5 + 1]? = some (.int .i64 (P.p j).f.d)
  fk : ∀ j, j < P.n → cs[j * 5 + 2]? = some (.int .i64 (P.p j).f.k)
  ft : ∀ j, j < P.n → cs[j * 5 + 3]? = some (.int .u8 (((P.p j).f.t.toNat : Nat) : Int))
  dn : ∀ j, j < P.n → cs[j * 5 + 4]? = some (.int .i64 ((P.p j).done : Nat))
/-- A disk in memory. -/
structure DAt (w : World) (G pb : Nat) (ls : Nat → Loc) (P : Pd) (K : Nat) : Prop where
  hd : Blk w G #[.slice (some ⟨pb, 0, none⟩) P.n P.n, .bool P.armed] 83
  ps : ∃ cs, Blk w pb cs 87 ∧ Cells P ls cs
  ar : ∀ j, j < P.n → Ar w (ls j).g (ls j).A (ls j).c (P.p j).base (P.p j).bs (P.p j).safe
  ap : ∀ i j, i < P.n → j < P.n → i ≠ j → ∀ k, arF (ls i).g (ls i).A k → ¬ arF (ls j).g (ls j).A k
  lim : P.lim K
/-- Its blocks. -/
def dF (G pb : Nat) (ls : Nat → Loc) (n : Nat) : Nat → Prop := fun k => k = G ∨ k = pb ∨ ∃ j, j < n ∧ arF (ls j).g (ls j).A k
theorem blk_type {w : World} {g g' : Nat} {cs cs' : Array Value} {t t' : TypeId} (h : Blk w g cs t) (h' : Blk w g' cs' t') (hne : t ≠ t') : g ≠ g' := by
  intro e
  subst e
  rw [Blk] at h h'
  rw [h] at h'
  injection h' with h'
  injection h' with a b c
  exact hne b
theorem Ar.off {w : World} {g : Nat} {A : Option Addr} {c : Nat} {base : Int} {bs : List UInt8} {s : Nat} (h : Ar w g A c base bs s) {G : Nat} {cs : Array Value} {t : TypeId} (hb : Blk w G cs t) (h1 : 116 ≠ t) (h2 : 5 ≠ t) : ¬ arF g A G := by
  intro e
  rcases e with e | e
  · exact blk_type h.blk hb h1 e.symm
  · exact own_not_blk7 h.own hb h2 (by rw [ownBlock_slice]; exact e)
section
variable {w w' : World} {G pb K : Nat} {ls : Nat → Loc} {P : Pd}
theorem DAt.pbG (h : DAt w G pb ls P K) : pb ≠ G := by
  obtain ⟨cs, hb, _⟩ := h.ps
  exact blk_type hb h.hd (by decide)
theorem DAt.offG (h : DAt w G pb ls P K) (j : Nat) (hj : j < P.n) : ¬ arF (ls j).g (ls j).A G := (h.ar j hj).off h.hd (by decide) (by decide)
theorem DAt.offP (h : DAt w G pb ls P K) (j : Nat) (hj : j < P.n) : ¬ arF (ls j).g (ls j).A pb := by
  obtain ⟨cs, hb, _⟩ := h.ps
  exact (h.ar j hj).off hb (by decide) (by decide)
theorem DAt.lt (h : DAt w G pb ls P K) : ∀ k, dF G pb ls P.n k → k < w.heap.size := by
  rintro k (rfl | rfl | ⟨j, hj, e⟩)
  · exact h.hd.lt
  · obtain ⟨cs, hb, _⟩ := h.ps
    exact hb.lt
  · rcases e with rfl | e
    · exact (h.ar j hj).lt
    · exact (h.ar j hj).lt2 k e
theorem DAt.chg {F : Nat → Prop} (h : DAt w G pb ls P K) (hc : Chg F w w') (hn : ∀ k, dF G pb ls P.n k → ¬ F k) : DAt w' G pb ls P K := by
  obtain ⟨cs, hb, hcs⟩ := h.ps
  exact ⟨h.hd.chg hc (hn G (.inl rfl)), ⟨cs, hb.chg hc (hn pb (.inr (.inl rfl))), hcs⟩, fun j hj => (h.ar j hj).chg hc (fun k e => hn k (.inr (.inr ⟨j, hj, e⟩))), h.ap, h.lim⟩
theorem DAt.below (h : DAt w G pb ls P K) (hb : Below w.heap.size w w') : DAt w' G pb ls P K := h.chg (chg_below hb (fun _ => False)) (fun _ _ e => e)
theorem DAt.mono {L : Nat} (h : DAt w G pb ls P K) (hk : K ≤ L) : DAt w G pb ls P L := ⟨h.hd, h.ps, h.ar, h.ap, h.lim.mono hk⟩
end
/-- What an operation of a disk comes to: its answer holds, the disk is P behind it, none but its blocks and new ones have changed. -/
def DTo (w : World) (G pb : Nat) (ls : Nat → Loc) (P : Pd) (K : Nat) (w' : World) (n : Nat) : Prop :=
  ∃ ls', DAt w' G pb ls' P K ∧ Chg (dF G pb ls n) w w' ∧ ∀ k, dF G pb ls' P.n k → dF G pb ls n k ∨ w.heap.size ≤ k
theorem DTo.same {w w' : World} {G pb K : Nat} {ls : Nat → Loc} {P : Pd} (h : DAt w G pb ls P K) (hb : Below w.heap.size w w') : DTo w G pb ls P K w' P.n := ⟨ls, h.below hb, chg_below hb _, fun k e => .inl e⟩
theorem DTo.then_ {w w1 w2 : World} {G pb K n : Nat} {ls : Nat → Loc} {P : Pd} (h : DTo w G pb ls P K w1 n) (hb : Below w1.heap.size w1 w2) : DTo w G pb ls P K w2 n := by
  obtain ⟨ls', hd, hc, hk⟩ := h
  exact ⟨ls', hd.below hb, hc.then_ hb, hk⟩
theorem DTo.after {w w1 w2 : World} {G pb K n : Nat} {ls : Nat → Loc} {P : Pd} (hb : Below w.heap.size w w1) (h : DTo w1 G pb ls P K w2 n) : DTo w G pb ls P K w2 n := by
  obtain ⟨ls', hd, hc, hk⟩ := h
  exact ⟨ls', hd, Chg.after hb hc, fun k e => by rcases hk k e with h | h; exact .inl h; exact .inr (Nat.le_trans hb.size h)⟩
/-- An area has changed. -/
theorem DAt.op {w w' : World} {G pb K L : Nat} {ls : Nat → Loc} {P : Pd} (h : DAt w G pb ls P K) (i : Nat) (hi : i < P.n) {base : Int} {bs : List UInt8} {s : Nat} {A : Option Addr} {c : Nat} (ha : Ar w' (ls i).g A c base bs s) (hc : Chg (arF (ls i).g (ls i).A) w w')
    (hA : ∀ k, blkO A = some k → arF (ls i).g (ls i).A k ∨ w.heap.size ≤ k) (hl : (⟨base, bs, s, (P.p i).f, (P.p i).done⟩ : Pa).lim L) (hk : K ≤ L) :
    DTo w G pb ls (P.set i ⟨base, bs, s, (P.p i).f, (P.p i).done⟩) L w' P.n := by
  obtain ⟨cs, hb, hcs⟩ := h.ps
  have hnew : ∀ k, arF (ls i).g A k → arF (ls i).g (ls i).A k ∨ w.heap.size ≤ k := fun k e => by
    rcases e with e | e
    · exact .inl (.inl e)
    · exact hA k e
  refine ⟨upd ls i ⟨(ls i).g, A, c⟩, ⟨h.hd.chg hc (h.offG i hi), ⟨cs, hb.chg hc (h.offP i hi), ?_⟩, fun j hj => ?_, fun j l hj hl' hne k e e2 => ?_, (h.lim.mono hk).set i hl⟩, hc.mono (fun k e => .inr (.inr ⟨i, hi, e⟩)), ?_⟩
  · refine ⟨hcs.size, fun j hj => ?_, fun j hj => ?_, fun j hj => ?_, fun j hj => ?_, fun j hj => ?_⟩ <;> (by_cases e : j = i)
    · subst e; rw [upd_same]; exact hcs.ptr j hj
    · rw [upd_other _ _ _ _ e]; exact hcs.ptr j hj
    · subst e; simp only [Pd.set, upd_same]; exact hcs.fd j hj
    · simp only [Pd.set, upd_other _ _ _ _ e]; exact hcs.fd j hj
    · subst e; simp only [Pd.set, upd_same]; exact hcs.fk j hj
    · simp only [Pd.set, upd_other _ _ _ _ e]; exact hcs.fk j hj
    · subst e; simp only [Pd.set, upd_same]; exact hcs.ft j hj
    · simp only [Pd.set, upd_other _ _ _ _ e]; exact hcs.ft j hj
    · subst e; simp only [Pd.set, upd_same]; exact hcs.dn j hj
    · simp only [Pd.set, upd_other _ _ _ _ e]; exact hcs.dn j hj
  · by_cases e : j = i
    · subst e; simp only [Pd.set, upd_same]; exact ha
    · simp only [Pd.set, upd_other _ _ _ _ e]
      exact (h.ar j hj).chg hc (fun k e1 e2 => h.ap i j hi hj (fun e3 => e e3.symm) k e2 e1)
  · by_cases ej : j = i
    · subst ej
      rw [upd_same] at e
      rw [upd_other _ _ _ _ (fun e3 => hne e3.symm)] at e2
      rcases hnew k e with e3 | e3
      · exact h.ap j l hj hl' hne k e3 e2
      · have := h.lt k (.inr (.inr ⟨l, hl', e2⟩)); omega
    · rw [upd_other _ _ _ _ ej] at e
      by_cases el : l = i
      · subst el
        rw [upd_same] at e2
        rcases hnew k e2 with e3 | e3
        · exact h.ap j l hj hl' hne k e e3
        · have := h.lt k (.inr (.inr ⟨j, hj, e⟩)); omega
      · rw [upd_other _ _ _ _ el] at e2
        exact h.ap j l hj hl' hne k e e2
  · rintro k (e | e | ⟨j, hj, e⟩)
    · exact .inl (.inl e)
    · exact .inl (.inr (.inl e))
    · by_cases ej : j = i
      · subst ej
        rw [upd_same] at e
        rcases hnew k e with e3 | e3
        · exact .inl (.inr (.inr ⟨j, hi, e3⟩))
        · exact .inr e3
      · rw [upd_other _ _ _ _ ej] at e
        exact .inl (.inr (.inr ⟨j, hj, e⟩))
/-- Cells of the parts are written. -/
theorem DAt.cells {w w' : World} {G pb K L : Nat} {ls : Nat → Loc} {P Q : Pd} (h : DAt w G pb ls P K) (hn : Q.n = P.n) (hq : ∀ j, j < P.n → (Q.p j).base = (P.p j).base ∧ (Q.p j).bs = (P.p j).bs ∧ (Q.p j).safe = (P.p j).safe) (hl : Q.lim L)
    {cs : Array Value} (hc : Chg (fun k => k = G ∨ k = pb) w w') (hh : Blk w' G #[.slice (some ⟨pb, 0, none⟩) P.n P.n, .bool Q.armed] 83) (hb : Blk w' pb cs 87) (hcs : Cells Q ls cs) : DTo w G pb ls Q L w' P.n := by
  refine ⟨ls, ⟨by rw [hn]; exact hh, ⟨cs, hb, hcs⟩, fun j hj => ?_, fun i j hi hj => h.ap i j (by omega) (by omega), hl⟩, hc.mono (fun k e => by rcases e with e | e; exact .inl e; exact .inr (.inl e)), fun k e => .inl (by rw [← hn]; exact e)⟩
  obtain ⟨e1, e2, e3⟩ := hq j (by omega)
  rw [e1, e2, e3]
  exact (h.ar j (by omega)).chg hc (fun k e e2 => by
    rcases e2 with rfl | rfl
    · exact h.offG j (by omega) e
    · exact h.offP j (by omega) e)
theorem DTo.trans {w w1 w2 : World} {G pb L n : Nat} {ls ls' : Nat → Loc} {P Q : Pd} (hc : Chg (dF G pb ls n) w w1) (hk : ∀ k, dF G pb ls' P.n k → dF G pb ls n k ∨ w.heap.size ≤ k) (h : DTo w1 G pb ls' Q L w2 P.n) : DTo w G pb ls Q L w2 n := by
  obtain ⟨l2, hd, hc2, hk2⟩ := h
  refine ⟨l2, hd, hc.trans hc2 hk, fun k e => ?_⟩
  rcases hk2 k e with h | h
  · exact hk k h
  · exact .inr (Nat.le_trans hc.size h)
theorem set_at {cs : Array Value} {i : Nat} {v : Value} (h : i < cs.size) : (cs.setIfInBounds i v)[i]? = some v := by
  rw [Array.getElem?_setIfInBounds, if_pos rfl, if_pos h]
theorem set_off {cs : Array Value} {i j : Nat} {v : Value} (h : i ≠ j) : (cs.setIfInBounds i v)[j]? = cs[j]? := by
  rw [Array.getElem?_setIfInBounds, if_neg h]
/-- The count is written. -/
theorem Cells.done {P : Pd} {ls : Nat → Loc} {cs : Array Value} (h : Cells P ls cs) (i : Nat) (hi : i < P.n) (d : Nat) : Cells (P.set i { P.p i with done := d }) ls (cs.setIfInBounds (i * 5 + 4) (.int .i64 (d : Nat))) := by
  have hs := h.size
  refine ⟨by rw [Array.size_setIfInBounds]; exact hs, fun j hj => ?_, fun j hj => ?_, fun j hj => ?_, fun j hj => ?_, fun j hj => ?_⟩ <;> (by_cases e : j = i)
  · subst e; rw [set_off (by omega)]; exact h.ptr j hj
  · rw [set_off (by omega)]; exact h.ptr j hj
  · subst e; rw [set_off (by omega)]; simp only [Pd.set, upd_same]; exact h.fd j hj
  · rw [set_off (by omega)]; simp only [Pd.set, upd_other _ _ _ _ e]; exact h.fd j hj
  · subst e; rw [set_off (by omega)]; simp only [Pd.set, upd_same]; exact h.fk j hj
  · rw [set_off (by omega)]; simp only [Pd.set, upd_other _ _ _ _ e]; exact h.fk j hj
  · subst e; rw [set_off (by omega)]; simp only [Pd.set, upd_same]; exact h.ft j hj
  · rw [set_off (by omega)]; simp only [Pd.set, upd_other _ _ _ _ e]; exact h.ft j hj
  · subst e; rw [set_at (by omega)]; simp only [Pd.set, upd_same]
  · rw [set_off (by omega)]; simp only [Pd.set, upd_other _ _ _ _ e]; exact h.dn j hj
theorem Pd.set_set (P : Pd) (i : Nat) (a b : Pa) : (P.set i a).set i b = P.set i b := by
  simp only [Pd.set]
  congr 1
  funext j
  by_cases e : j = i
  · subst e; rw [upd_same, upd_same]
  · rw [upd_other _ _ _ _ e, upd_other _ _ _ _ e, upd_other _ _ _ _ e]
end Go.Proofs.Ytodaplkijdjbpaa
