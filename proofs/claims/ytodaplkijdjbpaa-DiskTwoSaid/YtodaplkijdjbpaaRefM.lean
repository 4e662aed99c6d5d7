/- The document's disk: what lies in the middle of an operation. -/
import Derived.Test.YtodaplkijdjbpaaRefW
namespace Go.Proofs.Ytodaplkijdjbpaa
open Go.RowKit
set_option linter.unusedVariables false
set_option linter.unusedSimpArgs false
def rArr (a : Pa) (B : Option Addr) (c : Nat) : Array Value := #[.int .i64 a.base, .int .i64 (a.safe : Nat), .int .i64 (a.done : Nat), .slice B a.bs.length c, .int .i64 a.f.d, .int .i64 a.f.k, .int .u8 ((a.f.t.toNat : Nat) : Int)]
/-- In the middle of an operation: the disk's variable, the result's, the area's. -/
structure Mid (w wt : World) (gD gR gA : Nat) (A : Option Addr) (P : Pd) (c : Nat) (a : Pa) (B : Option Addr) (cc : Nat) (F : Nat → Prop) : Prop where
  d : Blk wt gD #[.slice A P.n c, .bool P.armed] 48
  r : Blk wt gR #[.slice none 0 0, .bool false] 48
  ar : Blk wt gA (rArr a B cc) 96
  ra : RAt wt A P F
  out : Out (fun k => New F w wt k ∧ k ≠ gR) wt B a.bs.length a.bs
  cap : a.bs.length ≤ cc
  b : Below w.heap.size w wt
  lD : w.heap.size ≤ gD
  lR : w.heap.size ≤ gR
  lA : w.heap.size ≤ gA
section
variable {w wt w5 : World} {gD gR gA c cc : Nat} {A B : Option Addr} {P : Pd} {a : Pa} {F : Nat → Prop}
theorem New.low {w1 w2 : World} (h : w1.heap.size ≤ w2.heap.size) : ∀ k, New F w w1 k → New F w w2 k := by
  rintro k (e | ⟨e1, e2⟩)
  · exact .inl e
  · exact .inr ⟨e1, by omega⟩
theorem Mid.below (m : Mid w wt gD gR gA A P c a B cc F) (hb : Below wt.heap.size wt w5) : Mid w w5 gD gR gA A P c a B cc F :=
  ⟨m.d.keep hb, m.r.keep hb, m.ar.keep hb, m.ra.below hb, (m.out.below hb).mono (fun k e => ⟨New.low hb.size k e.1, e.2⟩), m.cap, below_then m.b hb m.b.size, m.lD, m.lR, m.lA⟩
theorem rArr_lt (h : Blk wt gA (rArr a B cc) 96) {gX : Nat} {cs : Array Value} (h2 : Blk wt gX cs 48) : gX ≠ gA := fun e => blk_type h2 h (by decide) e
/-- A cell of the area's variable is written. -/
theorem Mid.store (m : Mid w wt gD gR gA A P c a B cc F) (hF : ∀ k, F k → k < w.heap.size) (j : Nat) (v : Value) {a' : Pa} {B' : Option Addr} {cc' : Nat} (hc : (rArr a B cc).setIfInBounds j v = rArr a' B' cc') (ho : Out (fun k => New F w wt k ∧ k ≠ gR) wt B' a'.bs.length a'.bs) (hp : a'.bs.length ≤ cc') (hbl : a'.bs.length ≠ 0 → blkO B' ≠ some gA) :
    Mid w (wt.setCell ⟨gA, j, none⟩ v) gD gR gA A P c a' B' cc' F := by
  have hC := chg_set wt gA j v
  have hz : (wt.setCell ⟨gA, j, none⟩ v).heap.size = wt.heap.size := by simp [World.setCell]
  have hlA := m.lA
  refine ⟨m.d.chg hC (rArr_lt m.ar m.d), m.r.chg hC (rArr_lt m.ar m.r), by rw [← hc]; exact m.ar.set j v, m.ra.chg (hC.mono (fun k e e2 => by subst e; have := hF k e2; omega)), ?_, hp, m.b.setCell (p := ⟨gA, j, none⟩) m.lA v, m.lD, m.lR, m.lA⟩
  refine ⟨?_, fun h0 k e => ⟨New.low (by rw [hz]; exact Nat.le_refl _) k (ho.2 h0 k e).1, (ho.2 h0 k e).2⟩⟩
  by_cases h0 : a'.bs.length = 0
  · exact ⟨rfl, by omega, .inl h0⟩
  · exact ho.1.chg hC (fun k e e2 => by subst e2; exact hbl h0 e)
/-- The same bytes. -/
theorem Mid.store0 (m : Mid w wt gD gR gA A P c a B cc F) (hF : ∀ k, F k → k < w.heap.size) (j : Nat) (v : Value) {a' : Pa} (hbs : a'.bs = a.bs) (hc : (rArr a B cc).setIfInBounds j v = rArr a' B cc) (hbl : a.bs.length ≠ 0 → blkO B ≠ some gA) :
    Mid w (wt.setCell ⟨gA, j, none⟩ v) gD gR gA A P c a' B cc F :=
  m.store hF j v hc (by rw [hbs]; exact m.out) (by rw [hbs]; exact m.cap) (by rw [hbs]; exact hbl)
/-- The area's variable is made. -/
theorem Mid.start (hd : Blk w5 gD #[.slice A P.n c, .bool P.armed] 48) (hr : Blk w5 gR #[.slice none 0 0, .bool false] 48) (h : RAt w5 A P F) (hF : ∀ k, F k → k < w.heap.size) (hb : Below w.heap.size w w5) (lD : w.heap.size ≤ gD) (lR : w.heap.size ≤ gR) (ho : Out F w5 B a.bs.length a.bs) (hc : a.bs.length ≤ cc) :
    Mid w (w5.alloc (.cells #[.int .i64 a.base, .int .i64 (a.safe : Nat), .int .i64 (a.done : Nat), .slice B a.bs.length cc, .int .i64 a.f.d, .int .i64 a.f.k, .int .u8 ((a.f.t.toNat : Nat) : Int)] 96)) gD gR w5.heap.size A P c a B cc F := by
  have x := below_alloc w5 (.cells #[.int .i64 a.base, .int .i64 (a.safe : Nat), .int .i64 (a.done : Nat), .slice B a.bs.length cc, .int .i64 a.f.d, .int .i64 a.f.k, .int .u8 ((a.f.t.toNat : Nat) : Int)] 96)
  exact ⟨hd.keep x, hr.keep x, Blk.fresh _ _ _, h.below x, (ho.below x).mono (fun k e => ⟨.inl e, by have := hF k e; omega⟩), hc, below_then hb x hb.size, lD, lR, hb.size⟩
theorem Mid.cells (m : Mid w wt gD gR gA A P c a B cc F) : wt.cell? ⟨gA, 0, none⟩ = some (.int .i64 a.base) ∧ wt.cell? ⟨gA, 1, none⟩ = some (.int .i64 (a.safe : Nat)) ∧ wt.cell? ⟨gA, 2, none⟩ = some (.int .i64 (a.done : Nat)) ∧ wt.cell? ⟨gA, 3, none⟩ = some (.slice B a.bs.length cc) ∧
    wt.cell? ⟨gA, 4, none⟩ = some (.int .i64 a.f.d) ∧ wt.cell? ⟨gA, 5, none⟩ = some (.int .i64 a.f.k) ∧ wt.cell? ⟨gA, 6, none⟩ = some (.int .u8 ((a.f.t.toNat : Nat) : Int)) ∧ (∀ j, wt.frozen? ⟨gA, j, none⟩ = false) ∧ wt.cell? ⟨gD, 0, none⟩ = some (.slice A P.n c) ∧ wt.cell? ⟨gD, 1, none⟩ = some (.bool P.armed) :=
  ⟨m.ar.cell 0, m.ar.cell 1, m.ar.cell 2, m.ar.cell 3, m.ar.cell 4, m.ar.cell 5, m.ar.cell 6, m.ar.frozen, m.d.cell 0, m.d.cell 1⟩
/-- New bytes lie in none of the variables. -/
theorem own_new {B0 : Nat} {A' : Option Addr} {n c' : Nat} {bs : List UInt8} (m : Mid w wt gD gR gA A P c a B cc F) (ho : w5.ownsRow B0 5 1 (.slice A' n c') n (bvals bs)) (hB : wt.heap.size ≤ B0) (hn : n ≤ 281474976710656) : Out (fun k => New F w w5 k ∧ k ≠ gR) w5 A' n bs ∧ (n ≠ 0 → blkO A' ≠ some gA) := by
  have h1 := m.r.lt
  have h2 := m.ar.lt
  have h3 := m.b.size
  refine ⟨⟨own_bytes' ho hn, fun _ k e => ?_⟩, fun _ e => ?_⟩
  · have := ho.lt k (by rw [ownBlock_slice]; exact e)
    exact ⟨.inr ⟨by omega, by omega⟩, by omega⟩
  · have := ho.lt gA (by rw [ownBlock_slice]; exact e)
    omega
/-- The result is written. -/
theorem Mid.fin {Q : Pd} {A5 : Option Addr} {c5 : Nat} (m : Mid w wt gD gR gA A P c a B cc F) (h5 : RAt w5 A5 Q (New (fun k => New F w wt k ∧ k ≠ gR) wt w5)) (hb5 : Below wt.heap.size wt w5) :
    Blk ((w5.setCell ⟨gR, 0, none⟩ (.slice A5 Q.n c5)).setCell ⟨gR, 1, none⟩ (.bool Q.armed)) gR #[.slice A5 Q.n c5, .bool Q.armed] 48 ∧
    RAt ((w5.setCell ⟨gR, 0, none⟩ (.slice A5 Q.n c5)).setCell ⟨gR, 1, none⟩ (.bool Q.armed)) A5 Q (New F w ((w5.setCell ⟨gR, 0, none⟩ (.slice A5 Q.n c5)).setCell ⟨gR, 1, none⟩ (.bool Q.armed))) ∧
    Below w.heap.size w ((w5.setCell ⟨gR, 0, none⟩ (.slice A5 Q.n c5)).setCell ⟨gR, 1, none⟩ (.bool Q.armed)) := by
  have hC := (chg_set w5 gR 0 (.slice A5 Q.n c5)).set (.inl rfl) 1 (.bool Q.armed)
  have hr5 := m.r.keep hb5
  have hlt := m.r.lt
  have h1 := m.b.size
  have h2 := hb5.size
  have hB := below_then m.b hb5 m.b.size
  have hz := hC.size
  refine ⟨(hr5.set 0 _).set 1 _, ?_, hB.trans (hC.below hB.size (fun k e => by subst e; exact m.lR))⟩
  refine (h5.chg (hC.mono (fun k e e2 => ?_))).mono (fun k e => ?_)
  · subst e
    rcases e2 with e2 | e2
    · exact e2.2 rfl
    · omega
  · rcases e with e | e
    · exact New.low (by omega) k e.1
    · exact .inr ⟨by omega, by omega⟩
/-- The disk is answered as it is. -/
theorem ref_same (hd : Blk w5 gR #[.slice none 0 0, .bool false] 48) (lR : w.heap.size ≤ gR) (hb : Below w.heap.size w w5) (h : RAt w A P F) :
    Blk ((w5.setCell ⟨gR, 0, none⟩ (.slice A P.n c)).setCell ⟨gR, 1, none⟩ (.bool P.armed)) gR #[.slice A P.n c, .bool P.armed] 48 ∧
    RAt ((w5.setCell ⟨gR, 0, none⟩ (.slice A P.n c)).setCell ⟨gR, 1, none⟩ (.bool P.armed)) A P (New F w ((w5.setCell ⟨gR, 0, none⟩ (.slice A P.n c)).setCell ⟨gR, 1, none⟩ (.bool P.armed))) ∧
    Below w.heap.size w ((w5.setCell ⟨gR, 0, none⟩ (.slice A P.n c)).setCell ⟨gR, 1, none⟩ (.bool P.armed)) := by
  have hC := (chg_set w5 gR 0 (.slice A P.n c)).set (.inl rfl) 1 (.bool P.armed)
  have hB := hb.trans (hC.below hb.size (fun k e => by subst e; exact lR))
  exact ⟨(hd.set 0 _).set 1 _, (h.below hB).mono New.sub, hB⟩
end
theorem bytes_opt {w : World} {A : Option Addr} {n c : Nat} {bs : List UInt8} (h : Bytes w A n bs) (k : Nat) (hk : k ≤ n) (hc : n ≤ c) : Bytes w (if c = k then A else Option.map (fun x => x.add k) A) (n - k) (bs.drop k) := by
  by_cases h0 : n - k = 0
  · refine ⟨by rw [List.length_drop, h.1], by have := h.2.1; omega, .inl h0⟩
  · rw [if_neg (by omega)]
    rcases h.2.2 with e | ⟨b, o, rfl, _⟩
    · omega
    · have := h.drop k hk
      simpa [add_plain] using this
theorem downE_zero {P : Pd} {i : Int} (h : P.downE i = 0) : ∃ j : Nat, i = j ∧ j < P.n ∧ P.down j = false := by
  unfold Pd.downE at h
  by_cases hi : i < 0 ∨ (P.n : Int) ≤ i
  · rw [if_pos hi] at h; cases h
  · rw [if_neg hi] at h
    refine ⟨i.toNat, by omega, by omega, ?_⟩
    cases hd : P.down i.toNat with
    | false => rfl
    | true => rw [hd, if_pos rfl] at h; cases h
theorem op_stop {P : Pd} {i : Int} (h : P.downE i ≠ 0) (f : Pa → Option Pa) : P.op i f = (P, P.downE i) := by
  unfold Pd.downE at h ⊢
  unfold Pd.op
  by_cases hi : i < 0 ∨ (P.n : Int) ≤ i
  · rw [if_pos hi, if_pos hi]
  · rw [if_neg hi] at h ⊢
    rw [if_neg hi]
    cases hd : P.down i.toNat with
    | true => rw [if_pos rfl, if_pos rfl]
    | false => rw [hd] at h; simp at h
theorem op_go {P : Pd} {j : Nat} (hj : j < P.n) (hd : P.down j = false) (f : Pa → Option Pa) : P.op j f = match f (P.p j) with | none => (P, 70) | some a => (P.set j { a with f := (P.p j).f, done := (P.p j).done + 1 }, 0) := by
  unfold Pd.op
  rw [if_neg (by omega), Int.toNat_natCast, hd, if_neg (by simp)]
  cases f (P.p j) <;> rfl
/-- What an operation of the document's answers. -/
def RpTo (r : Pd × Int) (F : Nat → Prop) (w : World) (e : Ending) (w' : World) : Prop := ∃ A c, e = .returned (.tuple #[rV r.1 A c, .int .i64 r.2]) ∧ RAt w' A r.1 (New F w w') ∧ Below w.heap.size w w'
end Go.Proofs.Ytodaplkijdjbpaa
