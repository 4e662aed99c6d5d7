/- A disk that the call made, and blocks that are not its own; bytesOf. -/
import Derived.Test.YtodaplkijdjbpaaFixed
import Derived.Test.YtodaplkijdjbpaaVast8
namespace Go.Proofs.Ytodaplkijdjbpaa
open Go.RowKit
set_option linter.unusedVariables false
set_option linter.unusedSimpArgs false
/-- A disk in blocks that are younger than w0, none of them in F. -/
def Apt (w0 w : World) (G pb : Nat) (P : Pd) (K : Nat) (F : Nat → Prop) : Prop :=
  ∃ ls, DAt w G pb ls P K ∧ Below w0.heap.size w0 w ∧ (∀ k, dF G pb ls P.n k → w0.heap.size ≤ k) ∧ ∀ k, F k → k < w.heap.size ∧ ¬ dF G pb ls P.n k
section
variable {w0 w w1 : World} {G pb K L : Nat} {P Q : Pd} {F F' : Nat → Prop}
theorem Apt.low (h : Apt w0 w G pb P K F) : Below w0.heap.size w0 w := by obtain ⟨_, _, h, _⟩ := h; exact h
theorem Apt.lim (h : Apt w0 w G pb P K F) : P.lim K := by obtain ⟨_, h, _⟩ := h; exact h.lim
theorem Apt.flt (h : Apt w0 w G pb P K F) (k : Nat) (hk : F k) : k < w.heap.size := by obtain ⟨_, _, _, _, h⟩ := h; exact (h k hk).1
theorem Apt.below (h : Apt w0 w G pb P K F) (hb : Below w.heap.size w w1) : Apt w0 w1 G pb P K (fun k => F k ∨ (w.heap.size ≤ k ∧ k < w1.heap.size)) := by
  obtain ⟨ls, hd, h1, h2, h3⟩ := h
  refine ⟨ls, hd.below hb, below_then h1 hb h1.size, h2, fun k e => ?_⟩
  rcases e with e | ⟨e1, e2⟩
  · exact ⟨Nat.lt_of_lt_of_le (h3 k e).1 hb.size, (h3 k e).2⟩
  · exact ⟨e2, fun e3 => by have := hd.lt k e3; omega⟩
theorem Apt.sub (h : Apt w0 w G pb P K F) (hs : ∀ k, F' k → F k) : Apt w0 w G pb P K F' := by
  obtain ⟨ls, hd, h1, h2, h3⟩ := h
  exact ⟨ls, hd, h1, h2, fun k e => h3 k (hs k e)⟩
theorem Apt.mono (h : Apt w0 w G pb P K F) (hk : K ≤ L) : Apt w0 w G pb P L F := by
  obtain ⟨ls, hd, h1, h2, h3⟩ := h
  exact ⟨ls, hd.mono hk, h1, h2, h3⟩
theorem Apt.next (h : Apt w0 w G pb P K F) : ∃ ls, DAt w G pb ls P K ∧ (w0.heap.size ≤ G ∧ w0.heap.size ≤ pb) ∧ ∀ Q L w', DTo w G pb ls Q L w' P.n → Q.n = P.n → Apt w0 w' G pb Q L F ∧ Chg (fun k => ¬ F k) w w' ∧ Below w0.heap.size w0 w' := by
  obtain ⟨ls, hd, h1, h2, h3⟩ := h
  refine ⟨ls, hd, ⟨h2 G (.inl rfl), h2 pb (.inr (.inl rfl))⟩, fun Q L w' ht hn => ?_⟩
  obtain ⟨l2, hd2, hc, hk⟩ := ht
  have hB := h1.trans (hc.below h1.size h2)
  refine ⟨⟨l2, hd2, hB, fun k e => ?_, fun k e => ⟨Nat.lt_of_lt_of_le (h3 k e).1 hc.size, fun e2 => ?_⟩⟩, hc.mono (fun k e e2 => (h3 k e2).2 e), hB⟩
  · rcases hk k e with h | h
    · exact h2 k h
    · exact Nat.le_trans h1.size h
  · rcases hk k e2 with h | h
    · exact (h3 k e).2 h
    · have := (h3 k e).1; omega
/-- Other blocks change. -/
theorem Apt.other {C : Nat → Prop} (h : Apt w0 w G pb P K F) (hc : Chg C w w1) (hC : ∀ k, C k → ∃ cs t, Blk w k cs t ∧ 83 ≠ t ∧ 87 ≠ t ∧ 116 ≠ t ∧ 5 ≠ t) (h0 : ∀ k, C k → w0.heap.size ≤ k) : Apt w0 w1 G pb P K F := by
  obtain ⟨ls, hd, h1, h2, h3⟩ := h
  exact ⟨ls, hd.chg hc (fun k e e2 => by obtain ⟨cs, t, hb, p1, p2, p3, p4⟩ := hC k e2; exact hd.off hb p1 p2 p3 p4 e), h1.trans (hc.below h1.size h0), h2, fun k e => ⟨Nat.lt_of_lt_of_le (h3 k e).1 hc.size, (h3 k e).2⟩⟩
/-- Blocks that are not the disk's change. -/
theorem Apt.free {C : Nat → Prop} (h : Apt w0 w G pb P K F) (hc : Chg C w w1) (hC : ∀ k, C k → F k) (h0 : ∀ k, C k → w0.heap.size ≤ k) : Apt w0 w1 G pb P K F := by
  obtain ⟨ls, hd, h1, h2, h3⟩ := h
  exact ⟨ls, hd.chg hc (fun k e e2 => (h3 k (hC k e2)).2 e), h1.trans (hc.below h1.size h0), h2, fun k e => ⟨Nat.lt_of_lt_of_le (h3 k e).1 hc.size, (h3 k e).2⟩⟩
end
theorem apt_new {n : Nat} {w0 w w' : World} {e : Ending} (hb : Below w0.heap.size w0 w) (h : NewTo n w e w') : ∃ G pb, e = .returned (.tuple #[.pointer (some ⟨G, 0, none⟩), .int .i64 0]) ∧ Below w.heap.size w w' ∧ ∀ K, Apt w0 w' G pb (Pd.new n) K (fun k => k < w.heap.size) := by
  obtain ⟨G, pb, gs, he, hd, hB, hk⟩ := h
  exact ⟨G, pb, he, hB, fun K => ⟨_, hd K, below_then hb hB hb.size, fun k e => Nat.le_trans hb.size (hk k e), fun k e => ⟨Nat.lt_of_lt_of_le e hB.size, fun e2 => by have := hk k e2; omega⟩⟩⟩
/-- Bytes in blocks of F. -/
def Out (F : Nat → Prop) (w : World) (A : Option Addr) (l : Nat) (bs : List UInt8) : Prop := Bytes w A l bs ∧ (l ≠ 0 → ∀ k, blkO A = some k → F k)
theorem Out.chg {F : Nat → Prop} {w w1 : World} {A : Option Addr} {l : Nat} {bs : List UInt8} (h : Out F w A l bs) (hc : Chg (fun k => ¬ F k) w w1) : Out F w1 A l bs := by
  refine ⟨?_, h.2⟩
  by_cases h0 : l = 0
  · exact ⟨h.1.1, h.1.2.1, .inl h0⟩
  · exact h.1.chg hc (fun k e e2 => e2 (h.2 h0 k e))
theorem Out.mono {F F' : Nat → Prop} {w : World} {A : Option Addr} {l : Nat} {bs : List UInt8} (h : Out F w A l bs) (hs : ∀ k, F k → F' k) : Out F' w A l bs := ⟨h.1, fun h0 k e => hs k (h.2 h0 k e)⟩
theorem Out.below {F : Nat → Prop} {w w1 : World} {A : Option Addr} {l : Nat} {bs : List UInt8} (h : Out F w A l bs) (hb : Below w.heap.size w w1) : Out F w1 A l bs := h.chg (chg_below hb _)
theorem Out.new {F : Nat → Prop} {w w1 : World} {A : Option Addr} {l c : Nat} {bs : List UInt8} (ho : w1.ownsRow w.heap.size 5 1 (.slice A l c) l (bvals bs)) (hl : l ≤ 281474976710656) (hs : ∀ k, w.heap.size ≤ k ∧ k < w1.heap.size → F k) : Out F w1 A l bs :=
  ⟨own_bytes' ho hl, fun _ k e => hs k (ho.lt k (by rw [ownBlock_slice]; exact e))⟩
theorem Out.nil (F : Nat → Prop) (w : World) (A : Option Addr) : Out F w A 0 [] := ⟨Bytes.empty _ _, fun h => absurd rfl h⟩
theorem read_all (P : Pd) (j : Nat) (hj : j < P.n) : P.read j (P.p j).base ((P.p j).bs.length : Nat) = ((P.p j).bs, 0) := by
  unfold Pd.read
  rw [if_neg (by omega), Int.toNat_natCast, if_neg (by omega)]
  simp
theorem bounds_ok (P : Pd) (j : Nat) (hj : j < P.n) : P.bounds j = ((P.p j).base, (P.p j).base + (P.p j).safe, (P.p j).base + (P.p j).bs.length, 0) := by
  unfold Pd.bounds
  rw [if_neg (by omega), Int.toNat_natCast]
/-- What bytesOf answers of an area that is there. -/
def OfTo (a : Pa) (w : World) (e : Ending) (w' : World) : Prop :=
  ∃ A c, e = .returned (.tuple #[.slice A a.bs.length c, .int .i64 (a.safe : Nat), .bool true]) ∧ w'.ownsRow w.heap.size 5 1 (.slice A a.bs.length c) a.bs.length (bvals a.bs) ∧ Below w.heap.size w w'
set_option maxHeartbeats 1600000 in
theorem bytesOf_any {w : World} {G pb K : Nat} {ls : Nat → Loc} {P : Pd} (h : DAt w G pb ls P K) (hK : K ≤ 4294967296) (j : Nat) (hj : j < P.n) :
    Calls Try.prog 17 #[.pointer (some ⟨G, 0, none⟩), .int .i64 (j : Int)] w (OfTo (P.p j) w) := by
  have hb := bounds_ok P j hj
  have hr := read_all P j hj
  have h1 := diskBounds_any h j
  rw [hb] at h1
  have hl := h.lim.a j hj
  have l1 := hl.b0
  have l2 := hl.e
  have l3 := hl.n
  have l4 := hl.s
  have h2 : ∀ w1, Below w.heap.size w w1 → Calls Try.prog 28 #[.pointer (some ⟨G, 0, none⟩), .int .i64 (j : Int), .int .i64 (P.p j).base, .int .i64 ((P.p j).bs.length : Nat)] w1 (RdTo ((P.p j).bs, 0) w1) := fun w1 hb1 => by
    rw [← hr]
    exact diskRead_any (h.below hb1) hK j _ _ (by omega) (by omega)
  have H1 := Lib.hid h1
  have H2 := Lib.hid h2
  generalize P.p j = a at *
  obtain ⟨n, hn⟩ : ∃ n, a.bs.length = n := ⟨_, rfl⟩
  have HN := Lib.hid hn
  rw [hn] at l2 l3 l4
  have e1 : a.base + (n : Int) - a.base = (n : Int) := by omega
  have e2 : a.base + (a.safe : Int) - a.base = (a.safe : Int) := by omega
  clear h1 h2 hb hr hl hn
  go_enter Try.func17, Try.ntmps17
  go_wp2_with fail
  refine H1.out.mono ?_
  rintro e w1 ⟨rfl, hb1⟩
  have h3 := H2.out w1 hb1
  simp only
  rw [HN.out] at h3 ⊢
  have H3 := Lib.hid h3
  clear h3
  go_wp2_with fail
  refine H3.out.mono ?_
  rintro e w2 ⟨A2, c2, rfl, ho, hb2⟩
  simp only at ho ⊢
  rw [HN.out] at ho ⊢
  have hBB := below_then hb1 hb2 hb1.size
  have ho2 := own_mono ho hb1.size
  have hsd : decide (a.safe ≤ n) = true := decide_eq_true l4
  have hsi : (a.safe : Int) ≤ (n : Int) := by omega
  have hsb : a.base ≤ a.base + (a.safe : Int) := by omega
  clear ho hb1 hb2 H3
  go_wp2_with fail
  go_ret3
  refine ⟨A2, c2, ?_, by rw [HN.out]; exact ho2, hBB⟩
  rw [HN.out]
  simp
end Go.Proofs.Ytodaplkijdjbpaa
