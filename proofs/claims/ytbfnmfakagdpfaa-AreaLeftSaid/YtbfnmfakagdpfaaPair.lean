/- The law package's pair: the program's area and the document's, in memory. -/
import Derived.Test.YtbfnmfakagdpfaaAreaT
import Derived.Test.YtbfnmfakagdpfaaAreaR
import Derived.Test.YtbfnmfakagdpfaaAreaC
import Derived.Test.YtbfnmfakagdpfaaAreaI
import Derived.Test.YtbfnmfakagdpfaaAwake
import Derived.Test.YtbfnmfakagdpfaaRefNo
import Derived.Test.YtbfnmfakagdpfaaRefTrim
import Derived.Test.YtbfnmfakagdpfaaRefCrash
import Derived.Test.YtbfnmfakagdpfaaSteps
namespace Go.Proofs.Ytbfnmfakagdpfaa
set_option linter.unusedVariables false
set_option linter.unusedSimpArgs false
open Go.RowKit
/-- The blocks of a pair. -/
def pF (P g : Nat) (A DA SA : Option Addr) : Nat → Prop := fun q => q = P ∨ arF g A q ∨ blkO DA = some q ∨ blkO SA = some q
/-- A pair in memory. -/
structure PairAt (w : World) (P g : Nat) (A : Option Addr) (c : Nat) (DA : Option Addr) (dc : Nat) (SA : Option Addr) (sc : Nat) (base : Int) (bs : List UInt8) (s : Nat) : Prop where
  pb : Blk w P #[.pointer (some ⟨g, 0, none⟩), .int .i64 base, .slice DA bs.length dc, .slice SA bs.length sc] 48
  ar : Ar w g A c base bs s
  da : Bytes w DA bs.length bs
  dcap : bs.length ≤ dc
  sa : Safes w SA bs.length s
  dis : ∀ q, blkO DA = some q ∨ blkO SA = some q → q ≠ P ∧ ¬ arF g A q
  lt : ∀ q, pF P g A DA SA q → q < w.heap.size
theorem PairAt.pne {w : World} {P g : Nat} {A DA SA : Option Addr} {c dc sc : Nat} {base : Int} {bs : List UInt8} {s : Nat} (h : PairAt w P g A c DA dc SA sc base bs s) : ¬ arF g A P := by
  rintro (e | e)
  · subst e
    have h1 := h.pb
    have h2 := h.ar.blk
    unfold Blk at h1 h2
    rw [h1] at h2
    injection h2 with h2
    injection h2 with a b c
    revert b
    decide
  · have := own_not_blk7 h.ar.own h.pb (by decide)
    rw [ownBlock_slice] at this
    exact this e
theorem PairAt.chg {F : Nat → Prop} {w w' : World} {P g : Nat} {A DA SA : Option Addr} {c dc sc : Nat} {base : Int} {bs : List UInt8} {s : Nat} (h : PairAt w P g A c DA dc SA sc base bs s) (hc : Chg F w w') (hn : ∀ q, pF P g A DA SA q → ¬ F q) : PairAt w' P g A c DA dc SA sc base bs s :=
  ⟨h.pb.chg hc (hn P (.inl rfl)), h.ar.chg hc (fun q e => hn q (.inr (.inl e))), h.da.chg hc (fun q e => hn q (.inr (.inr (.inl e)))), h.dcap, h.sa.chg hc (fun q e => hn q (.inr (.inr (.inr e)))), h.dis, fun q e => Nat.lt_of_lt_of_le (h.lt q e) hc.size⟩
theorem PairAt.below {w w' : World} {P g : Nat} {A DA SA : Option Addr} {c dc sc : Nat} {base : Int} {bs : List UInt8} {s : Nat} (h : PairAt w P g A c DA dc SA sc base bs s) (hb : Below w.heap.size w w') : PairAt w' P g A c DA dc SA sc base bs s :=
  h.chg (chg_below hb (fun _ => False)) (fun _ _ e => e)
/-- A pair, whatever its blocks: F are they; no more than T bytes came in. -/
def Pr (w : World) (P : Nat) (F : Nat → Prop) (T : Nat) (base : Int) (bs : List UInt8) (s : Nat) : Prop :=
  ∃ g A c DA dc SA sc, PairAt w P g A c DA dc SA sc base bs s ∧ F = pF P g A DA SA ∧ bs.length ≤ T ∧ base + bs.length ≤ 4611686018427387904 + (T : Int)
/-- What a step comes to. -/
def StepTo (w : World) (P : Nat) (F : Nat → Prop) (T : Nat) (base : Int) (bs : List UInt8) (s : Nat) (e : Ending) (w' : World) : Prop :=
  e = .returned (.bool true) ∧ ∃ F', Pr w' P F' T base bs s ∧ Chg F w w' ∧ ∀ q, F' q → F q ∨ w.heap.size ≤ q
/-- The program's area went on to base', bs', s' in w3; the document's is laid into the pair behind it. -/
theorem pair_put {w w3 w4 : World} {P g : Nat} {A A3 DA SA DA4 SA4 : Option Addr} {c c3 dc sc dc4 sc4 T n : Nat} {base base' : Int} {bs bs' : List UInt8} {s s' : Nat} {cs : Array Value} (h : PairAt w P g A c DA dc SA sc base bs s)
    (hA : Ar w3 g A3 c3 base' bs' s') (hC : Chg (arF g A) w w3) (hF : ∀ k, blkO A3 = some k → arF g A k ∨ w.heap.size ≤ k)
    (hb : Chg (fun q => q = P) w3 w4) (hP : Blk w4 P cs 48) (hcs : cs = #[.pointer (some ⟨g, 0, none⟩), .int .i64 base', .slice DA4 n dc4, .slice SA4 n sc4]) (hn : n = bs'.length) (hD : Bytes w4 DA4 n bs') (hdc : n ≤ dc4) (hS : Safes w4 SA4 n s')
    (hlD : ∀ q, blkO DA4 = some q → w3.heap.size ≤ q ∧ q < w4.heap.size) (hlS : ∀ q, blkO SA4 = some q → w3.heap.size ≤ q ∧ q < w4.heap.size) (h1 : bs'.length ≤ T) (h2 : base' + bs'.length ≤ 4611686018427387904 + (T : Int)) :
    StepTo w P (pF P g A DA SA) T base' bs' s' (.returned (.bool true)) w4 := by
  subst hcs hn
  have hPl := h.pb.lt
  have hPn : ¬ arF g A3 P := by
    rintro (e | e)
    · exact h.pne (.inl e)
    · rcases hF P e with e | e
      · exact h.pne e
      · omega
  have hA4 := hA.chg hb (fun q e e2 => hPn (e2 ▸ e))
  have hsz := hC.size
  have hfr : ∀ q, blkO DA4 = some q ∨ blkO SA4 = some q → w3.heap.size ≤ q := fun q e => e.elim (fun e => (hlD q e).1) (fun e => (hlS q e).1)
  refine ⟨rfl, pF P g A3 DA4 SA4, ⟨g, A3, c3, DA4, dc4, SA4, sc4, ⟨hP, hA4, hD, hdc, hS, fun q e => ⟨?_, ?_⟩, ?_⟩, rfl, h1, h2⟩, ?_, ?_⟩
  · have h1 := hfr q e
    omega
  · intro e2
    have h1 := hfr q e
    rcases e2 with e2 | e2
    · have := hA.lt; omega
    · have := hA.lt2 q e2; omega
  · rintro q (e | (e | e) | e | e)
    · subst e; exact hP.lt
    · subst e; exact hA4.lt
    · exact hA4.lt2 q e
    · exact (hlD q e).2
    · exact (hlS q e).2
  · exact (hC.mono (fun k e => .inr (.inl e))).trans hb (fun k e => .inl (.inl e))
  · rintro q (e | (e | e) | e | e)
    · exact .inl (.inl e)
    · exact .inl (.inr (.inl (.inl e)))
    · exact (hF q e).imp (fun e => .inr (.inl e)) id
    · exact .inr (Nat.le_trans hsz (hlD q e).1)
    · exact .inr (Nat.le_trans hsz (hlS q e).1)
/-- Nothing but new memory was made, or the pair's own cells were written anew with what they held. -/
theorem pair_same {w w4 : World} {P g : Nat} {A DA SA : Option Addr} {c dc sc T : Nat} {base : Int} {bs : List UInt8} {s : Nat} (h : PairAt w P g A c DA dc SA sc base bs s)
    (hb : Chg (fun q => q = P) w w4) (hP : Blk w4 P #[.pointer (some ⟨g, 0, none⟩), .int .i64 base, .slice DA bs.length dc, .slice SA bs.length sc] 48) (h1 : bs.length ≤ T) (h2 : base + bs.length ≤ 4611686018427387904 + (T : Int)) :
    StepTo w P (pF P g A DA SA) T base bs s (.returned (.bool true)) w4 :=
  ⟨rfl, _, ⟨g, A, c, DA, dc, SA, sc, ⟨hP, h.ar.chg hb (fun q e e2 => h.pne (e2 ▸ e)), h.da.chg hb (fun q e e2 => (h.dis q (.inl e)).1 e2), h.dcap, h.sa.chg hb (fun q e e2 => (h.dis q (.inr e)).1 e2), h.dis, fun q e => Nat.lt_of_lt_of_le (h.lt q e) hb.size⟩, rfl, h1, h2⟩, hb.mono (fun k e => .inl e), fun q e => .inl e⟩
theorem pair_stays {w w4 : World} {P g : Nat} {A DA SA : Option Addr} {c dc sc T : Nat} {base : Int} {bs : List UInt8} {s : Nat} (h : PairAt w P g A c DA dc SA sc base bs s) (hb : Below w.heap.size w w4) (h1 : bs.length ≤ T) (h2 : base + bs.length ≤ 4611686018427387904 + (T : Int)) :
    StepTo w P (pF P g A DA SA) T base bs s (.returned (.bool true)) w4 := pair_same h (chg_below hb _) (h.pb.keep hb) h1 h2
/-- The program's area went on in wc; the document's answer, made behind it, is stored. -/
theorem pair_store {w w1 wc w5 : World} {P g : Nat} {A A3 DA SA A5 A6 : Option Addr} {c c3 dc sc c5 c6 T n : Nat} {base base' : Int} {bs bs' : List UInt8} {s s' : Nat} (h : PairAt w P g A c DA dc SA sc base bs s) (hB1 : Below w.heap.size w w1)
    (hA3 : Ar wc g A3 c3 base' bs' s') (hC3 : Chg (arF g A) w1 wc) (hF3 : ∀ k, blkO A3 = some k → arF g A k ∨ w1.heap.size ≤ k) (hb5 : Below wc.heap.size wc w5) (hn : n = bs'.length) (hD : Bytes w5 A5 n bs') (hdc : n ≤ c5) (hS : Safes w5 A6 n s')
    (hlD : ∀ q, blkO A5 = some q → wc.heap.size ≤ q ∧ q < w5.heap.size) (hlS : ∀ q, blkO A6 = some q → wc.heap.size ≤ q ∧ q < w5.heap.size) (h1 : bs'.length ≤ T) (h2 : base' + bs'.length ≤ 4611686018427387904 + (T : Int)) :
    StepTo w P (pF P g A DA SA) T base' bs' s' (.returned (.bool true)) (((w5.setCell ⟨P, 1, none⟩ (.int .i64 base')).setCell ⟨P, 2, none⟩ (.slice A5 n c5)).setCell ⟨P, 3, none⟩ (.slice A6 n c6)) := by
  have hP5 := (((h.below hB1).pb).chg hC3 h.pne).keep hb5
  have hPl := h.pb.lt
  have hs1 := hB1.size
  have hs2 := hC3.size
  have hC6 := ((chg_set w5 P 1 (.int .i64 base')).set (.inl rfl) 2 (.slice A5 n c5)).set (.inl rfl) 3 (.slice A6 n c6)
  have hP6 := Blk.set (Blk.set (Blk.set hP5 1 (.int .i64 base')) 2 (.slice A5 n c5)) 3 (.slice A6 n c6)
  have hz := hC6.size
  exact pair_put h hA3 (Chg.after hB1 hC3) (fun k e => (hF3 k e).imp id (fun e => Nat.le_trans hB1.size e)) ((chg_below hb5 _).trans hC6 (fun k e => .inl e)) hP6 rfl hn
    (hD.chg hC6 (fun q e e2 => by have := (hlD q e).1; omega)) hdc (hS.chg hC6 (fun q e e2 => by have := (hlS q e).1; omega)) (fun q e => ⟨(hlD q e).1, Nat.lt_of_lt_of_le (hlD q e).2 hz⟩) (fun q e => ⟨(hlS q e).1, Nat.lt_of_lt_of_le (hlS q e).2 hz⟩) h1 h2
theorem own_lt7 {w : World} {B : Nat} {e : TypeId} {z n c : Nat} {A : Option Addr} {xs : List Value} (h : w.ownsRow B e z (.slice A n c) n xs) : ∀ q, blkO A = some q → B ≤ q ∧ q < w.heap.size := fun q e => h.lt q (by rw [ownBlock_slice]; exact e)
/-- What the pair's cells and the step's hold. -/
theorem keepStep {w1 w' : World} {P g G : Nat} {DA SA D : Option Addr} {n dc sc m mc : Nat} {base k a b : Int} {t t' : TypeId} (hP : Blk w1 P #[.pointer (some ⟨g, 0, none⟩), .int .i64 base, .slice DA n dc, .slice SA n sc] t) (hX : Blk w1 G #[.int .i64 k, .int .i64 a, .int .i64 b, .slice D m mc] t') (hb : Below w1.heap.size w1 w') :
    w'.cell? ⟨P, 0, none⟩ = some (.pointer (some ⟨g, 0, none⟩)) ∧ (w'.cell? ⟨P, 1, none⟩ = some (.int .i64 base) ∧ w'.cell? ⟨P, 2, none⟩ = some (.slice DA n dc) ∧ w'.cell? ⟨P, 3, none⟩ = some (.slice SA n sc)) ∧ (w'.cell? ⟨G, 1, none⟩ = some (.int .i64 a) ∧ w'.cell? ⟨G, 2, none⟩ = some (.int .i64 b) ∧ w'.cell? ⟨G, 3, none⟩ = some (.slice D m mc)) ∧ Below w1.heap.size w1 w' :=
  ⟨(hP.keep hb).cell 0, ⟨(hP.keep hb).cell 1, (hP.keep hb).cell 2, (hP.keep hb).cell 3⟩, ⟨(hX.keep hb).cell 1, (hX.keep hb).cell 2, (hX.keep hb).cell 3⟩, hb⟩
theorem refRead_at (base : Int) (A : Option Addr) (n c : Nat) (S : Option Addr) (mc s : Nat) (bs : List UInt8) (w : World) (x y : Int) (k m : Nat) (hx : x = base + k) (hy : y = m) (hk : k + m ≤ n) (hc : n ≤ c) (hA : Bytes w A n bs) (hS : Safes w S n s) (hs : s ≤ n) (hn : n ≤ 214748364800000) (h0 : 0 ≤ base) (h1 : base + n ≤ 4612811918334230528) :
    Calls Try.prog 32 #[.agg #[.int .i64 base, .slice A n c, .slice S n mc], .int .i64 x, .int .i64 y] w (RefRead m ((bs.drop k).take m) w) := by
  subst hx; subst hy; exact refRead_any base A n c S mc s bs w k m hk hc hA hS hs hn h0 h1
theorem refCut_at (base : Int) (A : Option Addr) (n c : Nat) (S : Option Addr) (mc s : Nat) (bs : List UInt8) (w : World) (x : Int) (k : Nat) (hx : x = base + k) (hk : k ≤ n) (hA : Bytes w A n bs) (hS : Safes w S n s) (hs : s ≤ n) (hn : n ≤ 214748364800000) (h0 : 0 ≤ base) (h1 : base + n ≤ 4612811918334230528) :
    Calls Try.prog 30 #[.agg #[.int .i64 base, .slice A n c, .slice S n mc], .int .i64 x] w (DocRet base k (bs.take k) (min s k) 0 w) := by
  subst hx
  refine (refCut_any base A n c S mc s bs w k hk hA hS hs hn h0 h1).mono ?_
  rintro e w' ⟨A', c', S', mc', e1, e2, e3, e4, e5⟩
  exact ⟨A', c', S', mc', e1, e2, e3, e4.min, e5⟩
theorem refTrim_at (base : Int) (A : Option Addr) (n c : Nat) (S : Option Addr) (mc s : Nat) (bs : List UInt8) (w : World) (x : Int) (k : Nat) (hx : x = base + k) (hk : k ≤ s) (hA : Bytes w A n bs) (hS : Safes w S n s) (hs : s ≤ n) (hn : n ≤ 214748364800000) (h0 : 0 ≤ base) (h1 : base + n ≤ 4612811918334230528) :
    Calls Try.prog 31 #[.agg #[.int .i64 base, .slice A n c, .slice S n mc], .int .i64 x] w (DocRet x (n - k) (bs.drop k) (s - k) 0 w) := by
  subst hx; exact refTrim_any base A n c S mc s bs w k hk hA hS hs hn h0 h1
/-- The document's answer lies in a variable. -/
def DocK (wc : World) (base : Int) (n : Nat) (bs : List UInt8) (s : Nat) (u : Value) (wx : World) : Prop :=
  ∃ K A5 c5 A6 c6, u = .pointer (some ⟨K, 0, none⟩) ∧ wc.heap.size ≤ K ∧ Blk wx K #[.int .i64 base, .slice A5 n c5, .slice A6 n c6] 46 ∧ n ≤ c5 ∧ Bytes wx A5 n bs ∧ Safes wx A6 n s ∧ (∀ q, blkO A5 = some q → wc.heap.size ≤ q ∧ q < wx.heap.size) ∧ (∀ q, blkO A6 = some q → wc.heap.size ≤ q ∧ q < wx.heap.size) ∧ Below wc.heap.size wc wx
theorem docK_alloc {wc w5 : World} {base : Int} {n s c5 c6 : Nat} {bs : List UInt8} {A5 A6 : Option Addr} (hcp : n ≤ c5) (hy : Bytes w5 A5 n bs) (hz : Safes w5 A6 n s) (h5 : ∀ q, blkO A5 = some q → wc.heap.size ≤ q ∧ q < w5.heap.size) (h6 : ∀ q, blkO A6 = some q → wc.heap.size ≤ q ∧ q < w5.heap.size) (hb : Below wc.heap.size wc w5) :
    DocK wc base n bs s (.pointer (some ⟨w5.heap.size, 0, none⟩)) (w5.alloc (.cells #[.int .i64 base, .slice A5 n c5, .slice A6 n c6] 46)) := by
  have hba := below_alloc w5 (.cells #[.int .i64 base, .slice A5 n c5, .slice A6 n c6] 46)
  exact ⟨_, A5, c5, A6, c6, rfl, hb.size, Blk.fresh _ _ _, hcp, hy.below hba, hz.below hba, fun q e => ⟨(h5 q e).1, Nat.lt_of_lt_of_le (h5 q e).2 hba.size⟩, fun q e => ⟨(h6 q e).1, Nat.lt_of_lt_of_le (h6 q e).2 hba.size⟩, below_then hb hba hb.size⟩
theorem docK_sets {wc w5 : World} {K : Nat} {base : Int} {n s c5 c6 : Nat} {bs : List UInt8} {A5 A6 : Option Addr} {u v x : Value} (hK : wc.heap.size ≤ K) (hbz : Blk w5 K #[u, v, x] 46) (hcp : n ≤ c5) (hy : Bytes w5 A5 n bs) (hz : Safes w5 A6 n s) (h5 : ∀ q, blkO A5 = some q → K < q ∧ q < w5.heap.size) (h6 : ∀ q, blkO A6 = some q → K < q ∧ q < w5.heap.size) (hb : Below wc.heap.size wc w5) :
    DocK wc base n bs s (.pointer (some ⟨K, 0, none⟩)) (((w5.setCell ⟨K, 0, none⟩ (.int .i64 base)).setCell ⟨K, 1, none⟩ (.slice A5 n c5)).setCell ⟨K, 2, none⟩ (.slice A6 n c6)) := by
  have hC := ((chg_set w5 K 0 (.int .i64 base)).set (.inl rfl) 1 (.slice A5 n c5)).set (.inl rfl) 2 (.slice A6 n c6)
  exact ⟨K, A5, c5, A6, c6, rfl, hK, Blk.set (Blk.set (Blk.set hbz 0 (.int .i64 base)) 1 (.slice A5 n c5)) 2 (.slice A6 n c6), hcp, hy.chg hC (fun q e e2 => by have := (h5 q e).1; omega), hz.chg hC (fun q e e2 => by have := (h6 q e).1; omega), fun q e => ⟨by have := (h5 q e).1; omega, Nat.lt_of_lt_of_le (h5 q e).2 hC.size⟩, fun q e => ⟨by have := (h6 q e).1; omega, Nat.lt_of_lt_of_le (h6 q e).2 hC.size⟩, hb.trans (hC.below hb.size (fun k e => e ▸ hK))⟩
/-- The same, where nothing was made: the document's area as it was. -/
def SameK (wc : World) (cs : Array Value) (u : Value) (wx : World) : Prop := ∃ K, u = .pointer (some ⟨K, 0, none⟩) ∧ wc.heap.size ≤ K ∧ Blk wx K cs 46 ∧ Below wc.heap.size wc wx
theorem sameK_alloc {wc w5 : World} {cs : Array Value} (hb : Below wc.heap.size wc w5) : SameK wc cs (.pointer (some ⟨w5.heap.size, 0, none⟩)) (w5.alloc (.cells cs 46)) :=
  ⟨_, rfl, hb.size, Blk.fresh _ _ _, below_then hb (below_alloc _ _) hb.size⟩
theorem sameK_sets {wc w5 : World} {K : Nat} {u v x a b c : Value} (hK : wc.heap.size ≤ K) (hbz : Blk w5 K #[u, v, x] 46) (hb : Below wc.heap.size wc w5) :
    SameK wc #[a, b, c] (.pointer (some ⟨K, 0, none⟩)) (((w5.setCell ⟨K, 0, none⟩ a).setCell ⟨K, 1, none⟩ b).setCell ⟨K, 2, none⟩ c) := by
  have hC := ((chg_set w5 K 0 a).set (.inl rfl) 1 b).set (.inl rfl) 2 c
  exact ⟨K, rfl, hK, Blk.set (Blk.set (Blk.set hbz 0 a) 1 b) 2 c, hb.trans (hC.below hb.size (fun k e => e ▸ hK))⟩
/-- True; nothing but new memory was made. -/
def StaysTo (w : World) (e : Ending) (w' : World) : Prop := e = .returned (.bool true) ∧ Below w.heap.size w w'
theorem stays_mk {w w' : World} (hb : Below w.heap.size w w') : StaysTo w (.returned (.bool true)) w' := ⟨rfl, hb⟩
theorem stays_to {w w4 : World} {P g : Nat} {A DA SA : Option Addr} {c dc sc T : Nat} {base : Int} {bs : List UInt8} {s : Nat} {e : Ending} (h : PairAt w P g A c DA dc SA sc base bs s) (hs : StaysTo w e w4) (h1 : bs.length ≤ T) (h2 : base + bs.length ≤ 4611686018427387904 + (T : Int)) :
    StepTo w P (pF P g A DA SA) T base bs s e w4 := by
  obtain ⟨rfl, hb⟩ := hs
  exact pair_stays h hb h1 h2
end Go.Proofs.Ytbfnmfakagdpfaa
