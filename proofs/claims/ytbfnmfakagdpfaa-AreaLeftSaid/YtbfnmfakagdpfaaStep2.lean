/- The law package's step, walked: Sync. -/
import Derived.Test.YtbfnmfakagdpfaaPair
namespace Go.Proofs.Ytbfnmfakagdpfaa
set_option linter.unusedVariables false
set_option linter.unusedSimpArgs false
open Go.RowKit
set_option maxRecDepth 100000 in
set_option maxHeartbeats 6400000 in
theorem step_sync {w : World} {P g : Nat} {A DA SA : Option Addr} {c dc sc T : Nat} {base : Int} {bs : List UInt8} {s : Nat} (h : PairAt w P g A c DA dc SA sc base bs s) (h1 : bs.length ≤ T) (h2 : base + bs.length ≤ 4611686018427387904 + (T : Int))
    (a b : Int) (ha1 : -9223372036854775808 ≤ a) (ha2 : a ≤ 9223372036854775807) (hb1 : -9223372036854775808 ≤ b) (hb2 : b ≤ 9223372036854775807) (D : Option Addr) (m mc : Nat) (d : List UInt8) (hd : Bytes w D m d) (hdn : m ≠ 0 → ∀ q, blkO D = some q → ¬ pF P g A DA SA q) (hT : T + m ≤ 140737488355328) :
    Calls Try.prog 21 #[.pointer (some ⟨P, 0, none⟩), .agg #[.int .i64 2, .int .i64 a, .int .i64 b, .slice D m mc]] w (StepTo w P (pF P g A DA SA) (T + m) base bs bs.length) := by
  have hB1 := below_alloc w (.cells #[.int .i64 2, .int .i64 a, .int .i64 b, .slice D m mc] 25)
  have hX1 := Blk.fresh w #[.int .i64 2, .int .i64 a, .int .i64 b, .slice D m mc] 25
  go_enter Try.func21, Try.ntmps21
  go_upto_region 7 with fail
  generalize w.alloc (.cells #[.int .i64 2, .int .i64 a, .int .i64 b, .slice D m mc] 25) = w1 at *
  obtain ⟨G, hG⟩ : ∃ G, w.heap.size = G := ⟨_, rfl⟩
  rw [hG] at hX1 ⊢
  have HG := Lib.hid hG
  clear hG
  have h1' := h.below hB1
  have hGn : ¬ arF g A G := fun e => by have := h.lt G (.inr (.inl e)); have := HG.out; omega
  have hGP : G ≠ P := fun e => by have := h.pb.lt; have := HG.out; omega
  have hsl := h.ar.sle
  have hn1 := h.ar.n1
  have hb0 := h.ar.b0
  have hbe := h.ar.b1
  have h1t : bs.length ≤ T + m := by omega
  have h2t : base + (bs.length : Int) ≤ 4611686018427387904 + ((T + m : Nat) : Int) := by omega
  have p0 : w1.cell? ⟨P, 0, none⟩ = some (.pointer (some ⟨g, 0, none⟩)) := h1'.pb.cell 0
  have p1 : w1.cell? ⟨P, 1, none⟩ = some (.int .i64 base) := h1'.pb.cell 1
  have p2 : w1.cell? ⟨P, 2, none⟩ = some (.slice DA bs.length dc) := h1'.pb.cell 2
  have p3 : w1.cell? ⟨P, 3, none⟩ = some (.slice SA bs.length sc) := h1'.pb.cell 3
  go_wp2_with fail
  refine (areaSync_any h1'.ar).mono ?_
  rintro e w3 ⟨rfl, A3, c3, hA3, hC3, hF3⟩
  have hP3 := h1'.pb.chg hC3 h.pne
  have hX3 := hX1.chg hC3 hGn
  have hda3 := h1'.da.chg hC3 (fun q e => (h.dis q (.inl e)).2)
  have hsa3 := h1'.sa.chg hC3 (fun q e => (h.dis q (.inr e)).2)
  clear p0 p1 p2 p3
  have p0 : w3.cell? ⟨P, 0, none⟩ = some (.pointer (some ⟨g, 0, none⟩)) := hP3.cell 0
  have p1 : w3.cell? ⟨P, 1, none⟩ = some (.int .i64 base) := hP3.cell 1
  have p2 : w3.cell? ⟨P, 2, none⟩ = some (.slice DA bs.length dc) := hP3.cell 2
  have p3 : w3.cell? ⟨P, 3, none⟩ = some (.slice SA bs.length sc) := hP3.cell 3
  go_wp2_with fail
  refine (refSync_any base DA bs.length dc SA sc s bs _ hda3 hsa3 hsl hn1).mono ?_
  intro e w5 h5
  obtain ⟨A5, c5, A6, c6, rfl, ho5, ho6, hb5⟩ := h5.at_
  have hP5 := hP3.keep hb5
  clear p0 p1 p2 p3
  have p0 : w5.cell? ⟨P, 0, none⟩ = some (.pointer (some ⟨g, 0, none⟩)) := hP5.cell 0
  have p1 : w5.cell? ⟨P, 1, none⟩ = some (.int .i64 base) := hP5.cell 1
  have p2 : w5.cell? ⟨P, 2, none⟩ = some (.slice DA bs.length dc) := hP5.cell 2
  have p3 : w5.cell? ⟨P, 3, none⟩ = some (.slice SA bs.length sc) := hP5.cell 3
  have f1 := hP5.frozen 1
  have f2 := hP5.frozen 2
  have f3 := hP5.frozen 3
  have hfin := Lib.hid (pair_store (T := T + m) (c6 := c6) h hB1 hA3 hC3 hF3 hb5 rfl (own_bytes' ho5 (by omega)) (own_cap7 ho5) (own_safes ho6 (by omega)) (own_lt7 ho5) (own_lt7 ho6) h1t h2t)
  go_wp2
  go_ret
  exact hfin.out
end Go.Proofs.Ytbfnmfakagdpfaa
