/- The law package's step, walked: Bounds. -/
import Derived.Test.YtbfnmfakagdpfaaPair
namespace Go.Proofs.Ytbfnmfakagdpfaa
set_option linter.unusedVariables false
set_option linter.unusedSimpArgs false
open Go.RowKit
set_option maxRecDepth 100000 in
set_option maxHeartbeats 6400000 in
theorem step_bounds {w : World} {P g : Nat} {A DA SA : Option Addr} {c dc sc T : Nat} {base : Int} {bs : List UInt8} {s : Nat} (h : PairAt w P g A c DA dc SA sc base bs s) (h1 : bs.length ≤ T) (h2 : base + bs.length ≤ 4611686018427387904 + (T : Int))
    (a b : Int) (ha1 : -9223372036854775808 ≤ a) (ha2 : a ≤ 9223372036854775807) (hb1 : -9223372036854775808 ≤ b) (hb2 : b ≤ 9223372036854775807) (D : Option Addr) (m mc : Nat) (d : List UInt8) (hd : Bytes w D m d) (hdn : m ≠ 0 → ∀ q, blkO D = some q → ¬ pF P g A DA SA q) (hT : T + m ≤ 140737488355328) :
    Calls Try.prog 21 #[.pointer (some ⟨P, 0, none⟩), .agg #[.int .i64 6, .int .i64 a, .int .i64 b, .slice D m mc]] w (StaysTo w) := by
  have hB1 := below_alloc w (.cells #[.int .i64 6, .int .i64 a, .int .i64 b, .slice D m mc] 25)
  have hX1 := Blk.fresh w #[.int .i64 6, .int .i64 a, .int .i64 b, .slice D m mc] 25
  go_enter Try.func21, Try.ntmps21
  go_upto_region 25 with fail
  generalize w.alloc (.cells #[.int .i64 6, .int .i64 a, .int .i64 b, .slice D m mc] 25) = w1 at *
  obtain ⟨G, hG⟩ : ∃ G, w.heap.size = G := ⟨_, rfl⟩
  rw [hG] at hX1 ⊢
  have HG := Lib.hid hG
  clear hG
  have h1' := h.below hB1
  have hGn : ¬ arF g A G := fun e => by have := h.lt G (.inr (.inl e)); have := HG.out; omega
  have hGP : G ≠ P := fun e => by have := h.pb.lt; have := HG.out; omega
  have hsl := h.ar.sle
  have hn1 := h.ar.n1
  have hb0 := h.ar.b0
  have hbe := h.ar.b1
  have h1t : bs.length ≤ T + m := by omega
  have h2t : base + (bs.length : Int) ≤ 4611686018427387904 + ((T + m : Nat) : Int) := by omega
  have p0 : w1.cell? ⟨P, 0, none⟩ = some (.pointer (some ⟨g, 0, none⟩)) := h1'.pb.cell 0
  have p1 : w1.cell? ⟨P, 1, none⟩ = some (.int .i64 base) := h1'.pb.cell 1
  have p2 : w1.cell? ⟨P, 2, none⟩ = some (.slice DA bs.length dc) := h1'.pb.cell 2
  have p3 : w1.cell? ⟨P, 3, none⟩ = some (.slice SA bs.length sc) := h1'.pb.cell 3
  go_wp2_with fail
  refine (areaBounds_any h1'.ar).mono ?_
  rintro e w3 ⟨rfl, hw3⟩
  have hb3 : Below w1.heap.size w1 w3 := by obtain ⟨n, rfl⟩ := hw3; exact below_drew7 _ _
  clear hw3
  have hP3 := h1'.pb.keep hb3
  have hsa3 := h1'.sa.below hb3
  clear p0 p1 p2 p3
  have p0 : w3.cell? ⟨P, 0, none⟩ = some (.pointer (some ⟨g, 0, none⟩)) := hP3.cell 0
  have p1 : w3.cell? ⟨P, 1, none⟩ = some (.int .i64 base) := hP3.cell 1
  have p2 : w3.cell? ⟨P, 2, none⟩ = some (.slice DA bs.length dc) := hP3.cell 2
  have p3 : w3.cell? ⟨P, 3, none⟩ = some (.slice SA bs.length sc) := hP3.cell 3
  go_wp2_with fail
  refine (refSafeEnd_any base (.slice DA bs.length dc) SA bs.length sc s _ hsa3 hb0 (by omega) hsl).mono ?_
  rintro e w4 ⟨rfl, hb4'⟩
  have hb4 := below_then hb3 hb4' hb3.size
  have hP4 := h1'.pb.keep hb4
  clear p0 p1 p2 p3
  have p0 : w4.cell? ⟨P, 0, none⟩ = some (.pointer (some ⟨g, 0, none⟩)) := hP4.cell 0
  have p1 : w4.cell? ⟨P, 1, none⟩ = some (.int .i64 base) := hP4.cell 1
  have p2 : w4.cell? ⟨P, 2, none⟩ = some (.slice DA bs.length dc) := hP4.cell 2
  have p3 : w4.cell? ⟨P, 3, none⟩ = some (.slice SA bs.length sc) := hP4.cell 3
  go_wp2_with fail
  refine (refEnd_any base DA bs.length dc (.slice SA bs.length sc) _ hb0 (by omega)).mono ?_
  rintro e w5 ⟨rfl, hb5'⟩
  have hb5 := below_then hb4 hb5' hb4.size
  have hfin := Lib.hid (stays_mk (below_then hB1 hb5 hB1.size))
  go_wp2
  go_ret
  exact hfin.out
end Go.Proofs.Ytbfnmfakagdpfaa
