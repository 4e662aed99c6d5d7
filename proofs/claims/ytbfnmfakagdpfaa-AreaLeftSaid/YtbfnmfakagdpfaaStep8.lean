/- The law package's step, walked: Image. -/
import Derived.Test.YtbfnmfakagdpfaaPair
namespace Go.Proofs.Ytbfnmfakagdpfaa
set_option linter.unusedVariables false
set_option linter.unusedSimpArgs false
open Go.RowKit
theorem keepImg {w1 w' : World} {P g K : Nat} {DA SA A3 : Option Addr} {n dc sc s c3 : Nat} {base : Int} {t t' : TypeId} (hP : Blk w1 P #[.pointer (some ⟨g, 0, none⟩), .int .i64 base, .slice DA n dc, .slice SA n sc] t) (hX : Blk w1 K #[.int .i64 base, .slice A3 s c3] t') (hb : Below w1.heap.size w1 w') :
    (w'.cell? ⟨K, 0, none⟩ = some (.int .i64 base) ∧ w'.cell? ⟨K, 1, none⟩ = some (.slice A3 s c3)) ∧ (w'.cell? ⟨P, 1, none⟩ = some (.int .i64 base) ∧ w'.cell? ⟨P, 2, none⟩ = some (.slice DA n dc) ∧ w'.cell? ⟨P, 3, none⟩ = some (.slice SA n sc)) ∧ True ∧ Below w1.heap.size w1 w' :=
  ⟨⟨(hX.keep hb).cell 0, (hX.keep hb).cell 1⟩, ⟨(hP.keep hb).cell 1, (hP.keep hb).cell 2, (hP.keep hb).cell 3⟩, trivial, hb⟩
set_option maxRecDepth 100000 in
set_option maxHeartbeats 6400000 in
theorem step_image {w : World} {P g : Nat} {A DA SA : Option Addr} {c dc sc T : Nat} {base : Int} {bs : List UInt8} {s : Nat} (h : PairAt w P g A c DA dc SA sc base bs s) (h1 : bs.length ≤ T) (h2 : base + bs.length ≤ 4611686018427387904 + (T : Int))
    (a b : Int) (ha1 : -9223372036854775808 ≤ a) (ha2 : a ≤ 9223372036854775807) (hb1 : -9223372036854775808 ≤ b) (hb2 : b ≤ 9223372036854775807) (D : Option Addr) (m mc : Nat) (d : List UInt8) (hd : Bytes w D m d) (hdn : m ≠ 0 → ∀ q, blkO D = some q → ¬ pF P g A DA SA q) (hT : T + m ≤ 140737488355328) :
    Calls Try.prog 21 #[.pointer (some ⟨P, 0, none⟩), .agg #[.int .i64 8, .int .i64 a, .int .i64 b, .slice D m mc]] w (StaysTo w) := by
  have hB1 := below_alloc w (.cells #[.int .i64 8, .int .i64 a, .int .i64 b, .slice D m mc] 25)
  have hX1 := Blk.fresh w #[.int .i64 8, .int .i64 a, .int .i64 b, .slice D m mc] 25
  go_enter Try.func21, Try.ntmps21
  go_upto_region 32 with fail
  generalize w.alloc (.cells #[.int .i64 8, .int .i64 a, .int .i64 b, .slice D m mc] 25) = w1 at *
  obtain ⟨G, hG⟩ : ∃ G, w.heap.size = G := ⟨_, rfl⟩
  rw [hG] at hX1 ⊢
  have HG := Lib.hid hG
  clear hG
  have h1' := h.below hB1
  have hGn : ¬ arF g A G := fun e => by have := h.lt G (.inr (.inl e)); have := HG.out; omega
  have hGP : G ≠ P := fun e => by have := h.pb.lt; have := HG.out; omega
  have hsl := h.ar.sle
  have hn1 := h.ar.n1
  have hb0 := h.ar.b0
  have hbe := h.ar.b1
  have h1t : bs.length ≤ T + m := by omega
  have h2t : base + (bs.length : Int) ≤ 4611686018427387904 + ((T + m : Nat) : Int) := by omega
  have p0 : w1.cell? ⟨P, 0, none⟩ = some (.pointer (some ⟨g, 0, none⟩)) := h1'.pb.cell 0
  have p1 : w1.cell? ⟨P, 1, none⟩ = some (.int .i64 base) := h1'.pb.cell 1
  have p2 : w1.cell? ⟨P, 2, none⟩ = some (.slice DA bs.length dc) := h1'.pb.cell 2
  have p3 : w1.cell? ⟨P, 3, none⟩ = some (.slice SA bs.length sc) := h1'.pb.cell 3
  have hdc := h.dcap
  go_wp2_with fail
  refine (areaImage_any h1'.ar).mono ?_
  rintro e w3 ⟨A3, c3, rfl, ho3, hb3⟩
  have hb4 := below_alloc w3 (.cells #[.int .i64 base, .slice A3 s c3] 33)
  have hI4 := Blk.fresh w3 #[.int .i64 base, .slice A3 s c3] 33
  have hb34 := below_then hb3 hb4 hb3.size
  have ho4 := own_below ho3 hb4
  have hP4 := h1'.pb.keep hb34
  have hda4 := h1'.da.below hb34
  have hsa4 := h1'.sa.below hb34
  clear p0 p1 p2 p3
  go_wp2_with fail
  obtain ⟨K, hK⟩ : ∃ K, w3.heap.size = K := ⟨_, rfl⟩
  rw [hK] at hI4 ⊢
  clear hK hb4 ho3
  generalize w3.alloc (.cells #[.int .i64 base, .slice A3 s c3] 33) = w4 at *
  have kk := keepImg hP4 hI4 (Below.refl _ w4).drew
  have hy4 := own_bytes' ho4 (by omega)
  go_region_held3 (fun w' => (w'.cell? ⟨K, 0, none⟩ = some (.int .i64 base) ∧ w'.cell? ⟨K, 1, none⟩ = some (.slice A3 s c3)) ∧ (w'.cell? ⟨P, 1, none⟩ = some (.int .i64 base) ∧ w'.cell? ⟨P, 2, none⟩ = some (.slice DA bs.length dc) ∧ w'.cell? ⟨P, 3, none⟩ = some (.slice SA bs.length sc)) ∧ True ∧ Below w4.heap.size w4 w')
    (first | exact kk | exact kS)
    (first | (go_at_call 36; refine (refImage_any base DA bs.length dc SA sc s bs _ hdc (hda4.below (hd4 (by assumption))) (hsa4.below (hd4 (by assumption))) hsl hn1 hb0 hbe).mono ?_; rintro e w5 ⟨A5, c5, rfl, hy5, hb5'⟩; have hb5 := hd4b hb5' (by assumption); have kS := keepImg hP4 hI4 hb5) | (go_at_call 25; refine (same_any _ _ _ _ _ _ _ _ _ (hy4.below hb5) hy5).mono ?_; rintro e w6 ⟨rfl, rfl⟩))
  all_goals
    have hfin := Lib.hid (stays_mk (below_then hB1 (below_then hb34 hb5 hb34.size) hB1.size))
    clear kk kS
    go_wp2
    go_ret
    have e := hfin.out
    simpa using e
end Go.Proofs.Ytbfnmfakagdpfaa
