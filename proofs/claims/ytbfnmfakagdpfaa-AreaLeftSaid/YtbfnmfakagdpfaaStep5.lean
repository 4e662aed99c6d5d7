/- The law package's step, walked: Read. -/
import Derived.Test.YtbfnmfakagdpfaaPair
namespace Go.Proofs.Ytbfnmfakagdpfaa
set_option linter.unusedVariables false
set_option linter.unusedSimpArgs false
open Go.RowKit
set_option maxRecDepth 100000 in
set_option maxHeartbeats 6400000 in
theorem step_read_yes {w : World} {P g : Nat} {A DA SA : Option Addr} {c dc sc T : Nat} {base : Int} {bs : List UInt8} {s : Nat} (h : PairAt w P g A c DA dc SA sc base bs s) (h1 : bs.length ≤ T) (h2 : base + bs.length ≤ 4611686018427387904 + (T : Int))
    (a b : Int) (ha1 : -9223372036854775808 ≤ a) (ha2 : a ≤ 9223372036854775807) (hb1 : -9223372036854775808 ≤ b) (hb2 : b ≤ 9223372036854775807) (D : Option Addr) (m mc : Nat) (d : List UInt8) (hd : Bytes w D m d) (hdn : m ≠ 0 → ∀ q, blkO D = some q → ¬ pF P g A DA SA q) (hT : T + m ≤ 140737488355328) (k n : Nat) (hak : a = base + k) (hbn : b = n) (hkn : k + n ≤ bs.length) :
    Calls Try.prog 21 #[.pointer (some ⟨P, 0, none⟩), .agg #[.int .i64 5, .int .i64 a, .int .i64 b, .slice D m mc]] w (StaysTo w) := by
  have hB1 := below_alloc w (.cells #[.int .i64 5, .int .i64 a, .int .i64 b, .slice D m mc] 25)
  have hX1 := Blk.fresh w #[.int .i64 5, .int .i64 a, .int .i64 b, .slice D m mc] 25
  have HA := Lib.hid hak
  have HN := Lib.hid hbn
  clear hak hbn
  go_enter Try.func21, Try.ntmps21
  go_wp2_with fail
  generalize w.alloc (.cells #[.int .i64 5, .int .i64 a, .int .i64 b, .slice D m mc] 25) = w1 at *
  obtain ⟨G, hG⟩ : ∃ G, w.heap.size = G := ⟨_, rfl⟩
  rw [hG] at hX1 ⊢
  have HG := Lib.hid hG
  clear hG
  have h1' := h.below hB1
  have hGn : ¬ arF g A G := fun e => by have := h.lt G (.inr (.inl e)); have := HG.out; omega
  have hGP : G ≠ P := fun e => by have := h.pb.lt; have := HG.out; omega
  have hsl := h.ar.sle
  have hn1 := h.ar.n1
  have hb0 := h.ar.b0
  have hbe := h.ar.b1
  have h1t : bs.length ≤ T + m := by omega
  have h2t : base + (bs.length : Int) ≤ 4611686018427387904 + ((T + m : Nat) : Int) := by omega
  have kk := keepStep h1'.pb hX1 (Below.refl _ w1).drew
  have hA1 := h1'.ar
  have hda1 := h1'.da
  have hsa1 := h1'.sa
  have hdc := h.dcap
  go_cut [13, 14] from 121 to 132 (fun u v wx => ∃ A3 c3, u = .slice A3 n c3 ∧ v = .int .i64 0 ∧ Bytes wx A3 n ((bs.drop k).take n) ∧ Below w1.heap.size w1 wx)
  case first =>
    go_region_held3 (fun w' => w'.cell? ⟨P, 0, none⟩ = some (.pointer (some ⟨g, 0, none⟩)) ∧ (w'.cell? ⟨P, 1, none⟩ = some (.int .i64 base) ∧ w'.cell? ⟨P, 2, none⟩ = some (.slice DA bs.length dc) ∧ w'.cell? ⟨P, 3, none⟩ = some (.slice SA bs.length sc)) ∧ (w'.cell? ⟨G, 1, none⟩ = some (.int .i64 a) ∧ w'.cell? ⟨G, 2, none⟩ = some (.int .i64 b) ∧ w'.cell? ⟨G, 3, none⟩ = some (.slice D m mc)) ∧ Below w1.heap.size w1 w')
      (first | exact kk | exact kS)
      (first | (go_at_call 11; refine (areaRead_at (hA1.below (hd4 (by assumption))) a b k n HA.out HN.out hkn).mono ?_; rintro e w3 ⟨A3, c3, rfl, ho3, hb3'⟩; have hb3 := hd4b hb3' (by assumption); have kS := keepStep h1'.pb hX1 hb3))
    all_goals go_wp2_with fail
    all_goals go_meet
    all_goals exact ⟨A3, c3, rfl, rfl, own_bytes' ho3 (by omega), hb3⟩
  case rest =>
    obtain ⟨A3, c3, rfl, rfl, hy3, hb3⟩ := hcut
    have hP3 := h1'.pb.keep hb3
    have hX3 := hX1.keep hb3
    clear kk
    have kk := keepStep hP3 hX3 (Below.refl _ wc).drew
    have hda3 := hda1.below hb3
    have hsa3 := hsa1.below hb3
    go_wp2_with fail
    go_cut [15, 16] from 133 to 144 (fun u v wx => ∃ A4 c4, u = .slice A4 n c4 ∧ v = .int .i64 0 ∧ Bytes wx A4 n ((bs.drop k).take n) ∧ Below wc.heap.size wc wx)
    case first =>
      go_region_held3 (fun w' => w'.cell? ⟨P, 0, none⟩ = some (.pointer (some ⟨g, 0, none⟩)) ∧ (w'.cell? ⟨P, 1, none⟩ = some (.int .i64 base) ∧ w'.cell? ⟨P, 2, none⟩ = some (.slice DA bs.length dc) ∧ w'.cell? ⟨P, 3, none⟩ = some (.slice SA bs.length sc)) ∧ (w'.cell? ⟨G, 1, none⟩ = some (.int .i64 a) ∧ w'.cell? ⟨G, 2, none⟩ = some (.int .i64 b) ∧ w'.cell? ⟨G, 3, none⟩ = some (.slice D m mc)) ∧ Below wc.heap.size wc w')
        (first | exact kk | exact kS)
        (first | (go_at_call 32; refine (refRead_at base DA bs.length dc SA sc s bs _ a b k n HA.out HN.out hkn hdc (hda3.below (hd4 (by assumption))) (hsa3.below (hd4 (by assumption))) hsl hn1 hb0 hbe).mono ?_; rintro e w4 ⟨A4, c4, rfl, hy4, hb4'⟩; have hb4 := hd4b hb4' (by assumption); have kS := keepStep hP3 hX3 hb4))
      all_goals go_wp2_with fail
      all_goals go_meet
      all_goals exact ⟨A4, c4, rfl, rfl, hy4, hb4⟩
    case rest =>
      obtain ⟨A4, c4, rfl, rfl, hy4, hb4⟩ := hcut
      have hy3' := hy3.below hb4
      have hfin := Lib.hid (stays_mk (below_then hB1 (below_then hb3 hb4 hb3.size) hB1.size))
      clear kk
      go_wp2_with fail
      refine (same_any _ _ _ _ _ _ _ _ _ hy3' hy4).mono ?_
      rintro e w9 ⟨rfl, rfl⟩
      go_wp2
      go_ret
      have e := hfin.out
      simpa using e
set_option maxRecDepth 100000 in
set_option maxHeartbeats 6400000 in
theorem step_read_no {w : World} {P g : Nat} {A DA SA : Option Addr} {c dc sc T : Nat} {base : Int} {bs : List UInt8} {s : Nat} (h : PairAt w P g A c DA dc SA sc base bs s) (h1 : bs.length ≤ T) (h2 : base + bs.length ≤ 4611686018427387904 + (T : Int))
    (a b : Int) (ha1 : -9223372036854775808 ≤ a) (ha2 : a ≤ 9223372036854775807) (hb1 : -9223372036854775808 ≤ b) (hb2 : b ≤ 9223372036854775807) (D : Option Addr) (m mc : Nat) (d : List UInt8) (hd : Bytes w D m d) (hdn : m ≠ 0 → ∀ q, blkO D = some q → ¬ pF P g A DA SA q) (hT : T + m ≤ 140737488355328) (hno : ¬ ∃ k n : Nat, a = base + k ∧ b = n ∧ k + n ≤ bs.length) :
    Calls Try.prog 21 #[.pointer (some ⟨P, 0, none⟩), .agg #[.int .i64 5, .int .i64 a, .int .i64 b, .slice D m mc]] w (StaysTo w) := by
  have hB1 := below_alloc w (.cells #[.int .i64 5, .int .i64 a, .int .i64 b, .slice D m mc] 25)
  have hX1 := Blk.fresh w #[.int .i64 5, .int .i64 a, .int .i64 b, .slice D m mc] 25
  go_enter Try.func21, Try.ntmps21
  go_wp2_with fail
  generalize w.alloc (.cells #[.int .i64 5, .int .i64 a, .int .i64 b, .slice D m mc] 25) = w1 at *
  obtain ⟨G, hG⟩ : ∃ G, w.heap.size = G := ⟨_, rfl⟩
  rw [hG] at hX1 ⊢
  have HG := Lib.hid hG
  clear hG
  have h1' := h.below hB1
  have hGn : ¬ arF g A G := fun e => by have := h.lt G (.inr (.inl e)); have := HG.out; omega
  have hGP : G ≠ P := fun e => by have := h.pb.lt; have := HG.out; omega
  have hsl := h.ar.sle
  have hn1 := h.ar.n1
  have hb0 := h.ar.b0
  have hbe := h.ar.b1
  have h1t : bs.length ≤ T + m := by omega
  have h2t : base + (bs.length : Int) ≤ 4611686018427387904 + ((T + m : Nat) : Int) := by omega
  have kk := keepStep h1'.pb hX1 (Below.refl _ w1).drew
  have hA1 := h1'.ar
  have hda1 := h1'.da
  have hsa1 := h1'.sa
  have hdc := h.dcap
  have hq1 : b < 0 ∨ (bs.length : Int) < b ∨ a < base ∨ base + (bs.length : Int) - b < a := by
    apply Classical.byContradiction
    intro hc
    exact hno ⟨(a - base).toNat, b.toNat, by omega, by omega, by omega⟩
  have hq2 : b < 0 ∨ a < base ∨ base + (bs.length : Int) < a ∨ base + (bs.length : Int) - a < b := by omega
  have HQ1 := Lib.hid hq1
  have HQ2 := Lib.hid hq2
  clear hq1 hq2 hno
  go_cut [13, 14] from 121 to 132 (fun u v wx => u = .slice none 0 0 ∧ v = .int .i64 70 ∧ Below w1.heap.size w1 wx)
  case first =>
    go_region_held3 (fun w' => w'.cell? ⟨P, 0, none⟩ = some (.pointer (some ⟨g, 0, none⟩)) ∧ (w'.cell? ⟨P, 1, none⟩ = some (.int .i64 base) ∧ w'.cell? ⟨P, 2, none⟩ = some (.slice DA bs.length dc) ∧ w'.cell? ⟨P, 3, none⟩ = some (.slice SA bs.length sc)) ∧ (w'.cell? ⟨G, 1, none⟩ = some (.int .i64 a) ∧ w'.cell? ⟨G, 2, none⟩ = some (.int .i64 b) ∧ w'.cell? ⟨G, 3, none⟩ = some (.slice D m mc)) ∧ Below w1.heap.size w1 w')
      (first | exact kk | exact kS)
      (first | (go_at_call 11; refine (areaRead_no (hA1.below (hd4 (by assumption))) a b hb1 hb2 HQ1.out).mono ?_; rintro e w3 ⟨rfl, hb3'⟩; have hb3 := hd4b hb3' (by assumption); have kS := keepStep h1'.pb hX1 hb3))
    all_goals go_wp2_with fail
    all_goals go_meet
    all_goals exact ⟨rfl, rfl, hb3⟩
  case rest =>
    obtain ⟨rfl, rfl, hb3⟩ := hcut
    have hP3 := h1'.pb.keep hb3
    have hX3 := hX1.keep hb3
    clear kk
    have kk := keepStep hP3 hX3 (Below.refl _ wc).drew
    have hda3 := hda1.below hb3
    have hsa3 := hsa1.below hb3
    go_wp2_with fail
    go_cut [15, 16] from 133 to 144 (fun u v wx => u = .slice none 0 0 ∧ v = .int .i64 70 ∧ Below wc.heap.size wc wx)
    case first =>
      go_region_held3 (fun w' => w'.cell? ⟨P, 0, none⟩ = some (.pointer (some ⟨g, 0, none⟩)) ∧ (w'.cell? ⟨P, 1, none⟩ = some (.int .i64 base) ∧ w'.cell? ⟨P, 2, none⟩ = some (.slice DA bs.length dc) ∧ w'.cell? ⟨P, 3, none⟩ = some (.slice SA bs.length sc)) ∧ (w'.cell? ⟨G, 1, none⟩ = some (.int .i64 a) ∧ w'.cell? ⟨G, 2, none⟩ = some (.int .i64 b) ∧ w'.cell? ⟨G, 3, none⟩ = some (.slice D m mc)) ∧ Below wc.heap.size wc w')
        (first | exact kk | exact kS)
        (first | (go_at_call 32; refine (refRead_no base DA bs.length dc SA sc s bs _ a b hb1 hb2 HQ2.out (hda3.below (hd4 (by assumption))) (hsa3.below (hd4 (by assumption))) hsl hn1 hb0 hbe).mono ?_; rintro e w4 ⟨rfl, hb4'⟩; have hb4 := hd4b hb4' (by assumption); have kS := keepStep hP3 hX3 hb4))
      all_goals go_wp2_with fail
      all_goals go_meet
      all_goals exact ⟨rfl, rfl, hb4⟩
    case rest =>
      obtain ⟨rfl, rfl, hb4⟩ := hcut
      have hfin := Lib.hid (stays_mk (below_then hB1 (below_then hb3 hb4 hb3.size) hB1.size))
      clear kk
      go_wp2_with fail
      refine (same_any none none 0 0 0 0 [] [] _ (Bytes.empty _ _) (Bytes.empty _ _)).mono ?_
      rintro e w9 ⟨rfl, rfl⟩
      go_wp2
      go_ret
      exact hfin.out
end Go.Proofs.Ytbfnmfakagdpfaa
