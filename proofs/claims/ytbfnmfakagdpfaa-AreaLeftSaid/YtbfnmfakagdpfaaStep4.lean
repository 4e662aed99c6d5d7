/- The law package's step, walked: Trim. -/
import Derived.Test.YtbfnmfakagdpfaaPair
namespace Go.Proofs.Ytbfnmfakagdpfaa
set_option linter.unusedVariables false
set_option linter.unusedSimpArgs false
open Go.RowKit
set_option maxRecDepth 100000 in
set_option maxHeartbeats 6400000 in
theorem step_trim_yes {w : World} {P g : Nat} {A DA SA : Option Addr} {c dc sc T : Nat} {base : Int} {bs : List UInt8} {s : Nat} (h : PairAt w P g A c DA dc SA sc base bs s) (h1 : bs.length ≤ T) (h2 : base + bs.length ≤ 4611686018427387904 + (T : Int))
    (a b : Int) (ha1 : -9223372036854775808 ≤ a) (ha2 : a ≤ 9223372036854775807) (hb1 : -9223372036854775808 ≤ b) (hb2 : b ≤ 9223372036854775807) (D : Option Addr) (m mc : Nat) (d : List UInt8) (hd : Bytes w D m d) (hdn : m ≠ 0 → ∀ q, blkO D = some q → ¬ pF P g A DA SA q) (hT : T + m ≤ 140737488355328) (k : Nat) (hak : a = base + k) (hkn : k ≤ s) :
    Calls Try.prog 21 #[.pointer (some ⟨P, 0, none⟩), .agg #[.int .i64 4, .int .i64 a, .int .i64 b, .slice D m mc]] w (StepTo w P (pF P g A DA SA) (T + m) a (bs.drop k) (s - k)) := by
  have hB1 := below_alloc w (.cells #[.int .i64 4, .int .i64 a, .int .i64 b, .slice D m mc] 25)
  have hX1 := Blk.fresh w #[.int .i64 4, .int .i64 a, .int .i64 b, .slice D m mc] 25
  have HA := Lib.hid hak
  clear hak
  go_enter Try.func21, Try.ntmps21
  go_wp2_with fail
  generalize w.alloc (.cells #[.int .i64 4, .int .i64 a, .int .i64 b, .slice D m mc] 25) = w1 at *
  obtain ⟨G, hG⟩ : ∃ G, w.heap.size = G := ⟨_, rfl⟩
  rw [hG] at hX1 ⊢
  have HG := Lib.hid hG
  clear hG
  have h1' := h.below hB1
  have hGn : ¬ arF g A G := fun e => by have := h.lt G (.inr (.inl e)); have := HG.out; omega
  have hGP : G ≠ P := fun e => by have := h.pb.lt; have := HG.out; omega
  have hsl := h.ar.sle
  have hn1 := h.ar.n1
  have hb0 := h.ar.b0
  have hbe := h.ar.b1
  have h1t : bs.length ≤ T + m := by omega
  have h2t : base + (bs.length : Int) ≤ 4611686018427387904 + ((T + m : Nat) : Int) := by omega
  have kk := keepStep h1'.pb hX1 (Below.refl _ w1).drew
  have hA1 := h1'.ar
  go_cut [10] from 95 to 101 (fun v wx => v = .int .i64 0 ∧ ∃ A3 c3, Ar wx g A3 c3 a (bs.drop k) (s - k) ∧ Chg (arF g A) w1 wx ∧ ∀ k, blkO A3 = some k → arF g A k ∨ w1.heap.size ≤ k)
  case first =>
    go_region_held3 (fun w' => w'.cell? ⟨P, 0, none⟩ = some (.pointer (some ⟨g, 0, none⟩)) ∧ w'.cell? ⟨G, 1, none⟩ = some (.int .i64 a))
      (first | exact ⟨kk.1, kk.2.2.1.1⟩ | exact kS)
      (first | (go_at_call 17; refine (areaTrim_at (hA1.below (Below.refl _ w1).drew) a k HA.out hkn).mono ?_; rintro e w3 ⟨rfl, A3, c3, hA3, hC3', hF3⟩; have hC3 := Chg.after (Below.refl _ w1).drew hC3'; have kS := And.intro (hC3.cell (h1'.pb.cell 0) h.pne) (hC3.cell (hX1.cell 1) hGn)))
    all_goals go_wp2_with fail
    all_goals go_meet
    all_goals exact ⟨rfl, A3, c3, by first | exact hA3 | (rw [HA.out] at hA3; exact hA3), hC3, hF3⟩
  case rest =>
    obtain ⟨rfl, A3, c3, hA3, hC3, hF3⟩ := hcut
    have hP3 := h1'.pb.chg hC3 h.pne
    have hX3 := hX1.chg hC3 hGn
    have hda3 := h1'.da.chg hC3 (fun q e => (h.dis q (.inl e)).2)
    have hsa3 := h1'.sa.chg hC3 (fun q e => (h.dis q (.inr e)).2)
    clear kk
    have kk := keepStep hP3 hX3 (Below.refl _ wc).drew
    go_wp2_with fail
    go_cut [11, 12] from 102 to 111 (fun u v wx => v = .int .i64 0 ∧ DocK wc (a) (bs.length - k) (bs.drop k) (s - k) u wx)
    case first =>
      go_region_held3 (fun w' => w'.cell? ⟨P, 0, none⟩ = some (.pointer (some ⟨g, 0, none⟩)) ∧ (w'.cell? ⟨P, 1, none⟩ = some (.int .i64 base) ∧ w'.cell? ⟨P, 2, none⟩ = some (.slice DA bs.length dc) ∧ w'.cell? ⟨P, 3, none⟩ = some (.slice SA bs.length sc)) ∧ (w'.cell? ⟨G, 1, none⟩ = some (.int .i64 a) ∧ w'.cell? ⟨G, 2, none⟩ = some (.int .i64 b) ∧ w'.cell? ⟨G, 3, none⟩ = some (.slice D m mc)) ∧ Below wc.heap.size wc w')
        (first | exact kk | exact kS | exact keepStep hP3 hX3 (hd4a (by assumption)) | exact keepStep hP3 hX3 (hb5.alloc hb5.size _) | exact keepStep hP3 hX3 (((hb5.setCell (p := ⟨wc.heap.size, 0, none⟩) (Nat.le_refl _) _).setCell (p := ⟨wc.heap.size, 1, none⟩) (Nat.le_refl _) _).setCell (p := ⟨wc.heap.size, 2, none⟩) (Nat.le_refl _) _))
        (first | (go_at_call 31; refine (refTrim_at base DA bs.length dc SA sc s bs _ a k HA.out hkn (hda3.below (hd4 (by assumption))) (hsa3.below (hd4 (by assumption))) hsl hn1 hb0 hbe).mono ?_; rintro e w5 ⟨A5, c5, A6, c6, rfl, hcp, hy5, hz5, hl5, hl6, hb5'⟩; have hb5 := hd4b hb5' (by assumption); have kS := keepStep hP3 hX3 hb5; first | (have bz : Blk w5 wc.heap.size #[.int .i64 0, .slice none 0 0, .slice none 0 0] 46 := Blk.keep (Blk.fresh wc.drew #[.int .i64 0, .slice none 0 0, .slice none 0 0] 46) hb5'; have z0 : w5.cell? ⟨wc.heap.size, 0, none⟩ = some (.int .i64 0) := bz.cell 0; have z1 : w5.cell? ⟨wc.heap.size, 1, none⟩ = some (.slice none 0 0) := bz.cell 1; have z2 : w5.cell? ⟨wc.heap.size, 2, none⟩ = some (.slice none 0 0) := bz.cell 2; have zf0 : w5.frozen? ⟨wc.heap.size, 0, none⟩ = false := bz.frozen 0; have zf1 : w5.frozen? ⟨wc.heap.size, 1, none⟩ = false := bz.frozen 1; have zf2 : w5.frozen? ⟨wc.heap.size, 2, none⟩ = false := bz.frozen 2) | skip))
      all_goals go_wp2_with fail
      all_goals go_meet
      all_goals first | exact ⟨rfl, docK_alloc hcp hy5 hz5 hl5 hl6 hb5⟩ | exact ⟨rfl, docK_sets (Nat.le_refl _) bz hcp hy5 hz5 (fun q e => ⟨Nat.lt_of_lt_of_le (Nat.lt_succ_self _) (by simpa using (hl5 q e).1), (hl5 q e).2⟩) (fun q e => ⟨Nat.lt_of_lt_of_le (Nat.lt_succ_self _) (by simpa using (hl6 q e).1), (hl6 q e).2⟩) hb5⟩
    case rest =>
      obtain ⟨rfl, K, A5, c5, A6, c6, rfl, hKl, hKb, hcp, hy5, hz5, hl5, hl6, hb5⟩ := hcut
      have hP5 := hP3.keep hb5
      clear kk
      have p1 : wc.cell? ⟨P, 1, none⟩ = some (.int .i64 base) := hP5.cell 1
      have p2 : wc.cell? ⟨P, 2, none⟩ = some (.slice DA bs.length dc) := hP5.cell 2
      have p3 : wc.cell? ⟨P, 3, none⟩ = some (.slice SA bs.length sc) := hP5.cell 3
      have f1 := hP5.frozen 1
      have f2 := hP5.frozen 2
      have f3 := hP5.frozen 3
      have k0 := hKb.cell 0
      have k1 := hKb.cell 1
      have k2 := hKb.cell 2
      simp at k0 k1 k2
      have hfin := Lib.hid (pair_store (T := T + m) (c6 := c6) h hB1 hA3 hC3 hF3 hb5 (by simp only [List.length_take, List.length_drop] <;> omega) hy5 hcp hz5 hl5 hl6 (by simp only [List.length_take, List.length_drop]; omega) (by have := HA.out; simp only [List.length_take, List.length_drop]; omega))
      go_wp2
      go_ret
      exact hfin.out
set_option maxRecDepth 100000 in
set_option maxHeartbeats 6400000 in
theorem step_trim_no {w : World} {P g : Nat} {A DA SA : Option Addr} {c dc sc T : Nat} {base : Int} {bs : List UInt8} {s : Nat} (h : PairAt w P g A c DA dc SA sc base bs s) (h1 : bs.length ≤ T) (h2 : base + bs.length ≤ 4611686018427387904 + (T : Int))
    (a b : Int) (ha1 : -9223372036854775808 ≤ a) (ha2 : a ≤ 9223372036854775807) (hb1 : -9223372036854775808 ≤ b) (hb2 : b ≤ 9223372036854775807) (D : Option Addr) (m mc : Nat) (d : List UInt8) (hd : Bytes w D m d) (hdn : m ≠ 0 → ∀ q, blkO D = some q → ¬ pF P g A DA SA q) (hT : T + m ≤ 140737488355328) (hno : a < base ∨ base + s < a) :
    Calls Try.prog 21 #[.pointer (some ⟨P, 0, none⟩), .agg #[.int .i64 4, .int .i64 a, .int .i64 b, .slice D m mc]] w (StepTo w P (pF P g A DA SA) (T + m) base bs s) := by
  have hB1 := below_alloc w (.cells #[.int .i64 4, .int .i64 a, .int .i64 b, .slice D m mc] 25)
  have hX1 := Blk.fresh w #[.int .i64 4, .int .i64 a, .int .i64 b, .slice D m mc] 25
  go_enter Try.func21, Try.ntmps21
  go_wp2_with fail
  generalize w.alloc (.cells #[.int .i64 4, .int .i64 a, .int .i64 b, .slice D m mc] 25) = w1 at *
  obtain ⟨G, hG⟩ : ∃ G, w.heap.size = G := ⟨_, rfl⟩
  rw [hG] at hX1 ⊢
  have HG := Lib.hid hG
  clear hG
  have h1' := h.below hB1
  have hGn : ¬ arF g A G := fun e => by have := h.lt G (.inr (.inl e)); have := HG.out; omega
  have hGP : G ≠ P := fun e => by have := h.pb.lt; have := HG.out; omega
  have hsl := h.ar.sle
  have hn1 := h.ar.n1
  have hb0 := h.ar.b0
  have hbe := h.ar.b1
  have h1t : bs.length ≤ T + m := by omega
  have h2t : base + (bs.length : Int) ≤ 4611686018427387904 + ((T + m : Nat) : Int) := by omega
  have kk := keepStep h1'.pb hX1 (Below.refl _ w1).drew
  have hA1 := h1'.ar
  have hda1 := h1'.da
  have hsa1 := h1'.sa
  have HNO := Lib.hid hno
  clear hno
  go_cut [10] from 95 to 101 (fun v wx => v = .int .i64 70 ∧ Below w1.heap.size w1 wx)
  case first =>
    go_region_held3 (fun w' => w'.cell? ⟨P, 0, none⟩ = some (.pointer (some ⟨g, 0, none⟩)) ∧ (w'.cell? ⟨P, 1, none⟩ = some (.int .i64 base) ∧ w'.cell? ⟨P, 2, none⟩ = some (.slice DA bs.length dc) ∧ w'.cell? ⟨P, 3, none⟩ = some (.slice SA bs.length sc)) ∧ (w'.cell? ⟨G, 1, none⟩ = some (.int .i64 a) ∧ w'.cell? ⟨G, 2, none⟩ = some (.int .i64 b) ∧ w'.cell? ⟨G, 3, none⟩ = some (.slice D m mc)) ∧ Below w1.heap.size w1 w')
      (first | exact kk | exact kS)
      (first | (go_at_call 17; refine (areaTrim_no (hA1.below (hd4 (by assumption))) a HNO.out).mono ?_; rintro e w3 ⟨rfl, hb3'⟩; have hb3 := hd4b hb3' (by assumption); have kS := keepStep h1'.pb hX1 hb3))
    all_goals go_wp2_with fail
    all_goals go_meet
    all_goals exact ⟨rfl, hb3⟩
  case rest =>
    obtain ⟨rfl, hb3⟩ := hcut
    have hP3 := h1'.pb.keep hb3
    have hX3 := hX1.keep hb3
    have hda3 := hda1.below hb3
    have hsa3 := hsa1.below hb3
    clear kk
    have kk := keepStep hP3 hX3 (Below.refl _ wc).drew
    have hB3 := below_then hB1 hb3 hB1.size
    go_wp2_with fail
    go_cut [11, 12] from 102 to 111 (fun u v wx => v = .int .i64 70 ∧ SameK wc #[.int .i64 base, .slice DA bs.length dc, .slice SA bs.length sc] u wx)
    case first =>
      go_region_held3 (fun w' => w'.cell? ⟨P, 0, none⟩ = some (.pointer (some ⟨g, 0, none⟩)) ∧ (w'.cell? ⟨P, 1, none⟩ = some (.int .i64 base) ∧ w'.cell? ⟨P, 2, none⟩ = some (.slice DA bs.length dc) ∧ w'.cell? ⟨P, 3, none⟩ = some (.slice SA bs.length sc)) ∧ (w'.cell? ⟨G, 1, none⟩ = some (.int .i64 a) ∧ w'.cell? ⟨G, 2, none⟩ = some (.int .i64 b) ∧ w'.cell? ⟨G, 3, none⟩ = some (.slice D m mc)) ∧ Below wc.heap.size wc w')
        (first | exact kk | exact kS | exact keepStep hP3 hX3 (hd4a (by assumption)) | exact keepStep hP3 hX3 (hb5.alloc hb5.size _) | exact keepStep hP3 hX3 (((hb5.setCell (p := ⟨wc.heap.size, 0, none⟩) (Nat.le_refl _) _).setCell (p := ⟨wc.heap.size, 1, none⟩) (Nat.le_refl _) _).setCell (p := ⟨wc.heap.size, 2, none⟩) (Nat.le_refl _) _))
        (first | (go_at_call 31; refine (refTrim_no base DA bs.length dc SA sc s bs _ a HNO.out (hda3.below (hd4 (by assumption))) (hsa3.below (hd4 (by assumption))) hsl hn1 hb0 hbe).mono ?_; rintro e w5 ⟨rfl, hb5'⟩; have hb5 := hd4b hb5' (by assumption); have kS := keepStep hP3 hX3 hb5; first | (have bz : Blk w5 wc.heap.size #[.int .i64 0, .slice none 0 0, .slice none 0 0] 46 := Blk.keep (Blk.fresh wc.drew #[.int .i64 0, .slice none 0 0, .slice none 0 0] 46) hb5'; have z0 : w5.cell? ⟨wc.heap.size, 0, none⟩ = some (.int .i64 0) := bz.cell 0; have z1 : w5.cell? ⟨wc.heap.size, 1, none⟩ = some (.slice none 0 0) := bz.cell 1; have z2 : w5.cell? ⟨wc.heap.size, 2, none⟩ = some (.slice none 0 0) := bz.cell 2; have zf0 : w5.frozen? ⟨wc.heap.size, 0, none⟩ = false := bz.frozen 0; have zf1 : w5.frozen? ⟨wc.heap.size, 1, none⟩ = false := bz.frozen 1; have zf2 : w5.frozen? ⟨wc.heap.size, 2, none⟩ = false := bz.frozen 2) | skip))
      all_goals go_wp2_with fail
      all_goals go_meet
      all_goals first | exact ⟨rfl, sameK_alloc hb5⟩ | exact ⟨rfl, sameK_sets (Nat.le_refl _) bz hb5⟩
    case rest =>
      obtain ⟨rfl, K, rfl, hKl, hKb, hb5⟩ := hcut
      have hP5 := hP3.keep hb5
      clear kk
      have p1 : wc.cell? ⟨P, 1, none⟩ = some (.int .i64 base) := hP5.cell 1
      have p2 : wc.cell? ⟨P, 2, none⟩ = some (.slice DA bs.length dc) := hP5.cell 2
      have p3 : wc.cell? ⟨P, 3, none⟩ = some (.slice SA bs.length sc) := hP5.cell 3
      have f1 := hP5.frozen 1
      have f2 := hP5.frozen 2
      have f3 := hP5.frozen 3
      have k0 := hKb.cell 0
      have k1 := hKb.cell 1
      have k2 := hKb.cell 2
      simp at k0 k1 k2
      have hC6 := ((chg_set wc P 1 (.int .i64 base)).set (.inl rfl) 2 (.slice DA bs.length dc)).set (.inl rfl) 3 (.slice SA bs.length sc)
      have hP6 := Blk.set (Blk.set (Blk.set hP5 1 (.int .i64 base)) 2 (.slice DA bs.length dc)) 3 (.slice SA bs.length sc)
      have hfin := Lib.hid (pair_same (T := T + m) h ((chg_below (below_then hB3 hb5 hB3.size) _).trans hC6 (fun k e => .inl e)) hP6 h1t h2t)
      go_wp2
      go_ret
      exact hfin.out
end Go.Proofs.Ytbfnmfakagdpfaa
