/- The law package's step, walked: Crash. -/
import Derived.Test.YtbfnmfakagdpfaaPair
namespace Go.Proofs.Ytbfnmfakagdpfaa
set_option linter.unusedVariables false
set_option linter.unusedSimpArgs false
open Go.RowKit
theorem u8_wrap7 (b : Int) : 0 ≤ IntKind.u8.wrap b ∧ IntKind.u8.wrap b < 256 := by
  rw [IntKind.wrap_u8']; omega
set_option maxRecDepth 100000 in
set_option maxHeartbeats 6400000 in
theorem step_crash {w : World} {P g : Nat} {A DA SA : Option Addr} {c dc sc T : Nat} {base : Int} {bs : List UInt8} {s : Nat} (h : PairAt w P g A c DA dc SA sc base bs s) (h1 : bs.length ≤ T) (h2 : base + bs.length ≤ 4611686018427387904 + (T : Int))
    (a b : Int) (ha1 : -9223372036854775808 ≤ a) (ha2 : a ≤ 9223372036854775807) (hb1 : -9223372036854775808 ≤ b) (hb2 : b ≤ 9223372036854775807) (D : Option Addr) (m mc : Nat) (d : List UInt8) (hd : Bytes w D m d) (hdn : m ≠ 0 → ∀ q, blkO D = some q → ¬ pF P g A DA SA q) (hT : T + m ≤ 140737488355328) :
    Calls Try.prog 21 #[.pointer (some ⟨P, 0, none⟩), .agg #[.int .i64 7, .int .i64 a, .int .i64 b, .slice D m mc]] w (StepTo w P (pF P g A DA SA) (T + m) base (crashB bs s (crashK bs.length s a) (UInt8.ofNat (IntKind.u8.wrap b).toNat)) (s + crashK bs.length s a)) := by
  have HT : Hid (IntKind.u8.wrap b = (((UInt8.ofNat (IntKind.u8.wrap b).toNat).toNat : Nat) : Int)) := Lib.hid (by have := u8_wrap7 b; rw [UInt8.toNat_ofNat']; omega)
  generalize UInt8.ofNat (IntKind.u8.wrap b).toNat = t at HT ⊢
  have hB1 := below_alloc w (.cells #[.int .i64 7, .int .i64 a, .int .i64 b, .slice D m mc] 25)
  have hX1 := Blk.fresh w #[.int .i64 7, .int .i64 a, .int .i64 b, .slice D m mc] 25
  go_enter Try.func21, Try.ntmps21
  go_wp2_with fail
  generalize w.alloc (.cells #[.int .i64 7, .int .i64 a, .int .i64 b, .slice D m mc] 25) = w1 at *
  obtain ⟨G, hG⟩ : ∃ G, w.heap.size = G := ⟨_, rfl⟩
  rw [hG] at hX1 ⊢
  have HG := Lib.hid hG
  clear hG
  have h1' := h.below hB1
  have hGn : ¬ arF g A G := fun e => by have := h.lt G (.inr (.inl e)); have := HG.out; omega
  have hGP : G ≠ P := fun e => by have := h.pb.lt; have := HG.out; omega
  have hsl := h.ar.sle
  have hn1 := h.ar.n1
  have hb0 := h.ar.b0
  have hbe := h.ar.b1
  have h1t : bs.length ≤ T + m := by omega
  have h2t : base + (bs.length : Int) ≤ 4611686018427387904 + ((T + m : Nat) : Int) := by omega
  have kk := keepStep h1'.pb hX1 (Below.refl _ w1).drew
  have hA1 := h1'.ar
  go_cut [20] from 191 to 200 (fun v wx => v = .int .i64 0 ∧ ∃ A3 c3, Ar wx g A3 c3 base (crashB bs s (crashK bs.length s a) t) (s + crashK bs.length s a) ∧ Chg (arF g A) w1 wx ∧ ∀ k, blkO A3 = some k → arF g A k ∨ w1.heap.size ≤ k)
  case first =>
    go_region_held3 (fun w' => w'.cell? ⟨P, 0, none⟩ = some (.pointer (some ⟨g, 0, none⟩)) ∧ w'.cell? ⟨G, 1, none⟩ = some (.int .i64 a) ∧ w'.cell? ⟨G, 2, none⟩ = some (.int .i64 b))
      (first | exact ⟨kk.1, kk.2.2.1.1, kk.2.2.1.2.1⟩ | exact kS)
      (first | (go_at_call 18; refine (areaCrash_any (hA1.below (Below.refl _ w1).drew) a _ t HT.out).mono ?_; rintro e w3 ⟨rfl, A3, c3, hA3, hC3', hF3⟩; have hC3 := Chg.after (Below.refl _ w1).drew hC3'; have kS := And.intro (hC3.cell (h1'.pb.cell 0) h.pne) (And.intro (hC3.cell (hX1.cell 1) hGn) (hC3.cell (hX1.cell 2) hGn))))
    all_goals go_wp2_with fail
    all_goals go_meet
    all_goals exact ⟨rfl, A3, c3, hA3, hC3, hF3⟩
  case rest =>
    obtain ⟨rfl, A3, c3, hA3, hC3, hF3⟩ := hcut
    have hkp := crashK_le bs.length s a hsl
    have hP3 := h1'.pb.chg hC3 h.pne
    have hX3 := hX1.chg hC3 hGn
    have hda3 := h1'.da.chg hC3 (fun q e => (h.dis q (.inl e)).2)
    have hsa3 := h1'.sa.chg hC3 (fun q e => (h.dis q (.inr e)).2)
    clear kk
    have p0 : wc.cell? ⟨P, 0, none⟩ = some (.pointer (some ⟨g, 0, none⟩)) := hP3.cell 0
    have p1 : wc.cell? ⟨P, 1, none⟩ = some (.int .i64 base) := hP3.cell 1
    have p2 : wc.cell? ⟨P, 2, none⟩ = some (.slice DA bs.length dc) := hP3.cell 2
    have p3 : wc.cell? ⟨P, 3, none⟩ = some (.slice SA bs.length sc) := hP3.cell 3
    have x1 : wc.cell? ⟨G, 1, none⟩ = some (.int .i64 a) := hX3.cell 1
    have x2 : wc.cell? ⟨G, 2, none⟩ = some (.int .i64 b) := hX3.cell 2
    have x3 : wc.cell? ⟨G, 3, none⟩ = some (.slice D m mc) := hX3.cell 3
    have hda4 := hda3.below (Below.refl wc.heap.size wc).drew
    have hsa4 := hsa3.below (Below.refl wc.heap.size wc).drew
    go_wp2_with fail
    go_region_with ((go_at_call 35; refine (refCrash_any base DA bs.length dc SA sc s bs _ a _ t HT.out ha1 ha2 hda4 hsa4 hsl hn1 hb0 hbe).mono ?_; intro e w5 h5; obtain ⟨A5, c5, A6, c6, rfl, ho5, ho6, hb5'⟩ := h5.at_; have hb5 : Below wc.heap.size wc w5 := (Below.refl wc.heap.size wc).drew.trans hb5'; have hP5 : Blk w5 P _ _ := hP3.keep hb5; have q1 : w5.cell? ⟨P, 1, none⟩ = some (.int .i64 base) := hP5.cell 1; have q2 : w5.cell? ⟨P, 2, none⟩ = some (.slice DA bs.length dc) := hP5.cell 2; have q3 : w5.cell? ⟨P, 3, none⟩ = some (.slice SA bs.length sc) := hP5.cell 3; have f1 := hP5.frozen 1; have f2 := hP5.frozen 2; have f3 := hP5.frozen 3))
    all_goals
      have hcl := crashB_length bs s (crashK bs.length s a) t hkp
      have hfin := Lib.hid (pair_store (T := T + m) (c6 := c6) h hB1 hA3 hC3 hF3 hb5 rfl (own_bytes' ho5 (by omega)) (own_cap7 ho5) (own_safes ho6 (by omega)) (own_lt7 ho5) (own_lt7 ho6) (by omega) (by omega))
      clear hcl
      go_wp2
      go_ret
      exact hfin.out
end Go.Proofs.Ytbfnmfakagdpfaa
