/- The law package's step, walked: Append. -/
import Derived.Test.YtbfnmfakagdpfaaPair
namespace Go.Proofs.Ytbfnmfakagdpfaa
open Go.RowKit
set_option linter.unusedVariables false
set_option linter.unusedSimpArgs false
set_option maxRecDepth 100000 in
set_option maxHeartbeats 3200000 in
theorem step_append {w : World} {P g : Nat} {A DA SA : Option Addr} {c dc sc T : Nat} {base : Int} {bs : List UInt8} {s : Nat} (h : PairAt w P g A c DA dc SA sc base bs s) (h1 : bs.length ≤ T) (h2 : base + bs.length ≤ 4611686018427387904 + (T : Int))
    (a b : Int) (_ha1 : -9223372036854775808 ≤ a) (_ha2 : a ≤ 9223372036854775807) (_hb1 : -9223372036854775808 ≤ b) (_hb2 : b ≤ 9223372036854775807) (D : Option Addr) (m mc : Nat) (d : List UInt8) (hd : Bytes w D m d) (hdn : m ≠ 0 → ∀ q, blkO D = some q → ¬ pF P g A DA SA q) (hT : T + m ≤ 140737488355328) :
    Calls Try.prog 21 #[.pointer (some ⟨P, 0, none⟩), .agg #[.int .i64 1, .int .i64 a, .int .i64 b, .slice D m mc]] w (StepTo w P (pF P g A DA SA) (T + m) base (bs ++ d) s) := by
  have hB1 := below_alloc w (.cells #[.int .i64 1, .int .i64 a, .int .i64 b, .slice D m mc] 25)
  have hX1 := Blk.fresh w #[.int .i64 1, .int .i64 a, .int .i64 b, .slice D m mc] 25
  go_enter Try.func21, Try.ntmps21
  go_wp2_with fail
  generalize w.alloc (.cells #[.int .i64 1, .int .i64 a, .int .i64 b, .slice D m mc] 25) = w1 at *
  obtain ⟨G, hG⟩ : ∃ G, w.heap.size = G := ⟨_, rfl⟩
  rw [hG] at hX1 ⊢
  have HG := Lib.hid hG
  clear hG
  have h1' := h.below hB1
  have p0 : w1.cell? ⟨P, 0, none⟩ = some (.pointer (some ⟨g, 0, none⟩)) := h1'.pb.cell 0
  have x3 : w1.cell? ⟨G, 3, none⟩ = some (.slice D m mc) := hX1.cell 3
  have hGn : ¬ arF g A G := fun e => by have := h.lt G (.inr (.inl e)); have := HG.out; omega
  have hGP : G ≠ P := fun e => by have := h.pb.lt; have := HG.out; omega
  have kk := And.intro p0 x3
  have hd1 := hd.below hB1
  have hn1 : (0 + m) * 1 ≤ 214748364800000 := by omega
  have hm2 : bs.length + m ≤ 214748364800000 := by omega
  have he2 : base + (bs.length : Int) + (m : Int) ≤ 4612811918334230528 := by omega
  have HL := Lib.hid hd.1
  go_cut [5] from 30 to 37 (fun v wx => v = .int .i64 0 ∧ ∃ A3 c3, Ar wx g A3 c3 base (bs ++ d) s ∧ Chg (arF g A) w1 wx ∧ ∀ k, blkO A3 = some k → arF g A k ∨ w1.heap.size ≤ k)
  case first =>
    go_region_held3 (fun w' => w'.cell? ⟨P, 0, none⟩ = some (.pointer (some ⟨g, 0, none⟩)) ∧ w'.cell? ⟨G, 3, none⟩ = some (.slice D m mc))
      (first | exact kk | exact kS | exact kT)
      (first | (refine step_append_any _ (by rfl) _ _ 23 (by rfl) w1.heap.size 5 _ 1 1 Try.underlying23 info_byte7 rfl (by decide) (.slice none 0 0) 0 [] (by rfl) (World.ownsRow_nil _ _ _ _) D m mc (bvals d) (by rfl) (hd1.below (Below.refl _ w1).drew).rdc (bvals_one _) (by decide) (by decide) hn1 (Nat.le_refl _) ?_; intro A2 c2 w2 ho2 hg2 hne2 hnn2; simp only [Nat.zero_add, List.nil_append] at ho2 ⊢; have hb2 : Below w1.heap.size w1 w2 := (Below.refl _ w1).drew.grown hg2 (Nat.le_refl _) (fun k e => by cases e); have kS := And.intro ((h1'.below hb2).pb.cell 0) ((hX1.keep hb2).cell 3)) | (go_at_call 14; refine (areaAppend_any (h1'.below hb2).ar _ _ _ d (own_bytes' ho2 (by omega)) hm2 he2).mono ?_; rintro e w3 ⟨rfl, A3, c3, hA3, hC3, hF3⟩; have hC3' := Chg.after hb2 hC3; have kT := And.intro (hC3.cell ((h1'.below hb2).pb.cell 0) h.pne) (hC3.cell ((hX1.keep hb2).cell 3) hGn)))
    all_goals go_wp2_with fail
    all_goals go_meet
    all_goals exact ⟨rfl, A3, c3, hA3, hC3', fun k e => (hF3 k e).imp id (fun e => Nat.le_trans hb2.size e)⟩
  case rest =>
    obtain ⟨rfl, A3, c3, hA3, hC3, hF3⟩ := hcut
    have hP3 := h1'.pb.chg hC3 h.pne
    have hX3 := hX1.chg hC3 hGn
    have hda3 := h1'.da.chg hC3 (fun q e => (h.dis q (.inl e)).2)
    have hsa3 := h1'.sa.chg hC3 (fun q e => (h.dis q (.inr e)).2)
    have hd3 : Bytes wc D m d := by
      by_cases h0 : m = 0
      · exact ⟨hd.1, hd.2.1, .inl h0⟩
      · exact hd1.chg hC3 (fun q e e2 => hdn h0 q e (.inr (.inl e2)))
    clear p0 x3 kk
    have p1 : wc.cell? ⟨P, 1, none⟩ = some (.int .i64 base) := hP3.cell 1
    have p2 : wc.cell? ⟨P, 2, none⟩ = some (.slice DA bs.length dc) := hP3.cell 2
    have p3 : wc.cell? ⟨P, 3, none⟩ = some (.slice SA bs.length sc) := hP3.cell 3
    have x3 : wc.cell? ⟨G, 3, none⟩ = some (.slice D m mc) := hX3.cell 3
    go_wp2_with fail
    have hn5 : bs.length + m ≤ 214748364800000 := by omega
    have hda4 := hda3.below (Below.refl wc.heap.size wc).drew
    have hsa4 := hsa3.below (Below.refl wc.heap.size wc).drew
    have hd4' := hd3.below (Below.refl wc.heap.size wc).drew
    have hsl := h.ar.sle
    go_region_with ((go_at_call 28; refine (refAppend_any base DA bs.length dc SA sc s bs D m mc d _ hda4 hsa4 hsl hd4' hn5).mono ?_; intro e w5 h5; obtain ⟨A5, c5, A6, c6, rfl, ho5, ho6, hb5'⟩ := h5.at_; have hb5 : Below wc.heap.size wc w5 := (Below.refl wc.heap.size wc).drew.trans hb5'; have hP5 : Blk w5 P _ _ := hP3.keep hb5; have q1 : w5.cell? ⟨P, 1, none⟩ = some (.int .i64 base) := hP5.cell 1; have q2 : w5.cell? ⟨P, 2, none⟩ = some (.slice DA bs.length dc) := hP5.cell 2; have q3 : w5.cell? ⟨P, 3, none⟩ = some (.slice SA bs.length sc) := hP5.cell 3; have f1 := hP5.frozen 1; have f2 := hP5.frozen 2; have f3 := hP5.frozen 3))
    all_goals
      have hl : (bs ++ d).length = bs.length + m := by rw [List.length_append, HL.out]
      have hfin := Lib.hid (pair_store (T := T + m) (c6 := c6) h hB1 hA3 hC3 hF3 hb5 rfl (own_bytes' ho5 (by omega)) (own_cap7 ho5) (own_safes ho6 (by omega)) (own_lt7 ho5) (own_lt7 ho6) (by omega) (by omega))
      clear hl
      go_wp2
      go_ret
      have e := hfin.out
      simp only [List.length_append] at e
      exact e
end Go.Proofs.Ytbfnmfakagdpfaa
