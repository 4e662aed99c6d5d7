/- The law package's step, walked: Load. -/
import Derived.Test.YtbfnmfakagdpfaaPair
namespace Go.Proofs.Ytbfnmfakagdpfaa
set_option linter.unusedVariables false
set_option linter.unusedSimpArgs false
open Go.RowKit
theorem load_put {w w1 wc w6 : World} {P g g3 : Nat} {A A3 DA SA A5 A6 : Option Addr} {c c3 dc sc c5 c6 T m : Nat} {base a : Int} {bs d : List UInt8} {s : Nat} (h : PairAt w P g A c DA dc SA sc base bs s) (hB1 : Below w.heap.size w w1) (hb3 : Below w1.heap.size w1 wc) (hb6 : Below wc.heap.size wc w6)
    (hA : Ar w6 g3 A3 c3 a d d.length) (hl3 : ∀ k, arF g3 A3 k → w1.heap.size ≤ k) (hg3 : g3 < wc.heap.size) (hA3 : ∀ k, blkO A3 = some k → k < wc.heap.size) (hP : Blk w6 P #[.pointer (some ⟨g, 0, none⟩), .int .i64 base, .slice DA bs.length dc, .slice SA bs.length sc] 48) (hm : d.length = m) (hD : Bytes w6 A5 m d) (hdc : m ≤ c5) (hS : Safes w6 A6 m m)
    (hl5 : ∀ q, blkO A5 = some q → wc.heap.size ≤ q ∧ q < w6.heap.size) (hl6 : ∀ q, blkO A6 = some q → wc.heap.size ≤ q ∧ q < w6.heap.size) (ha : a + m ≤ 4611686018427387904 + ((T + m : Nat) : Int)) :
    StepTo w P (pF P g A DA SA) (T + m) a d d.length (.returned (.bool true)) ((((w6.setCell ⟨P, 0, none⟩ (.pointer (some ⟨g3, 0, none⟩))).setCell ⟨P, 1, none⟩ (.int .i64 a)).setCell ⟨P, 2, none⟩ (.slice A5 m c5)).setCell ⟨P, 3, none⟩ (.slice A6 m c6)).drew := by
  subst hm
  have hPl := h.pb.lt
  have s1 := hB1.size
  have s3 := hb3.size
  have s6 := hb6.size
  have hC := ((((chg_set w6 P 0 (.pointer (some ⟨g3, 0, none⟩))).set (.inl rfl) 1 (.int .i64 a)).set (.inl rfl) 2 (.slice A5 d.length c5)).set (.inl rfl) 3 (.slice A6 d.length c6)).then_ (below_drew7 _ 1)
  have hP2 := Blk.set (Blk.set (Blk.set (Blk.set hP 0 (.pointer (some ⟨g3, 0, none⟩))) 1 (.int .i64 a)) 2 (.slice A5 d.length c5)) 3 (.slice A6 d.length c6)
  have hz := hC.size
  refine ⟨rfl, pF P g3 A3 A5 A6, ⟨g3, A3, c3, A5, c5, A6, c6, ⟨hP2, hA.chg hC (fun q e e2 => by have := hl3 q e; omega), hD.chg hC (fun q e e2 => by have := (hl5 q e).1; omega), hdc, hS.chg hC (fun q e e2 => by have := (hl6 q e).1; omega), fun q e => ⟨?_, ?_⟩, ?_⟩, rfl, by omega, ha⟩, ?_, ?_⟩
  · rcases e with e | e
    · have := (hl5 q e).1; omega
    · have := (hl6 q e).1; omega
  · have hq : wc.heap.size ≤ q := e.elim (fun e => (hl5 q e).1) (fun e => (hl6 q e).1)
    rintro (e2 | e2)
    · omega
    · have := hA3 q e2; omega
  · intro q e
    refine Nat.lt_of_lt_of_le ?_ hz
    rcases e with e | (e | e) | e | e
    · omega
    · omega
    · have := hA3 q e; omega
    · exact (hl5 q e).2
    · exact (hl6 q e).2
  · exact (chg_below (below_then hB1 (below_then hb3 hb6 hb3.size) hB1.size) _).trans hC (fun k e => .inl (.inl e))
  · rintro q (e | e | e | e)
    · exact .inl (.inl e)
    · exact .inr (Nat.le_trans s1 (hl3 q e))
    · exact .inr (by have := (hl5 q e).1; omega)
    · exact .inr (by have := (hl6 q e).1; omega)
set_option maxRecDepth 100000 in
set_option maxHeartbeats 6400000 in
theorem step_load_yes {w : World} {P g : Nat} {A DA SA : Option Addr} {c dc sc T : Nat} {base : Int} {bs : List UInt8} {s : Nat} (h : PairAt w P g A c DA dc SA sc base bs s) (h1 : bs.length ≤ T) (h2 : base + bs.length ≤ 4611686018427387904 + (T : Int))
    (a b : Int) (ha1 : -9223372036854775808 ≤ a) (ha2 : a ≤ 9223372036854775807) (hb1 : -9223372036854775808 ≤ b) (hb2 : b ≤ 9223372036854775807) (D : Option Addr) (m mc : Nat) (d : List UInt8) (hd : Bytes w D m d) (hdn : m ≠ 0 → ∀ q, blkO D = some q → ¬ pF P g A DA SA q) (hT : T + m ≤ 140737488355328) (hla : 0 ≤ a ∧ a ≤ 4611686018427387904) :
    Calls Try.prog 21 #[.pointer (some ⟨P, 0, none⟩), .agg #[.int .i64 9, .int .i64 a, .int .i64 b, .slice D m mc]] w (StepTo w P (pF P g A DA SA) (T + m) a d d.length) := by
  have hB1 := below_alloc w (.cells #[.int .i64 9, .int .i64 a, .int .i64 b, .slice D m mc] 25)
  have hX1 := Blk.fresh w #[.int .i64 9, .int .i64 a, .int .i64 b, .slice D m mc] 25
  go_enter Try.func21, Try.ntmps21
  go_wp2_with fail
  generalize w.alloc (.cells #[.int .i64 9, .int .i64 a, .int .i64 b, .slice D m mc] 25) = w1 at *
  obtain ⟨G, hG⟩ : ∃ G, w.heap.size = G := ⟨_, rfl⟩
  rw [hG] at hX1 ⊢
  have HG := Lib.hid hG
  clear hG
  have h1' := h.below hB1
  have hGn : ¬ arF g A G := fun e => by have := h.lt G (.inr (.inl e)); have := HG.out; omega
  have hGP : G ≠ P := fun e => by have := h.pb.lt; have := HG.out; omega
  have hsl := h.ar.sle
  have hn1 := h.ar.n1
  have hb0 := h.ar.b0
  have hbe := h.ar.b1
  have h1t : bs.length ≤ T + m := by omega
  have h2t : base + (bs.length : Int) ≤ 4611686018427387904 + ((T + m : Nat) : Int) := by omega
  have kk := And.intro (hX1.cell 1) (hX1.cell 3)
  simp at kk
  have hd1 := hd.below hB1
  have hnm : (0 + m) * 1 ≤ 214748364800000 := by omega
  have hm7 : m ≤ 140737488355328 := by omega
  have HL := Lib.hid hd.1
  go_cut [22, 23] from 243 to 252 (fun u v wx => ∃ g3 A3 c3, u = .pointer (some ⟨g3, 0, none⟩) ∧ v = .int .i64 0 ∧ Ar wx g3 A3 c3 a d d.length ∧ (∀ k, arF g3 A3 k → w1.heap.size ≤ k) ∧ Below w1.heap.size w1 wx)
  case first =>
    go_region_held3 (fun w' => w'.cell? ⟨G, 1, none⟩ = some (.int .i64 a) ∧ w'.cell? ⟨G, 3, none⟩ = some (.slice D m mc))
      (first | exact kk | exact kS | exact kT)
      (first | (refine step_append_any _ (by rfl) _ _ 23 (by rfl) w1.heap.size 5 _ 1 1 Try.underlying23 info_byte7 rfl (by decide) (.slice none 0 0) 0 [] (by rfl) (World.ownsRow_nil _ _ _ _) D m mc (bvals d) (by rfl) (hd1.below (Below.refl _ w1).drew).rdc (bvals_one _) (by decide) (by decide) hnm (Nat.le_refl _) ?_; intro A2 c2 w2 ho2 hg2 hne2 hnn2; simp only [Nat.zero_add, List.nil_append] at ho2 ⊢; have hb2 : Below w1.heap.size w1 w2 := (Below.refl _ w1).drew.grown hg2 (Nat.le_refl _) (fun k e => by cases e); have kS := And.intro ((hX1.keep hb2).cell 1) ((hX1.keep hb2).cell 3)) | (go_at_call 26; refine (areaLoad_any _ _ _ d a _ (own_bytes' ho2 (by omega)) hm7 hla.1 hla.2).mono ?_; rintro e w3 ⟨g3, A3, c3, rfl, hA3, hb3', hl3⟩; have hb3 := below_then hb2 hb3' hb2.size; have kT := And.intro ((hX1.keep hb3).cell 1) ((hX1.keep hb3).cell 3)))
    all_goals go_wp2_with fail
    all_goals go_meet
    all_goals exact ⟨g3, A3, c3, rfl, rfl, hA3, fun k e => Nat.le_trans hb2.size (hl3 k e), hb3⟩
  case rest =>
    obtain ⟨g3, A3, c3, rfl, rfl, hA3, hl3, hb3⟩ := hcut
    have hX3 := hX1.keep hb3
    have hP3 := h1'.pb.keep hb3
    have hd3 := hd1.below hb3
    clear kk
    have x1 : wc.cell? ⟨G, 1, none⟩ = some (.int .i64 a) := hX3.cell 1
    have x3 : wc.cell? ⟨G, 3, none⟩ = some (.slice D m mc) := hX3.cell 3
    go_wp2_with fail
    refine (refLoad_any a D m mc d _ hd3 (by omega) hla.1 hla.2).mono ?_
    rintro e w5 ⟨A5, c5, A6, c6, rfl, hcp, hy5, hz5, hl5, hl6, hb5⟩
    have hA5 := hA3.below hb5
    have hP5 := hP3.keep hb5
    have hba := below_alloc w5 (.cells #[.int .i64 a, .slice A5 m c5, .slice A6 m c6] 46)
    have hK6 := Blk.fresh w5 #[.int .i64 a, .slice A5 m c5, .slice A6 m c6] 46
    have hy6 := hy5.below hba
    have hz6 := hz5.below hba
    have hA6 := hA5.below hba
    have hP6 := hP5.keep hba
    have hb6 := below_then hb5 hba hb5.size
    have hl5' : ∀ q, blkO A5 = some q → wc.heap.size ≤ q ∧ q < (w5.alloc (.cells #[.int .i64 a, .slice A5 m c5, .slice A6 m c6] 46)).heap.size := fun q e => ⟨(hl5 q e).1, Nat.lt_of_lt_of_le (hl5 q e).2 hba.size⟩
    have hl6' : ∀ q, blkO A6 = some q → wc.heap.size ≤ q ∧ q < (w5.alloc (.cells #[.int .i64 a, .slice A5 m c5, .slice A6 m c6] 46)).heap.size := fun q e => ⟨(hl6 q e).1, Nat.lt_of_lt_of_le (hl6 q e).2 hba.size⟩
    clear hba hl5 hl6 hy5 hz5 x1 x3
    go_upto_region 37 with fail
    obtain ⟨K, hK⟩ : ∃ K, w5.heap.size = K := ⟨_, rfl⟩
    have hPK : P < w5.heap.size := hP5.lt
    rw [hK] at hK6 hPK ⊢
    have hPK1 : P ≠ K := by omega
    have hPK2 : K ≠ P := by omega
    clear hK
    generalize w5.alloc (.cells #[.int .i64 a, .slice A5 m c5, .slice A6 m c6] 46) = w6 at *
    have p0 : w6.cell? ⟨P, 0, none⟩ = some (.pointer (some ⟨g, 0, none⟩)) := hP6.cell 0
    have p1 : w6.cell? ⟨P, 1, none⟩ = some (.int .i64 base) := hP6.cell 1
    have p2 : w6.cell? ⟨P, 2, none⟩ = some (.slice DA bs.length dc) := hP6.cell 2
    have p3 : w6.cell? ⟨P, 3, none⟩ = some (.slice SA bs.length sc) := hP6.cell 3
    have f0 := hP6.frozen 0
    have f1 := hP6.frozen 1
    have f2 := hP6.frozen 2
    have f3 := hP6.frozen 3
    have k0 : w6.cell? ⟨K, 0, none⟩ = some (.int .i64 a) := hK6.cell 0
    have k1 : w6.cell? ⟨K, 1, none⟩ = some (.slice A5 m c5) := hK6.cell 1
    have k2 : w6.cell? ⟨K, 2, none⟩ = some (.slice A6 m c6) := hK6.cell 2
    have hfin := Lib.hid (load_put (T := T) (m := m) (c6 := c6) h hB1 hb3 hb6 hA6 hl3 hA3.lt hA3.lt2 hP6 HL.out hy6 hcp hz6 hl5' hl6' (by have := hla.2; omega))
    go_wp2_with fail
    go_region
    all_goals
      go_wp2
      go_ret
      exact hfin.out
set_option maxRecDepth 100000 in
set_option maxHeartbeats 6400000 in
theorem step_load_no {w : World} {P g : Nat} {A DA SA : Option Addr} {c dc sc T : Nat} {base : Int} {bs : List UInt8} {s : Nat} (h : PairAt w P g A c DA dc SA sc base bs s) (h1 : bs.length ≤ T) (h2 : base + bs.length ≤ 4611686018427387904 + (T : Int))
    (a b : Int) (ha1 : -9223372036854775808 ≤ a) (ha2 : a ≤ 9223372036854775807) (hb1 : -9223372036854775808 ≤ b) (hb2 : b ≤ 9223372036854775807) (D : Option Addr) (m mc : Nat) (d : List UInt8) (hd : Bytes w D m d) (hdn : m ≠ 0 → ∀ q, blkO D = some q → ¬ pF P g A DA SA q) (hT : T + m ≤ 140737488355328) (hla : a < 0 ∨ 4611686018427387904 < a) :
    Calls Try.prog 21 #[.pointer (some ⟨P, 0, none⟩), .agg #[.int .i64 9, .int .i64 a, .int .i64 b, .slice D m mc]] w (StepTo w P (pF P g A DA SA) (T + m) base bs s) := by
  have hB1 := below_alloc w (.cells #[.int .i64 9, .int .i64 a, .int .i64 b, .slice D m mc] 25)
  have hX1 := Blk.fresh w #[.int .i64 9, .int .i64 a, .int .i64 b, .slice D m mc] 25
  go_enter Try.func21, Try.ntmps21
  go_wp2_with fail
  generalize w.alloc (.cells #[.int .i64 9, .int .i64 a, .int .i64 b, .slice D m mc] 25) = w1 at *
  obtain ⟨G, hG⟩ : ∃ G, w.heap.size = G := ⟨_, rfl⟩
  rw [hG] at hX1 ⊢
  have HG := Lib.hid hG
  clear hG
  have h1' := h.below hB1
  have hGn : ¬ arF g A G := fun e => by have := h.lt G (.inr (.inl e)); have := HG.out; omega
  have hGP : G ≠ P := fun e => by have := h.pb.lt; have := HG.out; omega
  have hsl := h.ar.sle
  have hn1 := h.ar.n1
  have hb0 := h.ar.b0
  have hbe := h.ar.b1
  have h1t : bs.length ≤ T + m := by omega
  have h2t : base + (bs.length : Int) ≤ 4611686018427387904 + ((T + m : Nat) : Int) := by omega
  have kk := And.intro (hX1.cell 1) (hX1.cell 3)
  simp at kk
  have hd1 := hd.below hB1
  have hnm : (0 + m) * 1 ≤ 214748364800000 := by omega
  have hm7 : m ≤ 140737488355328 := by omega
  have HL := Lib.hid hd.1
  go_cut [22, 23] from 243 to 252 (fun u v wx => u = .pointer none ∧ v = .int .i64 2 ∧ Below w1.heap.size w1 wx)
  case first =>
    go_region_held3 (fun w' => w'.cell? ⟨G, 1, none⟩ = some (.int .i64 a) ∧ w'.cell? ⟨G, 3, none⟩ = some (.slice D m mc))
      (first | exact kk | exact kS | exact kT)
      (first | (refine step_append_any _ (by rfl) _ _ 23 (by rfl) w1.heap.size 5 _ 1 1 Try.underlying23 info_byte7 rfl (by decide) (.slice none 0 0) 0 [] (by rfl) (World.ownsRow_nil _ _ _ _) D m mc (bvals d) (by rfl) (hd1.below (Below.refl _ w1).drew).rdc (bvals_one _) (by decide) (by decide) hnm (Nat.le_refl _) ?_; intro A2 c2 w2 ho2 hg2 hne2 hnn2; simp only [Nat.zero_add, List.nil_append] at ho2 ⊢; have hb2 : Below w1.heap.size w1 w2 := (Below.refl _ w1).drew.grown hg2 (Nat.le_refl _) (fun k e => by cases e); have kS := And.intro ((hX1.keep hb2).cell 1) ((hX1.keep hb2).cell 3)) | (go_at_call 26; refine (areaLoad_no _ _ _ a _ hla).mono ?_; rintro e w3 ⟨rfl, hb3'⟩; have hb3 := below_then hb2 hb3' hb2.size; have kT := And.intro ((hX1.keep hb3).cell 1) ((hX1.keep hb3).cell 3)))
    all_goals go_wp2_with fail
    all_goals go_meet
    all_goals exact ⟨rfl, rfl, hb3⟩
  case rest =>
    obtain ⟨rfl, rfl, hb3⟩ := hcut
    have hX3 := hX1.keep hb3
    clear kk
    have x1 : wc.cell? ⟨G, 1, none⟩ = some (.int .i64 a) := hX3.cell 1
    have x3 : wc.cell? ⟨G, 3, none⟩ = some (.slice D m mc) := hX3.cell 3
    go_wp2_with fail
    refine (refLoad_no a _ _ hla).mono ?_
    rintro e w5 ⟨rfl, hb5⟩
    have hb6 := below_then (below_then hB1 (below_then hb3 hb5 hb3.size) hB1.size) (below_alloc w5 (.cells #[.int .i64 0, .slice none 0 0, .slice none 0 0] 46)) (below_then hB1 (below_then hb3 hb5 hb3.size) hB1.size).size
    have hfin := Lib.hid (pair_stays (T := T + m) h hb6 h1t h2t)
    go_wp2
    go_ret
    exact hfin.out
end Go.Proofs.Ytbfnmfakagdpfaa
