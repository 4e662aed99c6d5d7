/- call, of a Read and of an Image: nothing has changed. -/
import Derived.Test.YtodaplkijdjbpaaCall0
namespace Go.Proofs.Ytodaplkijdjbpaa
open Go.RowKit
set_option linter.unusedVariables false
set_option linter.unusedSimpArgs false
theorem span_cap {w : World} {B n c : Nat} {A : Option Addr} {qs : List (Int × Rw)} (h : Spans w B A n c qs) : n ≤ c := by
  rcases h.row.2 with ⟨h1, h0⟩ | ⟨g, cap, cur, hv, _, _, hnc, _⟩
  · omega
  · injection hv with _ _ e
    omega
set_option maxHeartbeats 1600000 in
set_option maxRecDepth 100000 in
theorem call_4b {w : World} {G pb K L : Nat} {ls : Nat → Loc} {P : Pd} {v : Value} {s : Ps} {A : Option Addr} (h : DAt w G pb ls P K) (hs : PsAt w v s A) (hA : s.f ≠ [] → ∀ k, blkO A = some k → k ≠ G ∧ k ≠ pb) (hk : K + s.p.length + 1 ≤ L) (hL : L ≤ 4294967296) (h0 : s.k = 4) :
    Calls Try.prog 16 #[.pointer (some ⟨G, 0, none⟩), v] w (fun e w' => ∃ v, e = .returned v ∧ TdAt w' v (P.told s) ∧ Below w.heap.size w w') := by
  obtain ⟨⟨C, m, c, n, d, rfl, hP, hF⟩, b0, b1⟩ := hs
  obtain ⟨k, i, a, b, p, f⟩ := s
  simp only at h0 hP hF b0 b1 hk
  subst h0
  have hlen := hP.1
  have ht : P.told ⟨4, i, a, b, p, f⟩ = { Td.no with e := (P.read i a b).2, p := (P.read i a b).1 } := by simp [Pd.told]
  have hst : P.step ⟨4, i, a, b, p, f⟩ = P := by simp [Pd.step]
  have HT := Lib.hid (And.intro ht hst)
  obtain ⟨xz, k2, k3⟩ := call_pre w #[.int .i64 4, .int .i64 i, .int .i64 a, .int .i64 b, .slice C m c, .slice A n d]
  have hD := h.below xz
  have HM := Lib.hid (diskRead_any hD (by omega) i a b b0 b1)
  have HX := Lib.hid xz
  have HD := Lib.hid hD
  have HK := Lib.hid (And.intro k2 k3)
  clear k2 k3 hD xz ht hst
  go_enter Try.func16, Try.ntmps16
  go_wp2_with fail
  refine HM.out.mono ?_
  rintro e wm ⟨A4, c4, rfl, ho, hb⟩
  have q2 := HK.out.1.keep hb
  have q3 := HK.out.2.keep hb
  have hT := DTo.same (HD.out.mono (show K ≤ L by omega)) hb
  obtain ⟨u0, u1, u2, u3, u4, u5, uf⟩ := six_cells q2
  obtain ⟨t0, t1, t2, t3, t4, t5, tf⟩ := six_cells q3
  have hne : w.heap.size + 1 ≠ w.heap.size + 1 + 1 := by omega
  go_wp2_with fail
  have hc : Chg (fun q => q = w.heap.size + 1 + 1) wm ((wm.setCell ⟨w.heap.size + 1 + 1, 4, none⟩ (.slice A4 (P.read i a b).1.length c4)).setCell ⟨w.heap.size + 1 + 1, 0, none⟩ (.int .i64 (P.read i a b).2)) := Chg.set (F := fun q => q = w.heap.size + 1 + 1) (Chg.set (F := fun q => q = w.heap.size + 1 + 1) (Chg.refl _ _) (.inl rfl) _ _) (.inl rfl) _ _
  refine bodyPost_ret (results_row1 rfl _ _ (w.heap.size + 1) 36 _ (0, 0) _ rfl (call_fin q2 hc hne).1 Try.underlying36 rfl (by kernel_rfl)) rfl ?_
  have hcf := (call_fin q2 hc hne (a := .int .i64 (P.read i a b).2) (b := .int .i64 0) (c := .int .i64 0) (d := .int .i64 0) (e := .slice A4 (P.read i a b).1.length c4) (f := .slice none 0 0)).2
  refine ⟨_, rfl, ?_, ?_⟩
  · rw [HT.out.1]
    exact ⟨A4, _, c4, none, 0, 0, rfl, own_bytes' (own_chg ho hcf (fun q e e2 => by rcases e2 with e2 | e2 <;> subst e2; exact own_not_blk7 ho q2 (by decide) e; exact own_not_blk7 ho q3 (by decide) e)) (by have := read_len HD.out i a b; omega), SpAt.nil _ _⟩
  · exact (below_then HX.out hb HX.out.size).trans (hcf.below (below_then HX.out hb HX.out.size).size (fun k e => by rcases e with e | e <;> omega))
set_option maxHeartbeats 1600000 in
set_option maxRecDepth 100000 in
theorem call_9b {w : World} {G pb K L : Nat} {ls : Nat → Loc} {P : Pd} {v : Value} {s : Ps} {A : Option Addr} (h : DAt w G pb ls P K) (hs : PsAt w v s A) (hA : s.f ≠ [] → ∀ k, blkO A = some k → k ≠ G ∧ k ≠ pb) (hk : K + s.p.length + 1 ≤ L) (hL : L ≤ 4294967296) (h0 : s.k = 9) :
    Calls Try.prog 16 #[.pointer (some ⟨G, 0, none⟩), v] w (fun e w' => ∃ A n d, e = .returned (.agg #[.int .i64 0, .int .i64 0, .int .i64 0, .int .i64 0, .slice none 0 0, .slice A n d]) ∧ SpAt w' A n P.image ∧ n ≤ d ∧ Below w.heap.size w w') := by
  obtain ⟨⟨C, m, c, n, d, rfl, hP, hF⟩, b0, b1⟩ := hs
  obtain ⟨k, i, a, b, p, f⟩ := s
  simp only at h0 hP hF b0 b1 hk
  subst h0
  have hlen := hP.1
  have ht : P.told ⟨9, i, a, b, p, f⟩ = { Td.no with s := P.image } := by simp [Pd.told]
  have hst : P.step ⟨9, i, a, b, p, f⟩ = P := by simp [Pd.step]
  have HT := Lib.hid (And.intro ht hst)
  obtain ⟨xz, k2, k3⟩ := call_pre w #[.int .i64 9, .int .i64 i, .int .i64 a, .int .i64 b, .slice C m c, .slice A n d]
  have hD := h.below xz
  have HM := Lib.hid (diskImage_any hD)
  have HX := Lib.hid xz
  have HD := Lib.hid hD
  have HK := Lib.hid (And.intro k2 k3)
  clear k2 k3 hD xz ht hst
  go_enter Try.func16, Try.ntmps16
  go_wp2_with fail
  refine HM.out.mono ?_
  rintro e wm ⟨A9, n9, c9, qs, rfl, hS, hq, hb⟩
  have q2 := HK.out.1.keep hb
  have q3 := HK.out.2.keep hb
  have hT := DTo.same (HD.out.mono (show K ≤ L by omega)) hb
  obtain ⟨u0, u1, u2, u3, u4, u5, uf⟩ := six_cells q2
  obtain ⟨t0, t1, t2, t3, t4, t5, tf⟩ := six_cells q3
  have hne : w.heap.size + 1 ≠ w.heap.size + 1 + 1 := by omega
  go_wp2_with fail
  have hc : Chg (fun q => q = w.heap.size + 1 + 1) wm ((wm.setCell ⟨w.heap.size + 1 + 1, 5, none⟩ (.slice A9 n9 c9)).setCell ⟨w.heap.size + 1 + 1, 0, none⟩ (.int .i64 0)) := Chg.set (F := fun q => q = w.heap.size + 1 + 1) (Chg.set (F := fun q => q = w.heap.size + 1 + 1) (Chg.refl _ _) (.inl rfl) _ _) (.inl rfl) _ _
  refine bodyPost_ret (results_row1 rfl _ _ (w.heap.size + 1) 36 _ (0, 0) _ rfl (call_fin q2 hc hne).1 Try.underlying36 rfl (by kernel_rfl)) rfl ?_
  have hcf := (call_fin q2 hc hne (a := .int .i64 0) (b := .int .i64 0) (c := .int .i64 0) (d := .int .i64 0) (e := .slice none 0 0) (f := .slice A9 n9 c9)).2
  have hS2 := hS.chg hcf (fun q e => by rcases e with e | e <;> subst e; exact ⟨_, _, q2, by decide, by decide⟩; exact ⟨_, _, q3, by decide, by decide⟩)
  refine ⟨A9, n9, c9, rfl, ?_, span_cap hS2, ?_⟩
  · rw [← hq]
    exact hS2.at_ (fun q hqm => image_len HD.out hS hq (by omega) q hqm)
  · exact (below_then HX.out hb HX.out.size).trans (hcf.below (below_then HX.out hb HX.out.size).size (fun k e => by rcases e with e | e <;> omega))
end Go.Proofs.Ytodaplkijdjbpaa
