/- The document's disk: with. -/
import Derived.Test.YtodaplkijdjbpaaRefD
namespace Go.Proofs.Ytodaplkijdjbpaa
open Go.RowKit
set_option linter.unusedVariables false
set_option linter.unusedSimpArgs false
theorem info_area8 : (Try.prog.info? 96).map (fun i => (i.zero, i.size, i.bytes)) = some (some (.agg #[.int .i64 0, .int .i64 0, .int .i64 0, .slice none 0 0, .int .i64 0, .int .i64 0, .int .u8 0]), 7, 72) := by kernel_rfl
/-- The document's disk as it is handed on. -/
abbrev rV (P : Pd) (A : Option Addr) (c : Nat) : Value := .agg #[.slice A P.n c, .bool P.armed]
abbrev rAgg (a : Pa) (B : Option Addr) (c : Nat) : Value := .agg #[.int .i64 a.base, .int .i64 (a.safe : Nat), .int .i64 (a.done : Nat), .slice B a.bs.length c, .int .i64 a.f.d, .int .i64 a.f.k, .int .u8 ((a.f.t.toNat : Nat) : Int)]
/-- What answers a disk of the document's. -/
def RTo (P : Pd) (F : Nat → Prop) (w : World) (e : Ending) (w' : World) : Prop := ∃ A c, e = .returned (rV P A c) ∧ RAt w' A P (New F w w') ∧ Below w.heap.size w w'
set_option maxHeartbeats 1600000 in
theorem refWith_any {w : World} {A : Option Addr} {P : Pd} {F : Nat → Prop} (h : RAt w A P F) (hn : P.n ≤ 16) (c : Nat) (i : Nat) (hi : i < P.n) (a : Pa) (B : Option Addr) (cc : Nat) (ha : Out F w B a.bs.length a.bs) (hc : a.bs.length ≤ cc) :
    Calls Try.prog 69 #[rV P A c, .int .i64 (i : Int), rAgg a B cc] w (RTo (P.set i a) F w) := by
  obtain ⟨q, vs, rfl, hrd, h1, hcell⟩ := h.rdc
  have x1 := below_alloc w (.cells #[.slice (some ⟨q, 0, none⟩) P.n c, .bool P.armed] 48)
  have b1 := Blk.fresh w #[.slice (some ⟨q, 0, none⟩) P.n c, .bool P.armed] 48
  have z1 : w.heap.size < (w.alloc (.cells #[.slice (some ⟨q, 0, none⟩) P.n c, .bool P.armed] 48)).heap.size := by simp
  generalize hw1 : w.alloc (.cells #[.slice (some ⟨q, 0, none⟩) P.n c, .bool P.armed] 48) = w1 at *
  have x2 := below_alloc w1 (.cells #[.int .i64 a.base, .int .i64 (a.safe : Nat), .int .i64 (a.done : Nat), .slice B a.bs.length cc, .int .i64 a.f.d, .int .i64 a.f.k, .int .u8 ((a.f.t.toNat : Nat) : Int)] 96)
  have b2 := Blk.fresh w1 #[.int .i64 a.base, .int .i64 (a.safe : Nat), .int .i64 (a.done : Nat), .slice B a.bs.length cc, .int .i64 a.f.d, .int .i64 a.f.k, .int .u8 ((a.f.t.toNat : Nat) : Int)] 96
  have z2 : w1.heap.size < (w1.alloc (.cells #[.int .i64 a.base, .int .i64 (a.safe : Nat), .int .i64 (a.done : Nat), .slice B a.bs.length cc, .int .i64 a.f.d, .int .i64 a.f.k, .int .u8 ((a.f.t.toNat : Nat) : Int)] 96)).heap.size := by simp
  generalize hw2 : w1.alloc (.cells #[.int .i64 a.base, .int .i64 (a.safe : Nat), .int .i64 (a.done : Nat), .slice B a.bs.length cc, .int .i64 a.f.d, .int .i64 a.f.k, .int .u8 ((a.f.t.toNat : Nat) : Int)] 96) = w2 at *
  have x3 := below_alloc w2 (.cells #[.slice none 0 0, .bool false] 48)
  have b3 := Blk.fresh w2 #[.slice none 0 0, .bool false] 48
  have z3 : w2.heap.size < (w2.alloc (.cells #[.slice none 0 0, .bool false] 48)).heap.size := by simp
  have y3 := below_then (below_then x1 x2 x1.size) x3 (by omega)
  have d1 := (b1.keep x2).keep x3
  have d2 := b2.keep x3
  generalize hw3 : w2.alloc (.cells #[.slice none 0 0, .bool false] 48) = w3 at *
  have x4 := below_alloc w3 (.cells #[] 96)
  have o4 := World.ownsRow_made (e := 96) (size := 7) (base := w3.heap.size) w3 #[] 0 (Nat.le_refl _) (by simp [maxLen]) rfl
  have y4 := below_then y3 x4 y3.size
  have r4 := hrd.below y4
  have c0 : (w3.alloc (.cells #[] 96)).cell? ⟨w.heap.size, 0, none⟩ = some (.slice (some ⟨q, 0, none⟩) P.n c) := (d1.keep x4).cell 0
  have HH := Lib.hid (And.intro h (And.intro ha hcell))
  have HY3 := Lib.hid y3
  have HE := Lib.hid (And.intro d1 (And.intro d2 b3))
  clear h ha hcell x1 b1 x2 b2 x3 b3 d1 d2 hrd y3
  unfold rV rAgg
  have o4' : (w3.alloc (.cells #[] 96)).ownsRow w3.heap.size 96 7 (.slice (some ⟨w3.heap.size, 0, none⟩) 0 0) 0 [] := o4
  clear o4
  have i0 : (0 : Int) ≤ (i : Int) := by omega
  have i1 : (i : Int) < (P.n : Int) := by omega
  go_enter Try.func69, Try.ntmps69
  go_upto_region 2 with (at_builtin; (refine wpl_append _ rfl _ _ 46 rfl w3.heap.size 96 _ 7 72 Try.underlying46 info_area8 rfl (by decide) (.slice (some ⟨w3.heap.size, 0, none⟩) 0 0) 0 [] rfl o4' (some ⟨q, 0, none⟩) P.n c vs rfl r4 h1 (by decide) (by decide) (by omega) x4.size ?_); intro A8 c8 w8 ho8 hg8 hne8 hnn8; simp only [Nat.zero_add, List.nil_append] at ho8 ⊢; clear hnn8 hne8; obtain ⟨g9, cs9, rfl, hg9, hb9, hz9, hc9⟩ := own_blk ho8 (by omega); have hB38 := x4.grown hg8 x4.size (own_base o4'); have e0 := HE.out.1.keep hB38; have u0 : w8.cell? ⟨w.heap.size, 0, none⟩ = some (.slice (some ⟨q, 0, none⟩) P.n c) := e0.cell 0; have v0 := e0.frozen 0; clear ho8 hg8 c0 r4)
  have e1 := HE.out.2.1.keep hB38
  have e2 := HE.out.2.2.keep hB38
  have hs9 := chg_set w8 w.heap.size 0 (.slice (some ⟨g9, 0, none⟩) P.n c8)
  have k0 := e0.set 0 (.slice (some ⟨g9, 0, none⟩) P.n c8)
  have k1 := e1.chg hs9 (by omega)
  have k2 := e2.chg hs9 (by omega)
  have k9 := hb9.chg hs9 (by omega)
  generalize hw9 : w8.setCell ⟨w.heap.size, 0, none⟩ (.slice (some ⟨g9, 0, none⟩) P.n c8) = w9 at *
  obtain ⟨B', c', kk, -, -⟩ := HH.out.2.2 i hi
  have m0 : w9.cell? ⟨w.heap.size, 0, none⟩ = some (.slice (some ⟨g9, 0, none⟩) P.n c8) := k0.cell 0
  have a0 : w9.cell? ⟨w1.heap.size, 0, none⟩ = _ := k1.cell 0
  have a1 : w9.cell? ⟨w1.heap.size, 1, none⟩ = _ := k1.cell 1
  have a2 : w9.cell? ⟨w1.heap.size, 2, none⟩ = _ := k1.cell 2
  have a3 : w9.cell? ⟨w1.heap.size, 3, none⟩ = _ := k1.cell 3
  have a4 : w9.cell? ⟨w1.heap.size, 4, none⟩ = _ := k1.cell 4
  have a5 : w9.cell? ⟨w1.heap.size, 5, none⟩ = _ := k1.cell 5
  have a6 : w9.cell? ⟨w1.heap.size, 6, none⟩ = _ := k1.cell 6
  have n0 : w9.cell? ⟨g9, i * 7, none⟩ = _ := (k9.cell _).trans ((hc9 _ (by omega)).trans (kk 0 _ rfl))
  have n1 : w9.cell? ⟨g9, i * 7 + 1, none⟩ = _ := (k9.cell _).trans ((hc9 _ (by omega)).trans (kk 1 _ rfl))
  have n2 : w9.cell? ⟨g9, i * 7 + 2, none⟩ = _ := (k9.cell _).trans ((hc9 _ (by omega)).trans (kk 2 _ rfl))
  have n3 : w9.cell? ⟨g9, i * 7 + 3, none⟩ = _ := (k9.cell _).trans ((hc9 _ (by omega)).trans (kk 3 _ rfl))
  have n4 : w9.cell? ⟨g9, i * 7 + 4, none⟩ = _ := (k9.cell _).trans ((hc9 _ (by omega)).trans (kk 4 _ rfl))
  have n5 : w9.cell? ⟨g9, i * 7 + 5, none⟩ = _ := (k9.cell _).trans ((hc9 _ (by omega)).trans (kk 5 _ rfl))
  have n6 : w9.cell? ⟨g9, i * 7 + 6, none⟩ = _ := (k9.cell _).trans ((hc9 _ (by omega)).trans (kk 6 _ rfl))
  simp at a0 a1 a2 a3 a4 a5 a6
  have f9 := k9.frozen
  have hC := chg_set7 w9 g9 (i * 7) a B cc
  have s0 := k0.chg hC (by omega)
  have s2 := k2.chg hC (by omega)
  have s9 := blk_set7 (o := i * 7) k9 a B cc
  have hB8 : Below w.heap.size w w8 := HY3.out.trans (hB38.mono HY3.out.size)
  have hB9 : Below w.heap.size w w9 := by rw [← hw9]; exact hB8.setCell (p := ⟨w.heap.size, 0, none⟩) (Nat.le_refl _) _
  have hB10 := hB9.trans (hC.below hB9.size (fun k e => by omega))
  have HS := Lib.hid (And.intro hB10 (And.intro s0 (And.intro s2 s9)))
  clear hC s0 s2 s9 hB10 hB9 hB8 k0 k1 k2 k9 hs9 e0 e1 e2 hb9 hw9 u0 v0 kk
  go_upto_region 3 with fail
  obtain ⟨w10, hw10⟩ : ∃ w10, set7 w9 g9 (i * 7) a B cc = w10 := ⟨_, rfl⟩
  have HS2 := HS.out
  rw [hw10] at HS2
  unfold set7 at hw10
  rw [hw10]
  obtain ⟨hB10, s0, s2, s9⟩ := HS2
  have p0 : w10.cell? ⟨w.heap.size, 0, none⟩ = some (.slice (some ⟨g9, 0, none⟩) P.n c8) := s0.cell 0
  have p1 : w10.cell? ⟨w.heap.size, 1, none⟩ = some (.bool P.armed) := s0.cell 1
  have q0 : w10.cell? ⟨w2.heap.size, 0, none⟩ = some (.slice none 0 0) := s2.cell 0
  have q1 : w10.cell? ⟨w2.heap.size, 1, none⟩ = some (.bool false) := s2.cell 1
  have fr := s2.frozen
  have hC1 := (chg_set w10 w2.heap.size 0 (.slice (some ⟨g9, 0, none⟩) P.n c8)).set (.inl rfl) 1 (.bool P.armed)
  have t2 := (s2.set 0 (.slice (some ⟨g9, 0, none⟩) P.n c8)).set 1 (.bool P.armed)
  have t9 := s9.chg hC1 (by omega)
  have hBf := hB10.trans (hC1.below hB10.size (fun k e => by omega))
  have HF := Lib.hid (And.intro t2 (And.intro t9 hBf))
  have HN9 : Hid (g9 < w10.heap.size) := Lib.hid s9.lt
  have HC9 := Lib.hid hc9
  clear HS hB10 s0 s2 s9 hC1 t2 t9 hBf m0 a0 a1 a2 a3 a4 a5 a6 n0 n1 n2 n3 n4 n5 n6 hB38 x4 y4 hw10 f9 hc9 o4'
  go_wp2_with fail
  obtain ⟨t2, t9, hBf⟩ := HF.out
  refine bodyPost_ret (results_row1 rfl _ _ w2.heap.size 48 _ (0, 0) _ rfl t2 Try.underlying48 rfl (by kernel_rfl)) rfl ?_
  have hlt : g9 < (((w10.setCell ⟨w2.heap.size, 0, none⟩ (.slice (some ⟨g9, 0, none⟩) P.n c8)).setCell ⟨w2.heap.size, 1, none⟩ (.bool P.armed))).heap.size := t9.lt
  refine ⟨some ⟨g9, 0, none⟩, c8, rfl, RAt.set (w := w) (F := New F w _) (.inr ⟨by omega, hlt⟩) hz9 i hi a B cc (fun j hj => ?_) t9 (fun B bs ho => ho.below hBf) (HH.out.2.1.mono New.sub) hc, hBf⟩
  obtain ⟨B', c', k1, k2, k3⟩ := HH.out.2.2 j hj
  refine ⟨B', c', fun k u hu => ?_, k2.mono New.sub, k3⟩
  have hk : k < 7 := by have := (List.getElem?_eq_some_iff.1 hu).1; rwa [rCells_len] at this
  rw [HC9.out _ (by omega)]
  exact k1 k u hu
end Go.Proofs.Ytodaplkijdjbpaa
