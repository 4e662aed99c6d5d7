/- The document's disk, walked: Trim. (printed by wip/gen_ref8.py) -/
import Derived.Test.YtodaplkijdjbpaaRefM
namespace Go.Proofs.Ytodaplkijdjbpaa
open Go.RowKit
set_option linter.unusedVariables false
set_option linter.unusedSimpArgs false
set_option maxHeartbeats 1600000 in
theorem refTrim_any {w : World} {A : Option Addr} {P : Pd} {F : Nat → Prop} {K : Nat} (h : RAt w A P F) (hF : ∀ k, F k → k < w.heap.size) (hl : P.lim K) (hK : K ≤ 4294967296) (c : Nat) (i : Int) (x : Int) :
    Calls Try.prog 56 #[rV P A c, .int .i64 i, .int .i64 x] w (RpTo (P.op i (Pa.trim x)) F w) := by
  have hn := hl.n1
  obtain ⟨q, hq⟩ : ∃ q, A = some ⟨q, 0, none⟩ := by
    obtain ⟨q, h1, _⟩ := h
    exact ⟨q, h1⟩
  subst hq
  have x1 := below_alloc w (.cells #[.slice (some ⟨q, 0, none⟩) P.n c, .bool P.armed] 48)
  have b1 := Blk.fresh w #[.slice (some ⟨q, 0, none⟩) P.n c, .bool P.armed] 48
  have z1 : w.heap.size < (w.alloc (.cells #[.slice (some ⟨q, 0, none⟩) P.n c, .bool P.armed] 48)).heap.size := by simp
  generalize hw1 : w.alloc (.cells #[.slice (some ⟨q, 0, none⟩) P.n c, .bool P.armed] 48) = w1 at *
  have x2 := below_alloc w1 (.cells #[.slice none 0 0, .bool false] 48)
  have b2 := Blk.fresh w1 #[.slice none 0 0, .bool false] 48
  have d1 := b1.keep x2
  have y2 := below_then x1 x2 x1.size
  generalize hw2 : w1.alloc (.cells #[.slice none 0 0, .bool false] 48) = w2 at *
  have hdn := refDown_any (h.below y2) hn c i
  have HDN := Lib.hid hdn
  have HH := Lib.hid h
  have HFF := Lib.hid hF
  have HL := Lib.hid hl
  have c0 : w2.cell? ⟨w.heap.size, 0, none⟩ = some (.slice (some ⟨q, 0, none⟩) P.n c) := d1.cell 0
  have c1 : w2.cell? ⟨w.heap.size, 1, none⟩ = some (.bool P.armed) := d1.cell 1
  have HD := Lib.hid (And.intro d1 (And.intro b2 y2))
  clear h hF hl hdn x1 b1 x2 b2 d1 y2
  by_cases hE : P.downE i = 0
  · obtain ⟨j, rfl, hj, hdj⟩ := downE_zero hE
    rw [op_go hj hdj]
    obtain ⟨pa, hpa⟩ : ∃ pa, P.p j = pa := ⟨_, rfl⟩
    rw [hpa]
    have HPA := Lib.hid hpa
    have hla := HL.out.a j hj
    rw [hpa] at hla
    have l1 := hla.b0
    have l2 := hla.e
    have l3 := hla.n
    have l4 := hla.s
    have l5 := hla.d
    clear hla hpa
    rw [hE] at HDN
    have HDJ := Lib.hid (And.intro hE hdj)
    clear hE hdj
    have i0 : (0 : Int) ≤ (j : Int) := by omega
    have i1 : (j : Int) < (P.n : Int) := by omega
    by_cases hx : x < pa.base ∨ pa.base + (pa.safe : Int) < x
    · have hop : (Pa.trim x) pa = none := (if_pos hx)
      rw [hop]
      dsimp only
      unfold rV
      go_enter Try.func56, Try.ntmps56
      go_wp2_with fail
      refine HDN.out.mono ?_
      rintro e w3 ⟨rfl, hb3⟩
      have hB3 := below_then HD.out.2.2 hb3 HD.out.2.2.size
      have e1 := HD.out.1.keep hb3
      have e2 := HD.out.2.1.keep hb3
      have hR3 := HH.out.below hB3
      obtain ⟨q', B, cc, hq', a0, a1, a2, a3, a4, a5, a6, hout, hcap⟩ := hR3.at_ j hj
      injection hq' with hq'
      injection hq' with hq'
      subst hq'
      rw [HPA.out] at a0 a1 a2 a3 a4 a5 a6 hout hcap
      have M4 := Mid.start (a := pa) e1 e2 hR3 HFF.out hB3 (Nat.le_refl _) (Nat.le_of_lt z1) hout hcap
      clear c0 c1
      have c0 : w3.cell? ⟨w.heap.size, 0, none⟩ = some (.slice (some ⟨q, 0, none⟩) P.n c) := e1.cell 0
      have HM4 := Lib.hid M4
      have HOUT := Lib.hid hout
      have HB : Hid (pa.bs.length ≠ 0 → blkO B ≠ some w3.heap.size) := Lib.hid (fun h0 e => Nat.lt_irrefl _ (hout.1.lt h0 _ e))
      have HCAP := Lib.hid hcap
      have HBY := Lib.hid (hout.1.below (below_alloc w3 (.cells #[.int .i64 pa.base, .int .i64 (pa.safe : Nat), .int .i64 (pa.done : Nat), .slice B pa.bs.length cc, .int .i64 pa.f.d, .int .i64 pa.f.k, .int .u8 ((pa.f.t.toNat : Nat) : Int)] 96)))
      clear M4 hout hcap e1 e2 hR3 hB3 hb3 HDN HD
      go_upto_region 5 with fail
      generalize w3.alloc (.cells #[.int .i64 pa.base, .int .i64 (pa.safe : Nat), .int .i64 (pa.done : Nat), .slice B pa.bs.length cc, .int .i64 pa.f.d, .int .i64 pa.f.k, .int .u8 ((pa.f.t.toNat : Nat) : Int)] 96) = w4 at *
      generalize w3.heap.size = gA at *
      obtain ⟨m0, m1, m2, m3, m4, m5, m6, mf, n0, n1⟩ := HM4.out.cells
      clear c0 a0 a1 a2 a3 a4 a5 a6
      have hB4 := HBY.out
      have HFIN := Lib.hid (ref_same (c := c) HM4.out.r (Nat.le_of_lt z1) HM4.out.b HH.out)
      have u0 : w4.cell? ⟨w1.heap.size, 0, none⟩ = some (.slice none 0 0) := HM4.out.r.cell 0
      have u1 : w4.cell? ⟨w1.heap.size, 1, none⟩ = some (.bool false) := HM4.out.r.cell 1
      have uf := HM4.out.r.frozen
      by_cases hx1 : x < pa.base
      · have hd1 : decide (x < pa.base) = true := decide_eq_true hx1
        go_wp2_with fail
        obtain ⟨v0, v1, v2⟩ := HFIN.out
        refine bodyPost_ret (results_row_tmp rfl _ _ w1.heap.size 48 _ (0, 0) _ rfl v0 Try.underlying48 rfl (by kernel_rfl) _ rfl) rfl ?_
        exact ⟨some ⟨q, 0, none⟩, c, rfl, v1, v2⟩
      · have hd1 : decide (x < pa.base) = false := decide_eq_false hx1
        have hx2 : pa.base + (pa.safe : Int) < x := by omega
        go_wp2_with fail
        obtain ⟨v0, v1, v2⟩ := HFIN.out
        refine bodyPost_ret (results_row_tmp rfl _ _ w1.heap.size 48 _ (0, 0) _ rfl v0 Try.underlying48 rfl (by kernel_rfl) _ rfl) rfl ?_
        exact ⟨some ⟨q, 0, none⟩, c, rfl, v1, v2⟩
    · obtain ⟨k, hk⟩ : ∃ k : Nat, x = pa.base + k := ⟨(x - pa.base).toNat, by omega⟩
      subst hk
      have hks : k ≤ pa.safe := by omega
      have hk1 : k ≤ pa.bs.length := by omega
      have ek : (pa.base + (k : Int) - pa.base).toNat = k := by omega
      have hn1 : ¬ (pa.base + (k : Int) < pa.base) := by omega
      have hn2 : ¬ (pa.base + (pa.safe : Int) < pa.base + (k : Int)) := by omega
      have ei : pa.base + (k : Int) - pa.base = (k : Int) := by omega
      have hop : (Pa.trim (pa.base + (k : Int))) pa = some { pa with base := pa.base + (k : Int), bs := pa.bs.drop k, safe := pa.safe - k } := (by unfold Pa.trim; rw [if_neg hx, ek])
      rw [hop]
      dsimp only
      unfold rV
      go_enter Try.func56, Try.ntmps56
      go_wp2_with fail
      refine HDN.out.mono ?_
      rintro e w3 ⟨rfl, hb3⟩
      have hB3 := below_then HD.out.2.2 hb3 HD.out.2.2.size
      have e1 := HD.out.1.keep hb3
      have e2 := HD.out.2.1.keep hb3
      have hR3 := HH.out.below hB3
      obtain ⟨q', B, cc, hq', a0, a1, a2, a3, a4, a5, a6, hout, hcap⟩ := hR3.at_ j hj
      injection hq' with hq'
      injection hq' with hq'
      subst hq'
      rw [HPA.out] at a0 a1 a2 a3 a4 a5 a6 hout hcap
      have M4 := Mid.start (a := pa) e1 e2 hR3 HFF.out hB3 (Nat.le_refl _) (Nat.le_of_lt z1) hout hcap
      clear c0 c1
      have c0 : w3.cell? ⟨w.heap.size, 0, none⟩ = some (.slice (some ⟨q, 0, none⟩) P.n c) := e1.cell 0
      have HM4 := Lib.hid M4
      have HOUT := Lib.hid hout
      have HB : Hid (pa.bs.length ≠ 0 → blkO B ≠ some w3.heap.size) := Lib.hid (fun h0 e => Nat.lt_irrefl _ (hout.1.lt h0 _ e))
      have HCAP := Lib.hid hcap
      have HBY := Lib.hid (hout.1.below (below_alloc w3 (.cells #[.int .i64 pa.base, .int .i64 (pa.safe : Nat), .int .i64 (pa.done : Nat), .slice B pa.bs.length cc, .int .i64 pa.f.d, .int .i64 pa.f.k, .int .u8 ((pa.f.t.toNat : Nat) : Int)] 96)))
      clear M4 hout hcap e1 e2 hR3 hB3 hb3 HDN HD
      go_upto_region 5 with fail
      generalize w3.alloc (.cells #[.int .i64 pa.base, .int .i64 (pa.safe : Nat), .int .i64 (pa.done : Nat), .slice B pa.bs.length cc, .int .i64 pa.f.d, .int .i64 pa.f.k, .int .u8 ((pa.f.t.toNat : Nat) : Int)] 96) = w4 at *
      generalize w3.heap.size = gA at *
      obtain ⟨m0, m1, m2, m3, m4, m5, m6, mf, n0, n1⟩ := HM4.out.cells
      clear c0 a0 a1 a2 a3 a4 a5 a6
      have hB4 := HBY.out
      have hk2 : (k : Int) ≤ (cc : Int) := by have := HCAP.out; omega
      have k0 : (0 : Int) ≤ (k : Int) := by omega
      clear hx
      go_upto_region 7 with fail
      have x5 := below_alloc w4 (.cells #[] 5)
      have o5 := World.ownsRow_made (e := 5) (size := 1) (base := w4.heap.size) w4 #[] 0 (Nat.le_refl _) (by simp [maxLen]) rfl
      have o5' : (w4.alloc (.cells #[] 5)).ownsRow w4.heap.size 5 1 (.slice (some ⟨w4.heap.size, 0, none⟩) 0 0) 0 [] := o5
      have hB5 := (bytes_opt hB4 k hk1 HCAP.out).below x5
      have k3 : (w4.alloc (.cells #[] 5)).cell? ⟨gA, 3, none⟩ = some (.slice B pa.bs.length cc) := (HM4.out.below x5).ar.cell 3
      have k0 : (w4.alloc (.cells #[] 5)).cell? ⟨gA, 0, none⟩ = some (.int .i64 pa.base) := (HM4.out.below x5).ar.cell 0
      clear o5
      go_upto_region 8 with (at_builtin; (try rw [ek]); ((refine wpl_append _ rfl _ _ 30 rfl w4.heap.size 5 _ 1 1 Try.underlying30 info_byte7 rfl (by decide) (.slice (some ⟨w4.heap.size, 0, none⟩) 0 0) 0 [] rfl o5' (if cc = k then B else Option.map (fun x => x.add k) B) (pa.bs.length - k) (cc - k) _ rfl hB5.rdc (bvals_one _) (by decide) (by decide) (by omega) x5.size ?_); intro A6 c6 w6 ho6 hg6 hne6 hnn6; simp only [Nat.zero_add, List.nil_append] at ho6 ⊢; clear hnn6 hne6; have hB46 := x5.grown hg6 x5.size (own_base o5'); have M6 := HM4.out.below hB46; have q3 : w6.cell? ⟨gA, 3, none⟩ = some (.slice B pa.bs.length cc) := M6.ar.cell 3; have qf := M6.ar.frozen))
      have hlen : (pa.bs.drop k).length = pa.bs.length - k := List.length_drop
      have hon := own_new HM4.out ho6 (Nat.le_refl _) (by omega)
      have M8 := M6.store (a' := { pa with bs := pa.bs.drop k }) HFF.out 3 (.slice A6 (pa.bs.length - k) c6) (by simp only [rArr, hlen]; rfl) (by rw [hlen]; exact hon.1) (by rw [hlen]; exact own_cap8 ho6) (by rw [hlen]; exact hon.2)
      obtain ⟨w8, hw8⟩ : ∃ w8, w6.setCell ⟨gA, 3, none⟩ (.slice A6 (pa.bs.length - k) c6) = w8 := ⟨_, rfl⟩
      rw [hw8] at M8 ⊢
      clear hw8
      have p0 : w8.cell? ⟨gA, 0, none⟩ = some (.int .i64 pa.base) := M8.ar.cell 0
      have p1 : w8.cell? ⟨gA, 1, none⟩ = some (.int .i64 (pa.safe : Nat)) := M8.ar.cell 1
      have p2 : w8.cell? ⟨gA, 2, none⟩ = some (.int .i64 (pa.done : Nat)) := M8.ar.cell 2
      have pf := M8.ar.frozen
      have M9 := M8.store0 (a' := { pa with bs := pa.bs.drop k, safe := pa.safe - k }) HFF.out 1 (.int .i64 ((pa.safe - k : Nat) : Int)) rfl rfl (by rw [hlen]; exact hon.2)
      have M10 := M9.store0 (a' := { base := pa.base + (k : Int), bs := pa.bs.drop k, safe := pa.safe - k, f := pa.f, done := pa.done }) HFF.out 0 (.int .i64 (pa.base + (k : Int))) rfl rfl (by rw [hlen]; exact hon.2)
      have M11 := M10.store0 (a' := { base := pa.base + (k : Int), bs := pa.bs.drop k, safe := pa.safe - k, f := pa.f, done := pa.done + 1 }) HFF.out 2 (.int .i64 ((pa.done : Int) + 1)) rfl rfl (by rw [hlen]; exact hon.2)
      have r0 : (w8.setCell ⟨gA, 1, none⟩ (.int .i64 ((pa.safe - k : Nat) : Int))).cell? ⟨gA, 0, none⟩ = some (.int .i64 pa.base) := M9.ar.cell 0
      have rf1 := M9.ar.frozen
      have r2 : ((w8.setCell ⟨gA, 1, none⟩ (.int .i64 ((pa.safe - k : Nat) : Int))).setCell ⟨gA, 0, none⟩ (.int .i64 (pa.base + (k : Int)))).cell? ⟨gA, 2, none⟩ = some (.int .i64 (pa.done : Nat)) := M10.ar.cell 2
      have rf2 := M10.ar.frozen
      have HMT := Lib.hid M11
      have HM8 := Lib.hid M8
      have r1 := True.intro
      clear M8 M9 M10 M11 M6 hon ho6 hg6 hB46 q3 qf hB5 x5 o5' k3 k0 m0 m1 m2 m3 m4 m5 m6 mf n0 n1 HM4 hlen
      generalize (if cc = k then B else Option.map (fun x => x.add k) B) = BX
      go_upto_region 9 with fail
      rw [show (pa.safe : Int) - (k : Int) = ((pa.safe - k : Nat) : Int) by omega]
      go_upto_region 11 with fail
      obtain ⟨wt, hwt⟩ : ∃ wt, ((w8.setCell ⟨gA, 1, none⟩ (.int .i64 ((pa.safe - k : Nat) : Int))).setCell ⟨gA, 0, none⟩ (.int .i64 (pa.base + (k : Int)))).setCell ⟨gA, 2, none⟩ (.int .i64 ((pa.done : Int) + 1)) = wt := ⟨_, rfl⟩
      rw [hwt] at HMT ⊢
      clear hwt
      obtain ⟨ax, hax⟩ : ∃ ax : Pa, { base := pa.base + (k : Int), bs := pa.bs.drop k, safe := pa.safe - k, f := pa.f, done := pa.done + 1 } = ax := ⟨_, rfl⟩
      rw [hax] at HMT
      have HAX := Lib.hid hax
      clear hax
      obtain ⟨t0, t1, t2, t3, t4, t5, t6, tf, s0, s1⟩ := HMT.out.cells
      have hcall := refWith_any (HMT.out.ra.mono (fun k e => ⟨.inl e, by have := HFF.out k e; omega⟩)) hn c j hj _ _ _ HMT.out.out HMT.out.cap
      have HC := Lib.hid hcall
      clear hcall p0 p1 p2 r0 r1 r2 pf rf1 rf2 HM8
      go_wp2_with fail
      refine HC.out.mono ?_
      rintro e w5 ⟨A5, c5, rfl, hR5, hb5⟩
      have HFIN := Lib.hid (HMT.out.fin (c5 := c5) hR5 hb5)
      have r5 := HMT.out.r.keep hb5
      have u0 : w5.cell? ⟨w1.heap.size, 0, none⟩ = some (.slice none 0 0) := r5.cell 0
      have u1 : w5.cell? ⟨w1.heap.size, 1, none⟩ = some (.bool false) := r5.cell 1
      have uf := r5.frozen
      clear t0 t1 t2 t3 t4 t5 t6 tf s0 s1 HMT HC hR5 hb5 r5
      unfold rV
      go_wp2_with fail
      obtain ⟨v0, v1, v2⟩ := HFIN.out
      refine bodyPost_ret (results_row_tmp rfl _ _ w1.heap.size 48 _ (0, 0) _ rfl v0 Try.underlying48 rfl (by kernel_rfl) _ rfl) rfl ?_
      have hax := HAX.out
      subst hax
      exact ⟨A5, c5, rfl, v1, v2⟩
  · rw [op_stop hE]
    obtain ⟨r, hr⟩ : ∃ r, P.downE i = r := ⟨_, rfl⟩
    rw [hr] at hE HDN ⊢
    clear hr
    unfold rV
    go_enter Try.func56, Try.ntmps56
    go_wp2_with fail
    refine HDN.out.mono ?_
    rintro e w3 ⟨rfl, hb3⟩
    have hB3 := below_then HD.out.2.2 hb3 HD.out.2.2.size
    have e1 := HD.out.1.keep hb3
    have e2 := HD.out.2.1.keep hb3
    clear c0 c1
    have c0 : w3.cell? ⟨w.heap.size, 0, none⟩ = some (.slice (some ⟨q, 0, none⟩) P.n c) := e1.cell 0
    have c1 : w3.cell? ⟨w.heap.size, 1, none⟩ = some (.bool P.armed) := e1.cell 1
    have u0 : w3.cell? ⟨w1.heap.size, 0, none⟩ = some (.slice none 0 0) := e2.cell 0
    have u1 : w3.cell? ⟨w1.heap.size, 1, none⟩ = some (.bool false) := e2.cell 1
    have uf := e2.frozen
    have HFIN := Lib.hid (ref_same (c := c) e2 (Nat.le_of_lt z1) hB3 HH.out)
    clear hb3 hB3 e1 e2 HD HDN
    go_wp2_with fail
    obtain ⟨v0, v1, v2⟩ := HFIN.out
    refine bodyPost_ret (results_row_tmp rfl _ _ w1.heap.size 48 _ (0, 0) _ rfl v0 Try.underlying48 rfl (by kernel_rfl) _ rfl) rfl ?_
    exact ⟨some ⟨q, 0, none⟩, c, rfl, v1, v2⟩
end Go.Proofs.Ytodaplkijdjbpaa
