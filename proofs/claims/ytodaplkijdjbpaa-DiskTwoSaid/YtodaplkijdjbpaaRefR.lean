/- The document's disk, walked: Read, Bounds, Done. -/
import Derived.Test.YtodaplkijdjbpaaRefM
namespace Go.Proofs.Ytodaplkijdjbpaa
open Go.RowKit
set_option linter.unusedVariables false
set_option linter.unusedSimpArgs false
section
variable {w : World} {A : Option Addr} {P : Pd} {F : Nat → Prop} {K : Nat}
theorem RAt.addr (h : RAt w A P F) : ∃ q, A = some ⟨q, 0, none⟩ := by
  obtain ⟨q, h1, _⟩ := h
  exact ⟨q, h1⟩
/-- The area's variable alone. -/
theorem area_new {B : Option Addr} {c : Nat} (a : Pa) (hB : Bytes w B a.bs.length a.bs) :
    Below w.heap.size w (w.alloc (.cells (rArr a B c) 96)) ∧ (w.alloc (.cells (rArr a B c) 96)).cell? ⟨w.heap.size, 0, none⟩ = some (.int .i64 a.base) ∧ (w.alloc (.cells (rArr a B c) 96)).cell? ⟨w.heap.size, 1, none⟩ = some (.int .i64 (a.safe : Nat)) ∧ (w.alloc (.cells (rArr a B c) 96)).cell? ⟨w.heap.size, 3, none⟩ = some (.slice B a.bs.length c) ∧ Bytes (w.alloc (.cells (rArr a B c) 96)) B a.bs.length a.bs :=
  ⟨below_alloc _ _, (Blk.fresh w (rArr a B c) _).cell 0, (Blk.fresh w (rArr a B c) _).cell 1, (Blk.fresh w (rArr a B c) _).cell 3, hB.below (below_alloc _ _)⟩
set_option maxHeartbeats 1600000 in
theorem refDone_any (h : RAt w A P F) (hn : P.n ≤ 16) (c : Nat) (i : Int) :
    Calls Try.prog 59 #[rV P A c, .int .i64 i] w fun e w' => e = .returned (.int .i64 (P.dones i)) ∧ Below w.heap.size w w' := by
  obtain ⟨q, rfl⟩ := h.addr
  have x1 := below_alloc w (.cells #[.slice (some ⟨q, 0, none⟩) P.n c, .bool P.armed] 48)
  have b1 := Blk.fresh w #[.slice (some ⟨q, 0, none⟩) P.n c, .bool P.armed] 48
  have r1 := h.below x1
  have HX := Lib.hid x1
  have HR := Lib.hid r1
  unfold Pd.dones rV
  generalize hw1 : w.alloc (.cells #[.slice (some ⟨q, 0, none⟩) P.n c, .bool P.armed] 48) = w1 at *
  have c0 : w1.cell? ⟨w.heap.size, 0, none⟩ = some (.slice (some ⟨q, 0, none⟩) P.n c) := b1.cell 0
  have c1 : w1.cell? ⟨w.heap.size, 1, none⟩ = some (.bool P.armed) := b1.cell 1
  have HB := Lib.hid b1
  clear x1 b1 r1 h
  by_cases hi : i < 0 ∨ (P.n : Int) ≤ i
  · rw [if_pos hi]
    have hd : decide (0 ≤ i ∧ i < (P.n : Int)) = false := decide_eq_false (by omega)
    go_enter Try.func59, Try.ntmps59
    go_wp2_with fail
    refine (refHas_any _ P.n c _ i w1 hn).mono ?_
    rintro e w2 ⟨rfl, hb2⟩
    rw [hd]
    go_wp2_with fail
    go_ret
    exact ⟨rfl, below_then HX.out hb2 HX.out.size⟩
  · rw [if_neg hi]
    obtain ⟨j, rfl⟩ : ∃ j : Nat, i = j := ⟨i.toNat, by omega⟩
    have hj : j < P.n := by omega
    rw [Int.toNat_natCast]
    have hd : decide (0 ≤ (j : Int) ∧ (j : Int) < (P.n : Int)) = true := decide_eq_true (by omega)
    have j0 : (0 : Int) ≤ (j : Int) := by omega
    have j1 : (j : Int) < (P.n : Int) := by omega
    go_enter Try.func59, Try.ntmps59
    go_wp2_with fail
    refine (refHas_any _ P.n c _ j w1 hn).mono ?_
    rintro e w2 ⟨rfl, hb2⟩
    rw [hd]
    clear c0 c1
    have c0 : w2.cell? ⟨w.heap.size, 0, none⟩ = some (.slice (some ⟨q, 0, none⟩) P.n c) := (HB.out.keep hb2).cell 0
    obtain ⟨q', B, cc, hq', a0, a1, a2, a3, a4, a5, a6, a7, a8⟩ := (HR.out.below hb2).at_ j hj
    injection hq' with hq'
    injection hq' with hq'
    subst hq'
    go_wp2_with fail
    go_ret
    exact ⟨rfl, below_then HX.out hb2 HX.out.size⟩
set_option maxHeartbeats 1600000 in
theorem refBounds_any (h : RAt w A P F) (hl : P.lim K) (hK : K ≤ 4294967296) (c : Nat) (i : Int) :
    Calls Try.prog 58 #[rV P A c, .int .i64 i] w fun e w' => e = .returned (.tuple #[.int .i64 (P.bounds i).1, .int .i64 (P.bounds i).2.1, .int .i64 (P.bounds i).2.2.1, .int .i64 (P.bounds i).2.2.2]) ∧ Below w.heap.size w w' := by
  have hn := hl.n1
  obtain ⟨q, rfl⟩ := h.addr
  have x1 := below_alloc w (.cells #[.slice (some ⟨q, 0, none⟩) P.n c, .bool P.armed] 48)
  have b1 := Blk.fresh w #[.slice (some ⟨q, 0, none⟩) P.n c, .bool P.armed] 48
  have r1 := h.below x1
  have HX := Lib.hid x1
  have HR := Lib.hid r1
  unfold Pd.bounds rV
  generalize hw1 : w.alloc (.cells #[.slice (some ⟨q, 0, none⟩) P.n c, .bool P.armed] 48) = w1 at *
  have c0 : w1.cell? ⟨w.heap.size, 0, none⟩ = some (.slice (some ⟨q, 0, none⟩) P.n c) := b1.cell 0
  have c1 : w1.cell? ⟨w.heap.size, 1, none⟩ = some (.bool P.armed) := b1.cell 1
  have HB := Lib.hid b1
  clear x1 b1 r1 h
  by_cases hi : i < 0 ∨ (P.n : Int) ≤ i
  · rw [if_pos hi]
    have hd : decide (0 ≤ i ∧ i < (P.n : Int)) = false := decide_eq_false (by omega)
    go_enter Try.func58, Try.ntmps58
    go_wp2_with fail
    refine (refHas_any _ P.n c _ i w1 hn).mono ?_
    rintro e w2 ⟨rfl, hb2⟩
    rw [hd]
    go_wp2_with fail
    refine bodyPost_ret (v := _) (by simp [results, Try.results58, go_sem]; rfl) rfl ?_
    exact ⟨rfl, below_then HX.out hb2 HX.out.size⟩
  · rw [if_neg hi]
    obtain ⟨j, rfl⟩ : ∃ j : Nat, i = j := ⟨i.toNat, by omega⟩
    have hj : j < P.n := by omega
    rw [Int.toNat_natCast]
    have hd : decide (0 ≤ (j : Int) ∧ (j : Int) < (P.n : Int)) = true := decide_eq_true (by omega)
    have j0 : (0 : Int) ≤ (j : Int) := by omega
    have j1 : (j : Int) < (P.n : Int) := by omega
    have hla := hl.a j hj
    have l1 := hla.b0
    have l2 := hla.e
    have l3 := hla.n
    have l4 := hla.s
    obtain ⟨pa, hpa⟩ : ∃ pa, P.p j = pa := ⟨_, rfl⟩
    rw [hpa] at l1 l2 l3 l4 ⊢
    have HPA := Lib.hid hpa
    clear hl hla hpa
    go_enter Try.func58, Try.ntmps58
    go_wp2_with fail
    refine (refHas_any _ P.n c _ j w1 hn).mono ?_
    rintro e w2 ⟨rfl, hb2⟩
    rw [hd]
    clear c0 c1
    have c0 : w2.cell? ⟨w.heap.size, 0, none⟩ = some (.slice (some ⟨q, 0, none⟩) P.n c) := (HB.out.keep hb2).cell 0
    obtain ⟨q', B, cc, hq', a0, a1, a2, a3, a4, a5, a6, a7, a8⟩ := (HR.out.below hb2).at_ j hj
    injection hq' with hq'
    injection hq' with hq'
    subst hq'
    rw [HPA.out] at a0 a1 a2 a3 a4 a5 a6 a7 a8
    have HN := Lib.hid (area_new (c := cc) pa a7.1)
    have HB2 := Lib.hid (below_then HX.out hb2 HX.out.size)
    clear hb2 a7
    unfold rArr at HN
    go_upto_region 4 with fail
    generalize w2.alloc (.cells #[.int .i64 pa.base, .int .i64 (pa.safe : Nat), .int .i64 (pa.done : Nat), .slice B pa.bs.length cc, .int .i64 pa.f.d, .int .i64 pa.f.k, .int .u8 ((pa.f.t.toNat : Nat) : Int)] 96) = w3 at *
    obtain ⟨k1, k2, k3, k4, k5⟩ := HN.out
    have HB3 := Lib.hid (below_then HB2.out k1 HB2.out.size)
    clear k1 k5 HN c0 a0 a1 a2 a3 a4 a5 a6
    go_quiet (fail)
    go_wp2_with fail
    refine bodyPost_ret (v := _) (by simp [results, Try.results58, go_sem]; rfl) rfl ?_
    exact ⟨rfl, HB3.out.trans ((below_drew7 _ _).mono HB3.out.size)⟩
set_option maxHeartbeats 3200000 in
theorem refRead_any (h : RAt w A P F) (hl : P.lim K) (hK : K ≤ 4294967296) (c : Nat) (i x y : Int) (hy1 : -9223372036854775808 ≤ y) (hy2 : y ≤ 9223372036854775807) :
    Calls Try.prog 57 #[rV P A c, .int .i64 i, .int .i64 x, .int .i64 y] w (RdTo (P.read i x y) w) := by
  have hn := hl.n1
  obtain ⟨q, rfl⟩ := h.addr
  have x1 := below_alloc w (.cells #[.slice (some ⟨q, 0, none⟩) P.n c, .bool P.armed] 48)
  have b1 := Blk.fresh w #[.slice (some ⟨q, 0, none⟩) P.n c, .bool P.armed] 48
  have r1 := h.below x1
  have HX := Lib.hid x1
  have HR := Lib.hid r1
  unfold Pd.read rV
  generalize hw1 : w.alloc (.cells #[.slice (some ⟨q, 0, none⟩) P.n c, .bool P.armed] 48) = w1 at *
  have c0 : w1.cell? ⟨w.heap.size, 0, none⟩ = some (.slice (some ⟨q, 0, none⟩) P.n c) := b1.cell 0
  have c1 : w1.cell? ⟨w.heap.size, 1, none⟩ = some (.bool P.armed) := b1.cell 1
  have HB := Lib.hid b1
  clear x1 b1 r1 h
  by_cases hi : i < 0 ∨ (P.n : Int) ≤ i
  · rw [if_pos hi]
    have hd : decide (0 ≤ i ∧ i < (P.n : Int)) = false := decide_eq_false (by omega)
    go_enter Try.func57, Try.ntmps57
    go_wp2_with fail
    refine (refHas_any _ P.n c _ i w1 hn).mono ?_
    rintro e w2 ⟨rfl, hb2⟩
    rw [hd]
    go_wp2_with fail
    go_ret2
    exact ⟨none, 0, rfl, World.ownsRow_nil _ _ _ _, below_then HX.out hb2 HX.out.size⟩
  · rw [if_neg hi]
    obtain ⟨j, rfl⟩ : ∃ j : Nat, i = j := ⟨i.toNat, by omega⟩
    have hj : j < P.n := by omega
    rw [Int.toNat_natCast]
    have hd : decide (0 ≤ (j : Int) ∧ (j : Int) < (P.n : Int)) = true := decide_eq_true (by omega)
    have j0 : (0 : Int) ≤ (j : Int) := by omega
    have j1 : (j : Int) < (P.n : Int) := by omega
    have hla := hl.a j hj
    have l1 := hla.b0
    have l2 := hla.e
    have l3 := hla.n
    have l4 := hla.s
    obtain ⟨pa, hpa⟩ : ∃ pa, P.p j = pa := ⟨_, rfl⟩
    rw [hpa] at l1 l2 l3 l4 ⊢
    have HPA := Lib.hid hpa
    clear hl hla hpa
    obtain ⟨r, hr⟩ : ∃ r : List UInt8 × Int, (if y < 0 ∨ (pa.bs.length : Int) < y ∨ x < pa.base ∨ pa.base + pa.bs.length - y < x then (([], 70) : List UInt8 × Int) else (((pa.bs.drop (x - pa.base).toNat).take y.toNat), 0)) = r := ⟨_, rfl⟩
    rw [hr]
    have HRR := Lib.hid hr
    clear hr
    go_enter Try.func57, Try.ntmps57
    go_wp2_with fail
    refine (refHas_any _ P.n c _ j w1 hn).mono ?_
    rintro e w2 ⟨rfl, hb2⟩
    rw [hd]
    clear c0 c1
    have c0 : w2.cell? ⟨w.heap.size, 0, none⟩ = some (.slice (some ⟨q, 0, none⟩) P.n c) := (HB.out.keep hb2).cell 0
    obtain ⟨q', B, cc, hq', a0, a1, a2, a3, a4, a5, a6, a7, a8⟩ := (HR.out.below hb2).at_ j hj
    injection hq' with hq'
    injection hq' with hq'
    subst hq'
    rw [HPA.out] at a0 a1 a2 a3 a4 a5 a6 a7 a8
    have HN := Lib.hid (area_new (c := cc) pa a7.1)
    have HB2 := Lib.hid (below_then HX.out hb2 HX.out.size)
    clear hb2 a7
    unfold rArr at HN
    go_upto_region 4 with fail
    generalize w2.alloc (.cells #[.int .i64 pa.base, .int .i64 (pa.safe : Nat), .int .i64 (pa.done : Nat), .slice B pa.bs.length cc, .int .i64 pa.f.d, .int .i64 pa.f.k, .int .u8 ((pa.f.t.toNat : Nat) : Int)] 96) = w3 at *
    obtain ⟨k1, k2, k3, k4, k5⟩ := HN.out
    have HB3 := Lib.hid (below_then HB2.out k1 HB2.out.size)
    clear k1 k3 HN c0 a0 a1 a2 a3 a4 a5 a6
    by_cases t0 : y < 0
    · have hbad : r = ([], 70) := by rw [← HRR.out, if_pos (.inl t0)]
      subst hbad
      go_wp2_with fail
      go_ret2
      exact ⟨none, 0, rfl, World.ownsRow_nil _ _ _ _, HB3.out⟩
    · have t0' : decide (y < 0) = false := decide_eq_false t0
      by_cases t1 : x < pa.base
      · have hbad : r = ([], 70) := by rw [← HRR.out, if_pos (.inr (.inr (.inl t1)))]
        subst hbad
        go_wp2_with fail
        go_ret2
        exact ⟨none, 0, rfl, World.ownsRow_nil _ _ _ _, HB3.out⟩
      · have t1' : decide (x < pa.base) = false := decide_eq_false t1
        by_cases t2 : pa.base + (pa.bs.length : Int) < x
        · have hbad : r = ([], 70) := by rw [← HRR.out, if_pos (by omega)]
          subst hbad
          go_wp2_with fail
          go_ret2
          exact ⟨none, 0, rfl, World.ownsRow_nil _ _ _ _, HB3.out⟩
        · have t2' : decide (pa.base + (pa.bs.length : Int) < x) = false := decide_eq_false t2
          by_cases t3 : pa.base + (pa.bs.length : Int) - x < y
          · have hbad : r = ([], 70) := by rw [← HRR.out, if_pos (by omega)]
            subst hbad
            go_wp2_with fail
            go_ret2
            exact ⟨none, 0, rfl, World.ownsRow_nil _ _ _ _, HB3.out⟩
          · have hok := HRR.out
            rw [if_neg (by omega)] at hok
            subst hok
            obtain ⟨k, rfl⟩ : ∃ k : Nat, x = pa.base + k := ⟨(x - pa.base).toNat, by omega⟩
            obtain ⟨m, rfl⟩ : ∃ m : Nat, y = m := ⟨y.toNat, by omega⟩
            have ek : (pa.base + (k : Int) - pa.base).toNat = k := by omega
            have ei : pa.base + (k : Int) - pa.base = (k : Int) := by omega
            have hkm : k + m ≤ pa.bs.length := by omega
            have hk2 : (k : Int) + (m : Int) ≤ (cc : Int) := by omega
            have hk3 : (k : Int) ≤ (k : Int) + (m : Int) := by omega
            have k0' : (0 : Int) ≤ (k : Int) := by omega
            rw [ek, Int.toNat_natCast]
            have x5 := below_alloc w3 (.cells #[] 5)
            have o5 := World.ownsRow_made (e := 5) (size := 1) (base := w3.heap.size) w3 #[] 0 (Nat.le_refl _) (by simp [maxLen]) rfl
            have o5' : (w3.alloc (.cells #[] 5)).ownsRow w3.heap.size 5 1 (.slice (some ⟨w3.heap.size, 0, none⟩) 0 0) 0 [] := o5
            have hy : Bytes (w3.alloc (.cells #[] 5)) (if cc = k then B else Option.map (fun x => x.add k) B) (k + m - k) ((pa.bs.drop k).take m) := by
              rw [Nat.add_sub_cancel_left]
              exact (bytes_opt (k5.below x5) k (by omega) a8).take m (by omega)
            have u0 : (w3.alloc (.cells #[] 5)).cell? ⟨w2.heap.size, 0, none⟩ = some (.int .i64 pa.base) := (x5.cell (p := ⟨w2.heap.size, 0, none⟩) (block_lt_of_cell k2)).trans k2
            have u3 : (w3.alloc (.cells #[] 5)).cell? ⟨w2.heap.size, 3, none⟩ = some (.slice B pa.bs.length cc) := (x5.cell (p := ⟨w2.heap.size, 3, none⟩) (block_lt_of_cell k4)).trans k4
            have hr := hy.rdc
            clear o5 hy
            go_wp2_with (at_builtin; (refine wpl_append _ rfl _ _ 30 rfl w3.heap.size 5 _ 1 1 Try.underlying30 info_byte7 rfl (by decide) (.slice (some ⟨w3.heap.size, 0, none⟩) 0 0) 0 [] rfl o5' _ (k + m - k) _ _ rfl hr (bvals_one _) (by decide) (by decide) (by omega) x5.size ?_); intro A6 c6 w6 ho6 hg6 hne6 hnn6; simp only [Nat.zero_add, List.nil_append, Nat.add_sub_cancel_left] at ho6 ⊢)
            all_goals
              go_ret2
              have hlen : ((pa.bs.drop k).take m).length = m := by rw [List.length_take, List.length_drop]; omega
              have hB6 := x5.grown hg6 x5.size (own_base o5')
              refine ⟨A6, c6, by rw [hlen]; rfl, ?_, below_then HB3.out hB6 HB3.out.size⟩
              rw [hlen]
              exact own_mono ho6 HB3.out.size
end
end Go.Proofs.Ytodaplkijdjbpaa
