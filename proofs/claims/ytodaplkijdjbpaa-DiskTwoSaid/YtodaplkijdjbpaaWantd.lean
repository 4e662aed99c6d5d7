/- What the document answers to a step, of each kind. (printed by wip/gen_want.py) -/
import Derived.Test.YtodaplkijdjbpaaWant0
namespace Go.Proofs.Ytodaplkijdjbpaa
open Go.RowKit
set_option linter.unusedVariables false
set_option linter.unusedSimpArgs false
theorem ref_image_len {P : Pd} {K : Nat} (h : P.lim K) (hK : K ≤ 4294967296) : ∀ (B : Nat) (wm : World) {qs : List (Int × Rw)}, (∀ r ∈ (qs.map (·.2)).reverse, r.own wm B) → qs.map (fun q => (q.1, q.2.bs)) = P.image → ∀ q ∈ qs, q.2.n ≤ 281474976710656 := by
  intro B wm qs hS hq q hm
  have ho := (hS q.2 (by rw [List.mem_reverse]; exact List.mem_map_of_mem hm)).1
  simp only [bvals_length, Nat.mul_one] at ho
  have h2 : (q.1, q.2.bs) ∈ P.image := by rw [← hq]; exact List.mem_map_of_mem (f := fun q => (q.1, q.2.bs)) hm
  simp only [Pd.image, Pd.imageK, List.mem_map, List.mem_range] at h2
  obtain ⟨j, hj, e⟩ := h2
  injection e with e1 e2
  have h3 := (h.a j hj).n
  rw [← ho, ← e2, List.length_take]
  omega
set_option maxHeartbeats 1600000 in
set_option maxRecDepth 100000 in
theorem want_9 {w : World} {A0 : Option Addr} {P : Pd} {F : Nat → Prop} {K L : Nat} {v : Value} {s : Ps} {A : Option Addr} (h : RAt w A0 P F) (hF : ∀ k, F k → k < w.heap.size) (hl : P.lim K) (hs : PsAt w v s A) (hk : K + s.p.length + 1 ≤ L) (hL : L ≤ 4294967296) (c0 : Nat) (h0 : s.k = 9) :
    Calls Try.prog 34 #[rV P A0 c0, v] w (WantTo (P.told s) (P.step s) F w) := by
  obtain ⟨⟨C, m, c, n, d, rfl, hP, hFt⟩, b0, b1⟩ := hs
  obtain ⟨k, i, a, b, p, f⟩ := s
  simp only at h0 hP hFt b0 b1 hk
  subst h0
  have hlen := hP.1
  have ht : P.told ⟨9, i, a, b, p, f⟩ = { Td.no with s := P.image } := by simp [Pd.told]
  have hst : P.step ⟨9, i, a, b, p, f⟩ = P := by simp [Pd.step]
  rw [ht, hst]
  clear ht hst
  obtain ⟨w1, hw1⟩ : ∃ w1, w.alloc (.cells #[.slice A0 P.n c0, .bool P.armed] 48) = w1 := ⟨_, rfl⟩
  obtain ⟨w2, hw2⟩ : ∃ w2, w1.alloc (.cells #[.int .i64 9, .int .i64 i, .int .i64 a, .int .i64 b, .slice C m c, .slice A n d] 33) = w2 := ⟨_, rfl⟩
  obtain ⟨w3, hw3⟩ : ∃ w3, w2.alloc (.cells #[.int .i64 0, .int .i64 0, .int .i64 0, .int .i64 0, .slice none 0 0, .slice none 0 0] 36) = w3 := ⟨_, rfl⟩
  obtain ⟨w4, hw4⟩ : ∃ w4, w3.alloc (.cells #[.slice none 0 0, .bool false] 48) = w4 := ⟨_, rfl⟩
  obtain ⟨w5, hw5⟩ : ∃ w5, w4.alloc (.cells #[.int .i64 0, .int .i64 0, .int .i64 0, .int .i64 0, .slice none 0 0, .slice none 0 0] 36) = w5 := ⟨_, rfl⟩
  obtain ⟨W5, S5, y5⟩ := want_pre h hF _ hw1 hw2 hw3 hw4 hw5
  have hF5 : ∀ x, Wf F w w5 w.heap.size w4.heap.size w2.heap.size w3.heap.size x → x < w5.heap.size := by
    rintro x ⟨e | e, _⟩
    · exact Nat.lt_of_lt_of_le (hF x e) y5.size
    · exact e.2
  have hn := hl.n1
  have HM := Lib.hid (refImage_any W5.ra hF5 hl (by omega) c0)
  have HIL := Lib.hid (ref_image_len hl (show K ≤ 4294967296 by omega))
  have HW := Lib.hid W5
  have g0 : w5.cell? ⟨w.heap.size, 0, none⟩ = some (.slice A0 P.n c0) := W5.d.cell 0
  have g1 : w5.cell? ⟨w.heap.size, 1, none⟩ = some (.bool P.armed) := W5.d.cell 1
  obtain ⟨s0, s1, s2, s3, s4, s5, sf⟩ := six_cells S5
  clear h hF hl W5 hF5 hP hFt hk
  unfold rV
  go_enter Try.func34, Try.ntmps34
  go_wp2_with fail
  refine HM.out.mono ?_
  rintro e wm ⟨A9, n9, c9, qs, rfl, hS, hq, hb⟩
  clear g0 g1 s0 s1 s2 s3 s4 s5 sf
  have WM := HW.out.below hb
  have g0 : wm.cell? ⟨w.heap.size, 0, none⟩ = some (.slice A0 P.n c0) := WM.d.cell 0
  have g1 : wm.cell? ⟨w.heap.size, 1, none⟩ = some (.bool P.armed) := WM.d.cell 1
  have gf := WM.d.frozen
  obtain ⟨t0, t1, t2, t3, t4, t5, tf⟩ := six_cells WM.t
  have n1 := blk_type WM.d WM.t (by decide)
  have W8 := Lib.hid ((HW.out.below hb).tset 5 (.slice A9 n9 c9))
  have TD : Hid (∀ wn, Chg (fun x => x = w.heap.size ∨ x = w4.heap.size) wm wn → TdF (Wf F w wn w.heap.size w4.heap.size w2.heap.size w3.heap.size) wn (.agg #[.int .i64 0, .int .i64 0, .int .i64 0, .int .i64 0, .slice none 0 0, .slice A9 n9 c9]) { Td.no with s := P.image }) := Lib.hid (fun wn hC => by
    have hO : TdF (Wf F w wm w.heap.size w4.heap.size w2.heap.size w3.heap.size) wm (.agg #[.int .i64 0, .int .i64 0, .int .i64 0, .int .i64 0, .slice none 0 0, .slice A9 n9 c9]) { Td.no with s := P.image } := ⟨none, 0, 0, A9, n9, c9, rfl, Out.nil _ _ _, by
      show SpF _ wm A9 n9 P.image
      rw [← hq]
      exact hS.inF (fun q hm => HIL.out _ _ hS.sep.own hq q hm) (fun x e => HW.out.new hb x (.inr e))⟩
    exact (hO.chg (hC.mono (fun x e e2 => by rcases e with e | e; exact e2.2.1 e; exact e2.2.2.1 e))).mono (Wf.low hC.size))
  have HC8 : Hid (Chg (fun x => x = w.heap.size ∨ x = w4.heap.size) wm (wm.setCell ⟨w4.heap.size, 5, none⟩ (.slice A9 n9 c9))) := Lib.hid (Chg.set (F := fun x => x = w.heap.size ∨ x = w4.heap.size) (Chg.refl _ _) (.inl (.inr rfl)) _ _)
  clear WM hb HM
  go_upto_region 25 with fail
  obtain ⟨wn, hwn⟩ : ∃ wn, (wm.setCell ⟨w4.heap.size, 5, none⟩ (.slice A9 n9 c9)) = wn := ⟨_, rfl⟩
  rw [hwn] at W8 HC8 ⊢
  clear hwn
  have HTD := Lib.hid (TD.out wn HC8.out)
  have W9 : Wt w wn w.heap.size w4.heap.size w2.heap.size w3.heap.size P A0 c0 #[.int .i64 0, .int .i64 0, .int .i64 0, .int .i64 0, .slice none 0 0, .slice A9 n9 c9] F := W8.out
  have HW9 := Lib.hid W9
  have g0 : wn.cell? ⟨w.heap.size, 0, none⟩ = some (.slice A0 (P).n c0) := W9.d.cell 0
  have g1 : wn.cell? ⟨w.heap.size, 1, none⟩ = some (.bool (P).armed) := W9.d.cell 1
  obtain ⟨t0, t1, t2, t3, t4, t5, tf⟩ := six_cells W9.t
  obtain ⟨r0, r1, r2, r3, r4, r5, rf⟩ := six_cells W9.z1
  have q0 : wn.cell? ⟨w3.heap.size, 0, none⟩ = some (.slice none 0 0) := W9.z2.cell 0
  have q1 : wn.cell? ⟨w3.heap.size, 1, none⟩ = some (.bool false) := W9.z2.cell 1
  have qf := W9.z2.frozen
  have m1 := blk_type W9.d W9.t (by decide)
  have m2 := blk_type W9.d W9.z1 (by decide)
  have m3 := W9.n1
  have m4 := W9.n2
  have m5 := blk_type W9.z2 W9.t (by decide)
  have m6 := blk_type W9.z2 W9.z1 (by decide)
  clear W8 W9 TD HC8 HW
  go_region
  all_goals go_wp2_with fail
  all_goals first
    | (have hE := HW9.out.end12 HTD.out 1 rfl
       refine bodyPost_ret (results_row_row rfl _ _ w2.heap.size 36 _ (0, 0) _ w3.heap.size 48 _ (0, 0) _ rfl hE.1 Try.underlying36 rfl (by kernel_rfl) rfl hE.2.1 Try.underlying48 rfl (by kernel_rfl)) rfl ?_
       exact ⟨_, _, _, rfl, hE.2.2.2.1, hE.2.2.1, hE.2.2.2.2⟩)
    | (have hE := HW9.out.end21 HTD.out 1 rfl
       refine bodyPost_ret (results_row_row rfl _ _ w2.heap.size 36 _ (0, 0) _ w3.heap.size 48 _ (0, 0) _ rfl hE.1 Try.underlying36 rfl (by kernel_rfl) rfl hE.2.1 Try.underlying48 rfl (by kernel_rfl)) rfl ?_
       exact ⟨_, _, _, rfl, hE.2.2.2.1, hE.2.2.1, hE.2.2.2.2⟩)
set_option maxHeartbeats 1600000 in
set_option maxRecDepth 100000 in
theorem want_10 {w : World} {A0 : Option Addr} {P : Pd} {F : Nat → Prop} {K L : Nat} {v : Value} {s : Ps} {A : Option Addr} (h : RAt w A0 P F) (hF : ∀ k, F k → k < w.heap.size) (hl : P.lim K) (hs : PsAt w v s A) (hk : K + s.p.length + 1 ≤ L) (hL : L ≤ 4294967296) (c0 : Nat) (h0 : s.k = 10) :
    Calls Try.prog 34 #[rV P A0 c0, v] w (WantTo (P.told s) (P.step s) F w) := by
  obtain ⟨⟨C, m, c, n, d, rfl, hP, hFt⟩, b0, b1⟩ := hs
  obtain ⟨k, i, a, b, p, f⟩ := s
  simp only at h0 hP hFt b0 b1 hk
  subst h0
  have hlen := hP.1
  have ht : P.told ⟨10, i, a, b, p, f⟩ = { Td.no with x := (P.n : Int) } := by simp [Pd.told]
  have hst : P.step ⟨10, i, a, b, p, f⟩ = P := by simp [Pd.step]
  rw [ht, hst]
  clear ht hst
  obtain ⟨w1, hw1⟩ : ∃ w1, w.alloc (.cells #[.slice A0 P.n c0, .bool P.armed] 48) = w1 := ⟨_, rfl⟩
  obtain ⟨w2, hw2⟩ : ∃ w2, w1.alloc (.cells #[.int .i64 10, .int .i64 i, .int .i64 a, .int .i64 b, .slice C m c, .slice A n d] 33) = w2 := ⟨_, rfl⟩
  obtain ⟨w3, hw3⟩ : ∃ w3, w2.alloc (.cells #[.int .i64 0, .int .i64 0, .int .i64 0, .int .i64 0, .slice none 0 0, .slice none 0 0] 36) = w3 := ⟨_, rfl⟩
  obtain ⟨w4, hw4⟩ : ∃ w4, w3.alloc (.cells #[.slice none 0 0, .bool false] 48) = w4 := ⟨_, rfl⟩
  obtain ⟨w5, hw5⟩ : ∃ w5, w4.alloc (.cells #[.int .i64 0, .int .i64 0, .int .i64 0, .int .i64 0, .slice none 0 0, .slice none 0 0] 36) = w5 := ⟨_, rfl⟩
  obtain ⟨W5, S5, y5⟩ := want_pre h hF _ hw1 hw2 hw3 hw4 hw5
  have hF5 : ∀ x, Wf F w w5 w.heap.size w4.heap.size w2.heap.size w3.heap.size x → x < w5.heap.size := by
    rintro x ⟨e | e, _⟩
    · exact Nat.lt_of_lt_of_le (hF x e) y5.size
    · exact e.2
  have hn := hl.n1
  have HW := Lib.hid W5
  have g0 : w5.cell? ⟨w.heap.size, 0, none⟩ = some (.slice A0 P.n c0) := W5.d.cell 0
  have g1 : w5.cell? ⟨w.heap.size, 1, none⟩ = some (.bool P.armed) := W5.d.cell 1
  obtain ⟨s0, s1, s2, s3, s4, s5, sf⟩ := six_cells S5
  clear h hF hl W5 hF5 hP hFt hk
  have n1 := blk_type HW.out.d HW.out.t (by decide)
  obtain ⟨t0, t1, t2, t3, t4, t5, tf⟩ := six_cells HW.out.t
  unfold rV
  go_enter Try.func34, Try.ntmps34
  have W8 := Lib.hid (HW.out.tset 1 (.int .i64 (P.n : Nat)))
  have TD : Hid (∀ wn, Chg (fun x => x = w.heap.size ∨ x = w4.heap.size) w5 wn → TdF (Wf F w wn w.heap.size w4.heap.size w2.heap.size w3.heap.size) wn (.agg #[.int .i64 0, .int .i64 (P.n : Nat), .int .i64 0, .int .i64 0, .slice none 0 0, .slice none 0 0]) { Td.no with x := (P.n : Int) }) := Lib.hid (fun wn hC => TdF.ints _ _ _ _ _ _)
  have HC8 : Hid (Chg (fun x => x = w.heap.size ∨ x = w4.heap.size) w5 (w5.setCell ⟨w4.heap.size, 1, none⟩ (.int .i64 (P.n : Nat)))) := Lib.hid (Chg.set (F := fun x => x = w.heap.size ∨ x = w4.heap.size) (Chg.refl _ _) (.inl (.inr rfl)) _ _)
  go_upto_region 25 with fail
  obtain ⟨wn, hwn⟩ : ∃ wn, (w5.setCell ⟨w4.heap.size, 1, none⟩ (.int .i64 (P.n : Nat))) = wn := ⟨_, rfl⟩
  rw [hwn] at W8 HC8 ⊢
  clear hwn
  have HTD := Lib.hid (TD.out wn HC8.out)
  have W9 : Wt w wn w.heap.size w4.heap.size w2.heap.size w3.heap.size P A0 c0 #[.int .i64 0, .int .i64 (P.n : Nat), .int .i64 0, .int .i64 0, .slice none 0 0, .slice none 0 0] F := W8.out
  have HW9 := Lib.hid W9
  have g0 : wn.cell? ⟨w.heap.size, 0, none⟩ = some (.slice A0 (P).n c0) := W9.d.cell 0
  have g1 : wn.cell? ⟨w.heap.size, 1, none⟩ = some (.bool (P).armed) := W9.d.cell 1
  obtain ⟨t0, t1, t2, t3, t4, t5, tf⟩ := six_cells W9.t
  obtain ⟨r0, r1, r2, r3, r4, r5, rf⟩ := six_cells W9.z1
  have q0 : wn.cell? ⟨w3.heap.size, 0, none⟩ = some (.slice none 0 0) := W9.z2.cell 0
  have q1 : wn.cell? ⟨w3.heap.size, 1, none⟩ = some (.bool false) := W9.z2.cell 1
  have qf := W9.z2.frozen
  have m1 := blk_type W9.d W9.t (by decide)
  have m2 := blk_type W9.d W9.z1 (by decide)
  have m3 := W9.n1
  have m4 := W9.n2
  have m5 := blk_type W9.z2 W9.t (by decide)
  have m6 := blk_type W9.z2 W9.z1 (by decide)
  clear W8 W9 TD HC8 HW
  go_region
  all_goals go_wp2_with fail
  all_goals first
    | (have hE := HW9.out.end12 HTD.out 1 rfl
       refine bodyPost_ret (results_row_row rfl _ _ w2.heap.size 36 _ (0, 0) _ w3.heap.size 48 _ (0, 0) _ rfl hE.1 Try.underlying36 rfl (by kernel_rfl) rfl hE.2.1 Try.underlying48 rfl (by kernel_rfl)) rfl ?_
       exact ⟨_, _, _, rfl, hE.2.2.2.1, hE.2.2.1, hE.2.2.2.2⟩)
    | (have hE := HW9.out.end21 HTD.out 1 rfl
       refine bodyPost_ret (results_row_row rfl _ _ w2.heap.size 36 _ (0, 0) _ w3.heap.size 48 _ (0, 0) _ rfl hE.1 Try.underlying36 rfl (by kernel_rfl) rfl hE.2.1 Try.underlying48 rfl (by kernel_rfl)) rfl ?_
       exact ⟨_, _, _, rfl, hE.2.2.2.1, hE.2.2.1, hE.2.2.2.2⟩)
set_option maxHeartbeats 1600000 in
set_option maxRecDepth 100000 in
theorem want_X {w : World} {A0 : Option Addr} {P : Pd} {F : Nat → Prop} {K L : Nat} {v : Value} {s : Ps} {A : Option Addr} (h : RAt w A0 P F) (hF : ∀ k, F k → k < w.heap.size) (hl : P.lim K) (hs : PsAt w v s A) (hk : K + s.p.length + 1 ≤ L) (hL : L ≤ 4294967296) (c0 : Nat) (h0 : s.k < 0 ∨ 10 < s.k) :
    Calls Try.prog 34 #[rV P A0 c0, v] w (WantTo (P.told s) (P.step s) F w) := by
  obtain ⟨⟨C, m, c, n, d, rfl, hP, hFt⟩, b0, b1⟩ := hs
  obtain ⟨k, i, a, b, p, f⟩ := s
  simp only at h0 hP hFt b0 b1 hk
  have n0 : k ≠ 0 := by omega
  have n1 : k ≠ 1 := by omega
  have n2 : k ≠ 2 := by omega
  have n3 : k ≠ 3 := by omega
  have n4 : k ≠ 4 := by omega
  have n5 : k ≠ 5 := by omega
  have n6 : k ≠ 6 := by omega
  have n7 : k ≠ 7 := by omega
  have n8 : k ≠ 8 := by omega
  have n9 : k ≠ 9 := by omega
  have n10 : k ≠ 10 := by omega
  have hlen := hP.1
  have ht : P.told ⟨k, i, a, b, p, f⟩ = Td.no := by simp [Pd.told, n0, n1, n2, n3, n4, n5, n6, n7, n8, n9, n10]
  have hst : P.step ⟨k, i, a, b, p, f⟩ = P := by simp [Pd.step, n0, n1, n2, n3, n4, n5, n6, n7, n8, n9, n10]
  rw [ht, hst]
  clear ht hst
  obtain ⟨w1, hw1⟩ : ∃ w1, w.alloc (.cells #[.slice A0 P.n c0, .bool P.armed] 48) = w1 := ⟨_, rfl⟩
  obtain ⟨w2, hw2⟩ : ∃ w2, w1.alloc (.cells #[.int .i64 k, .int .i64 i, .int .i64 a, .int .i64 b, .slice C m c, .slice A n d] 33) = w2 := ⟨_, rfl⟩
  obtain ⟨w3, hw3⟩ : ∃ w3, w2.alloc (.cells #[.int .i64 0, .int .i64 0, .int .i64 0, .int .i64 0, .slice none 0 0, .slice none 0 0] 36) = w3 := ⟨_, rfl⟩
  obtain ⟨w4, hw4⟩ : ∃ w4, w3.alloc (.cells #[.slice none 0 0, .bool false] 48) = w4 := ⟨_, rfl⟩
  obtain ⟨w5, hw5⟩ : ∃ w5, w4.alloc (.cells #[.int .i64 0, .int .i64 0, .int .i64 0, .int .i64 0, .slice none 0 0, .slice none 0 0] 36) = w5 := ⟨_, rfl⟩
  obtain ⟨W5, S5, y5⟩ := want_pre h hF _ hw1 hw2 hw3 hw4 hw5
  have hF5 : ∀ x, Wf F w w5 w.heap.size w4.heap.size w2.heap.size w3.heap.size x → x < w5.heap.size := by
    rintro x ⟨e | e, _⟩
    · exact Nat.lt_of_lt_of_le (hF x e) y5.size
    · exact e.2
  have hn := hl.n1
  have HW := Lib.hid W5
  have g0 : w5.cell? ⟨w.heap.size, 0, none⟩ = some (.slice A0 P.n c0) := W5.d.cell 0
  have g1 : w5.cell? ⟨w.heap.size, 1, none⟩ = some (.bool P.armed) := W5.d.cell 1
  obtain ⟨s0, s1, s2, s3, s4, s5, sf⟩ := six_cells S5
  clear h hF hl W5 hF5 hP hFt hk
  have n1 := blk_type HW.out.d HW.out.t (by decide)
  obtain ⟨t0, t1, t2, t3, t4, t5, tf⟩ := six_cells HW.out.t
  unfold rV
  go_enter Try.func34, Try.ntmps34
  have W8 := Lib.hid (HW.out)
  have TD : Hid (∀ wn, Chg (fun x => x = w.heap.size ∨ x = w4.heap.size) w5 wn → TdF (Wf F w wn w.heap.size w4.heap.size w2.heap.size w3.heap.size) wn (.agg #[.int .i64 0, .int .i64 0, .int .i64 0, .int .i64 0, .slice none 0 0, .slice none 0 0]) Td.no) := Lib.hid (fun wn hC => TdF.ints _ _ _ _ _ _)
  have HC8 : Hid (Chg (fun x => x = w.heap.size ∨ x = w4.heap.size) w5 w5) := Lib.hid (Chg.refl _ _)
  go_upto_region 25 with fail
  obtain ⟨wn, hwn⟩ : ∃ wn, w5 = wn := ⟨_, rfl⟩
  have HC9 : Hid (Chg (fun x => x = w.heap.size ∨ x = w4.heap.size) w5 wn) := Lib.hid (hwn ▸ Chg.refl _ _)
  rw [hwn] at W8 ⊢
  clear hwn
  have HTD := Lib.hid (TD.out wn HC9.out)
  have W9 : Wt w wn w.heap.size w4.heap.size w2.heap.size w3.heap.size P A0 c0 #[.int .i64 0, .int .i64 0, .int .i64 0, .int .i64 0, .slice none 0 0, .slice none 0 0] F := W8.out
  have HW9 := Lib.hid W9
  have g0 : wn.cell? ⟨w.heap.size, 0, none⟩ = some (.slice A0 (P).n c0) := W9.d.cell 0
  have g1 : wn.cell? ⟨w.heap.size, 1, none⟩ = some (.bool (P).armed) := W9.d.cell 1
  obtain ⟨t0, t1, t2, t3, t4, t5, tf⟩ := six_cells W9.t
  obtain ⟨r0, r1, r2, r3, r4, r5, rf⟩ := six_cells W9.z1
  have q0 : wn.cell? ⟨w3.heap.size, 0, none⟩ = some (.slice none 0 0) := W9.z2.cell 0
  have q1 : wn.cell? ⟨w3.heap.size, 1, none⟩ = some (.bool false) := W9.z2.cell 1
  have qf := W9.z2.frozen
  have m1 := blk_type W9.d W9.t (by decide)
  have m2 := blk_type W9.d W9.z1 (by decide)
  have m3 := W9.n1
  have m4 := W9.n2
  have m5 := blk_type W9.z2 W9.t (by decide)
  have m6 := blk_type W9.z2 W9.z1 (by decide)
  clear W8 W9 TD HC8 HC9 HW
  go_region
  all_goals go_wp2_with fail
  all_goals first
    | (have hE := HW9.out.end12 HTD.out 1 rfl
       refine bodyPost_ret (results_row_row rfl _ _ w2.heap.size 36 _ (0, 0) _ w3.heap.size 48 _ (0, 0) _ rfl hE.1 Try.underlying36 rfl (by kernel_rfl) rfl hE.2.1 Try.underlying48 rfl (by kernel_rfl)) rfl ?_
       exact ⟨_, _, _, rfl, hE.2.2.2.1, hE.2.2.1, hE.2.2.2.2⟩)
    | (have hE := HW9.out.end21 HTD.out 1 rfl
       refine bodyPost_ret (results_row_row rfl _ _ w2.heap.size 36 _ (0, 0) _ w3.heap.size 48 _ (0, 0) _ rfl hE.1 Try.underlying36 rfl (by kernel_rfl) rfl hE.2.1 Try.underlying48 rfl (by kernel_rfl)) rfl ?_
       exact ⟨_, _, _, rfl, hE.2.2.2.1, hE.2.2.1, hE.2.2.2.2⟩)
end Go.Proofs.Ytodaplkijdjbpaa
