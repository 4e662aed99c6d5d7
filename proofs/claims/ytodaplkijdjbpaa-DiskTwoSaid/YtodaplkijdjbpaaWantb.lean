/- What the document answers to a step, of each kind. (printed by wip/gen_want.py) -/
import Derived.Test.YtodaplkijdjbpaaWant0
namespace Go.Proofs.Ytodaplkijdjbpaa
open Go.RowKit
set_option linter.unusedVariables false
set_option linter.unusedSimpArgs false
theorem ref_read_len {P : Pd} {K : Nat} (h : P.lim K) (i a b : Int) : (P.read i a b).1.length ≤ 140737488355328 + K := by
  unfold Pd.read
  split
  · simp
  · rename_i hi
    split
    · simp
    · have := (h.a i.toNat (by omega)).n
      simp only [List.length_take, List.length_drop]
      omega
set_option maxHeartbeats 1600000 in
set_option maxRecDepth 100000 in
theorem want_4 {w : World} {A0 : Option Addr} {P : Pd} {F : Nat → Prop} {K L : Nat} {v : Value} {s : Ps} {A : Option Addr} (h : RAt w A0 P F) (hF : ∀ k, F k → k < w.heap.size) (hl : P.lim K) (hs : PsAt w v s A) (hk : K + s.p.length + 1 ≤ L) (hL : L ≤ 4294967296) (c0 : Nat) (h0 : s.k = 4) :
    Calls Try.prog 34 #[rV P A0 c0, v] w (WantTo (P.told s) (P.step s) F w) := by
  obtain ⟨⟨C, m, c, n, d, rfl, hP, hFt⟩, b0, b1⟩ := hs
  obtain ⟨k, i, a, b, p, f⟩ := s
  simp only at h0 hP hFt b0 b1 hk
  subst h0
  have hlen := hP.1
  have ht : P.told ⟨4, i, a, b, p, f⟩ = { Td.no with e := (P.read i a b).2, p := (P.read i a b).1 } := by simp [Pd.told]
  have hst : P.step ⟨4, i, a, b, p, f⟩ = P := by simp [Pd.step]
  rw [ht, hst]
  clear ht hst
  obtain ⟨w1, hw1⟩ : ∃ w1, w.alloc (.cells #[.slice A0 P.n c0, .bool P.armed] 48) = w1 := ⟨_, rfl⟩
  obtain ⟨w2, hw2⟩ : ∃ w2, w1.alloc (.cells #[.int .i64 4, .int .i64 i, .int .i64 a, .int .i64 b, .slice C m c, .slice A n d] 33) = w2 := ⟨_, rfl⟩
  obtain ⟨w3, hw3⟩ : ∃ w3, w2.alloc (.cells #[.int .i64 0, .int .i64 0, .int .i64 0, .int .i64 0, .slice none 0 0, .slice none 0 0] 36) = w3 := ⟨_, rfl⟩
  obtain ⟨w4, hw4⟩ : ∃ w4, w3.alloc (.cells #[.slice none 0 0, .bool false] 48) = w4 := ⟨_, rfl⟩
  obtain ⟨w5, hw5⟩ : ∃ w5, w4.alloc (.cells #[.int .i64 0, .int .i64 0, .int .i64 0, .int .i64 0, .slice none 0 0, .slice none 0 0] 36) = w5 := ⟨_, rfl⟩
  obtain ⟨W5, S5, y5⟩ := want_pre h hF _ hw1 hw2 hw3 hw4 hw5
  have hF5 : ∀ x, Wf F w w5 w.heap.size w4.heap.size w2.heap.size w3.heap.size x → x < w5.heap.size := by
    rintro x ⟨e | e, _⟩
    · exact Nat.lt_of_lt_of_le (hF x e) y5.size
    · exact e.2
  have hn := hl.n1
  have HM := Lib.hid (refRead_any W5.ra hl (by omega) c0 i a b b0 b1)
  have HRL : Hid ((P.read i a b).1.length ≤ 281474976710656) := Lib.hid (by have := ref_read_len hl i a b; omega)
  have HW := Lib.hid W5
  have g0 : w5.cell? ⟨w.heap.size, 0, none⟩ = some (.slice A0 P.n c0) := W5.d.cell 0
  have g1 : w5.cell? ⟨w.heap.size, 1, none⟩ = some (.bool P.armed) := W5.d.cell 1
  obtain ⟨s0, s1, s2, s3, s4, s5, sf⟩ := six_cells S5
  clear h hF hl W5 hF5 hP hFt hk
  unfold rV
  go_enter Try.func34, Try.ntmps34
  go_wp2_with fail
  refine HM.out.mono ?_
  rintro e wm ⟨A4, c4, rfl, ho, hb⟩
  clear g0 g1 s0 s1 s2 s3 s4 s5 sf
  have WM := HW.out.below hb
  have g0 : wm.cell? ⟨w.heap.size, 0, none⟩ = some (.slice A0 P.n c0) := WM.d.cell 0
  have g1 : wm.cell? ⟨w.heap.size, 1, none⟩ = some (.bool P.armed) := WM.d.cell 1
  have gf := WM.d.frozen
  obtain ⟨t0, t1, t2, t3, t4, t5, tf⟩ := six_cells WM.t
  have n1 := blk_type WM.d WM.t (by decide)
  have W8 := Lib.hid (((HW.out.below hb).tset 4 (.slice A4 (P.read i a b).1.length c4)).tset 0 (.int .i64 (P.read i a b).2))
  have TD : Hid (∀ wn, Chg (fun x => x = w.heap.size ∨ x = w4.heap.size) wm wn → TdF (Wf F w wn w.heap.size w4.heap.size w2.heap.size w3.heap.size) wn (.agg #[.int .i64 (P.read i a b).2, .int .i64 0, .int .i64 0, .int .i64 0, .slice A4 (P.read i a b).1.length c4, .slice none 0 0]) { Td.no with e := (P.read i a b).2, p := (P.read i a b).1 }) := Lib.hid (fun wn hC => by
    have hO : TdF (Wf F w wm w.heap.size w4.heap.size w2.heap.size w3.heap.size) wm (.agg #[.int .i64 (P.read i a b).2, .int .i64 0, .int .i64 0, .int .i64 0, .slice A4 (P.read i a b).1.length c4, .slice none 0 0]) { Td.no with e := (P.read i a b).2, p := (P.read i a b).1 } := ⟨A4, _, c4, none, 0, 0, rfl, ⟨own_bytes' ho HRL.out, fun _ x e => HW.out.new hb x (.inr (ho.lt x (by rw [ownBlock_slice]; exact e)))⟩, SpF.nil _ _ _⟩
    exact (hO.chg (hC.mono (fun x e e2 => by rcases e with e | e; exact e2.2.1 e; exact e2.2.2.1 e))).mono (Wf.low hC.size))
  have HC8 : Hid (Chg (fun x => x = w.heap.size ∨ x = w4.heap.size) wm ((wm.setCell ⟨w4.heap.size, 4, none⟩ (.slice A4 (P.read i a b).1.length c4)).setCell ⟨w4.heap.size, 0, none⟩ (.int .i64 (P.read i a b).2))) := Lib.hid (Chg.set (F := fun x => x = w.heap.size ∨ x = w4.heap.size) (Chg.set (F := fun x => x = w.heap.size ∨ x = w4.heap.size) (Chg.refl _ _) (.inl (.inr rfl)) _ _) (.inl (.inr rfl)) _ _)
  clear WM hb HM
  go_upto_region 25 with fail
  obtain ⟨wn, hwn⟩ : ∃ wn, ((wm.setCell ⟨w4.heap.size, 4, none⟩ (.slice A4 (P.read i a b).1.length c4)).setCell ⟨w4.heap.size, 0, none⟩ (.int .i64 (P.read i a b).2)) = wn := ⟨_, rfl⟩
  rw [hwn] at W8 HC8 ⊢
  clear hwn
  have HTD := Lib.hid (TD.out wn HC8.out)
  have W9 : Wt w wn w.heap.size w4.heap.size w2.heap.size w3.heap.size P A0 c0 #[.int .i64 (P.read i a b).2, .int .i64 0, .int .i64 0, .int .i64 0, .slice A4 (P.read i a b).1.length c4, .slice none 0 0] F := W8.out
  have HW9 := Lib.hid W9
  have g0 : wn.cell? ⟨w.heap.size, 0, none⟩ = some (.slice A0 (P).n c0) := W9.d.cell 0
  have g1 : wn.cell? ⟨w.heap.size, 1, none⟩ = some (.bool (P).armed) := W9.d.cell 1
  obtain ⟨t0, t1, t2, t3, t4, t5, tf⟩ := six_cells W9.t
  obtain ⟨r0, r1, r2, r3, r4, r5, rf⟩ := six_cells W9.z1
  have q0 : wn.cell? ⟨w3.heap.size, 0, none⟩ = some (.slice none 0 0) := W9.z2.cell 0
  have q1 : wn.cell? ⟨w3.heap.size, 1, none⟩ = some (.bool false) := W9.z2.cell 1
  have qf := W9.z2.frozen
  have m1 := blk_type W9.d W9.t (by decide)
  have m2 := blk_type W9.d W9.z1 (by decide)
  have m3 := W9.n1
  have m4 := W9.n2
  have m5 := blk_type W9.z2 W9.t (by decide)
  have m6 := blk_type W9.z2 W9.z1 (by decide)
  clear W8 W9 TD HC8 HW
  go_region
  all_goals go_wp2_with fail
  all_goals first
    | (have hE := HW9.out.end12 HTD.out 1 rfl
       refine bodyPost_ret (results_row_row rfl _ _ w2.heap.size 36 _ (0, 0) _ w3.heap.size 48 _ (0, 0) _ rfl hE.1 Try.underlying36 rfl (by kernel_rfl) rfl hE.2.1 Try.underlying48 rfl (by kernel_rfl)) rfl ?_
       exact ⟨_, _, _, rfl, hE.2.2.2.1, hE.2.2.1, hE.2.2.2.2⟩)
    | (have hE := HW9.out.end21 HTD.out 1 rfl
       refine bodyPost_ret (results_row_row rfl _ _ w2.heap.size 36 _ (0, 0) _ w3.heap.size 48 _ (0, 0) _ rfl hE.1 Try.underlying36 rfl (by kernel_rfl) rfl hE.2.1 Try.underlying48 rfl (by kernel_rfl)) rfl ?_
       exact ⟨_, _, _, rfl, hE.2.2.2.1, hE.2.2.1, hE.2.2.2.2⟩)
set_option maxHeartbeats 1600000 in
set_option maxRecDepth 100000 in
theorem want_5 {w : World} {A0 : Option Addr} {P : Pd} {F : Nat → Prop} {K L : Nat} {v : Value} {s : Ps} {A : Option Addr} (h : RAt w A0 P F) (hF : ∀ k, F k → k < w.heap.size) (hl : P.lim K) (hs : PsAt w v s A) (hk : K + s.p.length + 1 ≤ L) (hL : L ≤ 4294967296) (c0 : Nat) (h0 : s.k = 5) :
    Calls Try.prog 34 #[rV P A0 c0, v] w (WantTo (P.told s) (P.step s) F w) := by
  obtain ⟨⟨C, m, c, n, d, rfl, hP, hFt⟩, b0, b1⟩ := hs
  obtain ⟨k, i, a, b, p, f⟩ := s
  simp only at h0 hP hFt b0 b1 hk
  subst h0
  have hlen := hP.1
  have ht : P.told ⟨5, i, a, b, p, f⟩ = ⟨(P.bounds i).2.2.2, (P.bounds i).1, (P.bounds i).2.1, (P.bounds i).2.2.1, [], []⟩ := by simp [Pd.told]
  have hst : P.step ⟨5, i, a, b, p, f⟩ = P := by simp [Pd.step]
  rw [ht, hst]
  clear ht hst
  obtain ⟨w1, hw1⟩ : ∃ w1, w.alloc (.cells #[.slice A0 P.n c0, .bool P.armed] 48) = w1 := ⟨_, rfl⟩
  obtain ⟨w2, hw2⟩ : ∃ w2, w1.alloc (.cells #[.int .i64 5, .int .i64 i, .int .i64 a, .int .i64 b, .slice C m c, .slice A n d] 33) = w2 := ⟨_, rfl⟩
  obtain ⟨w3, hw3⟩ : ∃ w3, w2.alloc (.cells #[.int .i64 0, .int .i64 0, .int .i64 0, .int .i64 0, .slice none 0 0, .slice none 0 0] 36) = w3 := ⟨_, rfl⟩
  obtain ⟨w4, hw4⟩ : ∃ w4, w3.alloc (.cells #[.slice none 0 0, .bool false] 48) = w4 := ⟨_, rfl⟩
  obtain ⟨w5, hw5⟩ : ∃ w5, w4.alloc (.cells #[.int .i64 0, .int .i64 0, .int .i64 0, .int .i64 0, .slice none 0 0, .slice none 0 0] 36) = w5 := ⟨_, rfl⟩
  obtain ⟨W5, S5, y5⟩ := want_pre h hF _ hw1 hw2 hw3 hw4 hw5
  have hF5 : ∀ x, Wf F w w5 w.heap.size w4.heap.size w2.heap.size w3.heap.size x → x < w5.heap.size := by
    rintro x ⟨e | e, _⟩
    · exact Nat.lt_of_lt_of_le (hF x e) y5.size
    · exact e.2
  have hn := hl.n1
  have HM := Lib.hid (refBounds_any W5.ra hl (by omega) c0 i)
  have HW := Lib.hid W5
  have g0 : w5.cell? ⟨w.heap.size, 0, none⟩ = some (.slice A0 P.n c0) := W5.d.cell 0
  have g1 : w5.cell? ⟨w.heap.size, 1, none⟩ = some (.bool P.armed) := W5.d.cell 1
  obtain ⟨s0, s1, s2, s3, s4, s5, sf⟩ := six_cells S5
  clear h hF hl W5 hF5 hP hFt hk
  unfold rV
  go_enter Try.func34, Try.ntmps34
  go_wp2_with fail
  refine HM.out.mono ?_
  rintro e wm ⟨rfl, hb⟩
  clear g0 g1 s0 s1 s2 s3 s4 s5 sf
  have WM := HW.out.below hb
  have g0 : wm.cell? ⟨w.heap.size, 0, none⟩ = some (.slice A0 P.n c0) := WM.d.cell 0
  have g1 : wm.cell? ⟨w.heap.size, 1, none⟩ = some (.bool P.armed) := WM.d.cell 1
  have gf := WM.d.frozen
  obtain ⟨t0, t1, t2, t3, t4, t5, tf⟩ := six_cells WM.t
  have n1 := blk_type WM.d WM.t (by decide)
  have W8 := Lib.hid (((((HW.out.below hb).tset 1 (.int .i64 (P.bounds i).1)).tset 2 (.int .i64 (P.bounds i).2.1)).tset 3 (.int .i64 (P.bounds i).2.2.1)).tset 0 (.int .i64 (P.bounds i).2.2.2))
  have TD : Hid (∀ wn, Chg (fun x => x = w.heap.size ∨ x = w4.heap.size) wm wn → TdF (Wf F w wn w.heap.size w4.heap.size w2.heap.size w3.heap.size) wn (.agg #[.int .i64 (P.bounds i).2.2.2, .int .i64 (P.bounds i).1, .int .i64 (P.bounds i).2.1, .int .i64 (P.bounds i).2.2.1, .slice none 0 0, .slice none 0 0]) ⟨(P.bounds i).2.2.2, (P.bounds i).1, (P.bounds i).2.1, (P.bounds i).2.2.1, [], []⟩) := Lib.hid (fun wn hC => TdF.ints _ _ _ _ _ _)
  have HC8 : Hid (Chg (fun x => x = w.heap.size ∨ x = w4.heap.size) wm ((((wm.setCell ⟨w4.heap.size, 1, none⟩ (.int .i64 (P.bounds i).1)).setCell ⟨w4.heap.size, 2, none⟩ (.int .i64 (P.bounds i).2.1)).setCell ⟨w4.heap.size, 3, none⟩ (.int .i64 (P.bounds i).2.2.1)).setCell ⟨w4.heap.size, 0, none⟩ (.int .i64 (P.bounds i).2.2.2))) := Lib.hid (Chg.set (F := fun x => x = w.heap.size ∨ x = w4.heap.size) (Chg.set (F := fun x => x = w.heap.size ∨ x = w4.heap.size) (Chg.set (F := fun x => x = w.heap.size ∨ x = w4.heap.size) (Chg.set (F := fun x => x = w.heap.size ∨ x = w4.heap.size) (Chg.refl _ _) (.inl (.inr rfl)) _ _) (.inl (.inr rfl)) _ _) (.inl (.inr rfl)) _ _) (.inl (.inr rfl)) _ _)
  clear WM hb HM
  go_upto_region 25 with fail
  obtain ⟨wn, hwn⟩ : ∃ wn, ((((wm.setCell ⟨w4.heap.size, 1, none⟩ (.int .i64 (P.bounds i).1)).setCell ⟨w4.heap.size, 2, none⟩ (.int .i64 (P.bounds i).2.1)).setCell ⟨w4.heap.size, 3, none⟩ (.int .i64 (P.bounds i).2.2.1)).setCell ⟨w4.heap.size, 0, none⟩ (.int .i64 (P.bounds i).2.2.2)) = wn := ⟨_, rfl⟩
  rw [hwn] at W8 HC8 ⊢
  clear hwn
  have HTD := Lib.hid (TD.out wn HC8.out)
  have W9 : Wt w wn w.heap.size w4.heap.size w2.heap.size w3.heap.size P A0 c0 #[.int .i64 (P.bounds i).2.2.2, .int .i64 (P.bounds i).1, .int .i64 (P.bounds i).2.1, .int .i64 (P.bounds i).2.2.1, .slice none 0 0, .slice none 0 0] F := W8.out
  have HW9 := Lib.hid W9
  have g0 : wn.cell? ⟨w.heap.size, 0, none⟩ = some (.slice A0 (P).n c0) := W9.d.cell 0
  have g1 : wn.cell? ⟨w.heap.size, 1, none⟩ = some (.bool (P).armed) := W9.d.cell 1
  obtain ⟨t0, t1, t2, t3, t4, t5, tf⟩ := six_cells W9.t
  obtain ⟨r0, r1, r2, r3, r4, r5, rf⟩ := six_cells W9.z1
  have q0 : wn.cell? ⟨w3.heap.size, 0, none⟩ = some (.slice none 0 0) := W9.z2.cell 0
  have q1 : wn.cell? ⟨w3.heap.size, 1, none⟩ = some (.bool false) := W9.z2.cell 1
  have qf := W9.z2.frozen
  have m1 := blk_type W9.d W9.t (by decide)
  have m2 := blk_type W9.d W9.z1 (by decide)
  have m3 := W9.n1
  have m4 := W9.n2
  have m5 := blk_type W9.z2 W9.t (by decide)
  have m6 := blk_type W9.z2 W9.z1 (by decide)
  clear W8 W9 TD HC8 HW
  go_region
  all_goals go_wp2_with fail
  all_goals first
    | (have hE := HW9.out.end12 HTD.out 1 rfl
       refine bodyPost_ret (results_row_row rfl _ _ w2.heap.size 36 _ (0, 0) _ w3.heap.size 48 _ (0, 0) _ rfl hE.1 Try.underlying36 rfl (by kernel_rfl) rfl hE.2.1 Try.underlying48 rfl (by kernel_rfl)) rfl ?_
       exact ⟨_, _, _, rfl, hE.2.2.2.1, hE.2.2.1, hE.2.2.2.2⟩)
    | (have hE := HW9.out.end21 HTD.out 1 rfl
       refine bodyPost_ret (results_row_row rfl _ _ w2.heap.size 36 _ (0, 0) _ w3.heap.size 48 _ (0, 0) _ rfl hE.1 Try.underlying36 rfl (by kernel_rfl) rfl hE.2.1 Try.underlying48 rfl (by kernel_rfl)) rfl ?_
       exact ⟨_, _, _, rfl, hE.2.2.2.1, hE.2.2.1, hE.2.2.2.2⟩)
set_option maxHeartbeats 1600000 in
set_option maxRecDepth 100000 in
theorem want_6 {w : World} {A0 : Option Addr} {P : Pd} {F : Nat → Prop} {K L : Nat} {v : Value} {s : Ps} {A : Option Addr} (h : RAt w A0 P F) (hF : ∀ k, F k → k < w.heap.size) (hl : P.lim K) (hs : PsAt w v s A) (hk : K + s.p.length + 1 ≤ L) (hL : L ≤ 4294967296) (c0 : Nat) (h0 : s.k = 6) :
    Calls Try.prog 34 #[rV P A0 c0, v] w (WantTo (P.told s) (P.step s) F w) := by
  obtain ⟨⟨C, m, c, n, d, rfl, hP, hFt⟩, b0, b1⟩ := hs
  obtain ⟨k, i, a, b, p, f⟩ := s
  simp only at h0 hP hFt b0 b1 hk
  subst h0
  have hlen := hP.1
  have ht : P.told ⟨6, i, a, b, p, f⟩ = { Td.no with x := P.dones i } := by simp [Pd.told]
  have hst : P.step ⟨6, i, a, b, p, f⟩ = P := by simp [Pd.step]
  rw [ht, hst]
  clear ht hst
  obtain ⟨w1, hw1⟩ : ∃ w1, w.alloc (.cells #[.slice A0 P.n c0, .bool P.armed] 48) = w1 := ⟨_, rfl⟩
  obtain ⟨w2, hw2⟩ : ∃ w2, w1.alloc (.cells #[.int .i64 6, .int .i64 i, .int .i64 a, .int .i64 b, .slice C m c, .slice A n d] 33) = w2 := ⟨_, rfl⟩
  obtain ⟨w3, hw3⟩ : ∃ w3, w2.alloc (.cells #[.int .i64 0, .int .i64 0, .int .i64 0, .int .i64 0, .slice none 0 0, .slice none 0 0] 36) = w3 := ⟨_, rfl⟩
  obtain ⟨w4, hw4⟩ : ∃ w4, w3.alloc (.cells #[.slice none 0 0, .bool false] 48) = w4 := ⟨_, rfl⟩
  obtain ⟨w5, hw5⟩ : ∃ w5, w4.alloc (.cells #[.int .i64 0, .int .i64 0, .int .i64 0, .int .i64 0, .slice none 0 0, .slice none 0 0] 36) = w5 := ⟨_, rfl⟩
  obtain ⟨W5, S5, y5⟩ := want_pre h hF _ hw1 hw2 hw3 hw4 hw5
  have hF5 : ∀ x, Wf F w w5 w.heap.size w4.heap.size w2.heap.size w3.heap.size x → x < w5.heap.size := by
    rintro x ⟨e | e, _⟩
    · exact Nat.lt_of_lt_of_le (hF x e) y5.size
    · exact e.2
  have hn := hl.n1
  have HM := Lib.hid (refDone_any W5.ra hn c0 i)
  have HW := Lib.hid W5
  have g0 : w5.cell? ⟨w.heap.size, 0, none⟩ = some (.slice A0 P.n c0) := W5.d.cell 0
  have g1 : w5.cell? ⟨w.heap.size, 1, none⟩ = some (.bool P.armed) := W5.d.cell 1
  obtain ⟨s0, s1, s2, s3, s4, s5, sf⟩ := six_cells S5
  clear h hF hl W5 hF5 hP hFt hk
  unfold rV
  go_enter Try.func34, Try.ntmps34
  go_wp2_with fail
  refine HM.out.mono ?_
  rintro e wm ⟨rfl, hb⟩
  clear g0 g1 s0 s1 s2 s3 s4 s5 sf
  have WM := HW.out.below hb
  have g0 : wm.cell? ⟨w.heap.size, 0, none⟩ = some (.slice A0 P.n c0) := WM.d.cell 0
  have g1 : wm.cell? ⟨w.heap.size, 1, none⟩ = some (.bool P.armed) := WM.d.cell 1
  have gf := WM.d.frozen
  obtain ⟨t0, t1, t2, t3, t4, t5, tf⟩ := six_cells WM.t
  have n1 := blk_type WM.d WM.t (by decide)
  have W8 := Lib.hid ((HW.out.below hb).tset 1 (.int .i64 (P.dones i)))
  have TD : Hid (∀ wn, Chg (fun x => x = w.heap.size ∨ x = w4.heap.size) wm wn → TdF (Wf F w wn w.heap.size w4.heap.size w2.heap.size w3.heap.size) wn (.agg #[.int .i64 0, .int .i64 (P.dones i), .int .i64 0, .int .i64 0, .slice none 0 0, .slice none 0 0]) { Td.no with x := P.dones i }) := Lib.hid (fun wn hC => TdF.ints _ _ _ _ _ _)
  have HC8 : Hid (Chg (fun x => x = w.heap.size ∨ x = w4.heap.size) wm (wm.setCell ⟨w4.heap.size, 1, none⟩ (.int .i64 (P.dones i)))) := Lib.hid (Chg.set (F := fun x => x = w.heap.size ∨ x = w4.heap.size) (Chg.refl _ _) (.inl (.inr rfl)) _ _)
  clear WM hb HM
  go_upto_region 25 with fail
  obtain ⟨wn, hwn⟩ : ∃ wn, (wm.setCell ⟨w4.heap.size, 1, none⟩ (.int .i64 (P.dones i))) = wn := ⟨_, rfl⟩
  rw [hwn] at W8 HC8 ⊢
  clear hwn
  have HTD := Lib.hid (TD.out wn HC8.out)
  have W9 : Wt w wn w.heap.size w4.heap.size w2.heap.size w3.heap.size P A0 c0 #[.int .i64 0, .int .i64 (P.dones i), .int .i64 0, .int .i64 0, .slice none 0 0, .slice none 0 0] F := W8.out
  have HW9 := Lib.hid W9
  have g0 : wn.cell? ⟨w.heap.size, 0, none⟩ = some (.slice A0 (P).n c0) := W9.d.cell 0
  have g1 : wn.cell? ⟨w.heap.size, 1, none⟩ = some (.bool (P).armed) := W9.d.cell 1
  obtain ⟨t0, t1, t2, t3, t4, t5, tf⟩ := six_cells W9.t
  obtain ⟨r0, r1, r2, r3, r4, r5, rf⟩ := six_cells W9.z1
  have q0 : wn.cell? ⟨w3.heap.size, 0, none⟩ = some (.slice none 0 0) := W9.z2.cell 0
  have q1 : wn.cell? ⟨w3.heap.size, 1, none⟩ = some (.bool false) := W9.z2.cell 1
  have qf := W9.z2.frozen
  have m1 := blk_type W9.d W9.t (by decide)
  have m2 := blk_type W9.d W9.z1 (by decide)
  have m3 := W9.n1
  have m4 := W9.n2
  have m5 := blk_type W9.z2 W9.t (by decide)
  have m6 := blk_type W9.z2 W9.z1 (by decide)
  clear W8 W9 TD HC8 HW
  go_region
  all_goals go_wp2_with fail
  all_goals first
    | (have hE := HW9.out.end12 HTD.out 1 rfl
       refine bodyPost_ret (results_row_row rfl _ _ w2.heap.size 36 _ (0, 0) _ w3.heap.size 48 _ (0, 0) _ rfl hE.1 Try.underlying36 rfl (by kernel_rfl) rfl hE.2.1 Try.underlying48 rfl (by kernel_rfl)) rfl ?_
       exact ⟨_, _, _, rfl, hE.2.2.2.1, hE.2.2.1, hE.2.2.2.2⟩)
    | (have hE := HW9.out.end21 HTD.out 1 rfl
       refine bodyPost_ret (results_row_row rfl _ _ w2.heap.size 36 _ (0, 0) _ w3.heap.size 48 _ (0, 0) _ rfl hE.1 Try.underlying36 rfl (by kernel_rfl) rfl hE.2.1 Try.underlying48 rfl (by kernel_rfl)) rfl ?_
       exact ⟨_, _, _, rfl, hE.2.2.2.1, hE.2.2.1, hE.2.2.2.2⟩)
end Go.Proofs.Ytodaplkijdjbpaa
