/- The law package's call, of each other kind of step, and whole. -/
import Derived.Test.YtodaplkijdjbpaaCall0
namespace Go.Proofs.Ytodaplkijdjbpaa
open Go.RowKit
set_option linter.unusedVariables false
set_option linter.unusedSimpArgs false
set_option maxHeartbeats 1600000 in
set_option maxRecDepth 100000 in
theorem call_1 {w : World} {G pb K L : Nat} {ls : Nat → Loc} {P : Pd} {v : Value} {s : Ps} {A : Option Addr} (h : DAt w G pb ls P K) (hs : PsAt w v s A) (hA : s.f ≠ [] → ∀ k, blkO A = some k → k ≠ G ∧ k ≠ pb) (hk : K + s.p.length + 1 ≤ L) (hL : L ≤ 4294967296) (h0 : s.k = 1) :
    Calls Try.prog 16 #[.pointer (some ⟨G, 0, none⟩), v] w (CallTo w G pb ls P L s) := by
  obtain ⟨⟨C, m, c, n, d, rfl, hP, hF⟩, b0, b1⟩ := hs
  obtain ⟨k, i, a, b, p, f⟩ := s
  simp only at h0 hP hF b0 b1 hk
  subst h0
  have hlen := hP.1
  have ht : P.told ⟨1, i, a, b, p, f⟩ = { Td.no with e := (P.op i Pa.sync).2 } := by simp [Pd.told]
  have hst : P.step ⟨1, i, a, b, p, f⟩ = (P.op i Pa.sync).1 := by simp [Pd.step]
  have HT := Lib.hid (And.intro ht hst)
  obtain ⟨xz, k2, k3⟩ := call_pre w #[.int .i64 1, .int .i64 i, .int .i64 a, .int .i64 b, .slice C m c, .slice A n d]
  have hD := h.below xz
  have HM := Lib.hid (diskSync_any hD i  (by omega) hL)
  have HX := Lib.hid xz
  have HD := Lib.hid hD
  have HK := Lib.hid (And.intro k2 k3)
  clear k2 k3 hD xz ht hst
  go_enter Try.func16, Try.ntmps16
  go_wp2_with fail
  refine HM.out.mono ?_
  rintro e wm ⟨rfl, hT⟩
  have q2 := hT.blk HD.out HK.out.1 (by decide) (by decide) (by decide) (by decide)
  have q3 := hT.blk HD.out HK.out.2 (by decide) (by decide) (by decide) (by decide)
  obtain ⟨u0, u1, u2, u3, u4, u5, uf⟩ := six_cells q2
  obtain ⟨t0, t1, t2, t3, t4, t5, tf⟩ := six_cells q3
  have hne : w.heap.size + 1 ≠ w.heap.size + 1 + 1 := by omega
  go_wp2_with fail
  have hc : Chg (fun q => q = w.heap.size + 1 + 1) wm (wm.setCell ⟨w.heap.size + 1 + 1, 0, none⟩ (.int .i64 (P.op i Pa.sync).2)) := Chg.set (F := fun q => q = w.heap.size + 1 + 1) (Chg.refl _ _) (.inl rfl) _ _
  refine bodyPost_ret (results_row1 rfl _ _ (w.heap.size + 1) 36 _ (0, 0) _ rfl (call_fin q2 hc hne).1 Try.underlying36 rfl (by kernel_rfl)) rfl ?_
  have hcf := (call_fin q2 hc hne (a := .int .i64 (P.op i Pa.sync).2) (b := .int .i64 0) (c := .int .i64 0) (d := .int .i64 0) (e := .slice none 0 0) (f := .slice none 0 0)).2
  refine ⟨_, rfl, ?_, ?_⟩
  · rw [HT.out.1]
    exact ⟨none, 0, 0, none, 0, 0, rfl, Bytes.empty _ _, SpAt.nil _ _⟩
  · rw [HT.out.2]
    exact (DTo.after HX.out hT).more hcf (fun k e => by rcases e with e | e <;> omega) (fun k e => by rcases e with e | e <;> subst e; exact ⟨_, _, q2, by decide, by decide, by decide, by decide⟩; exact ⟨_, _, q3, by decide, by decide, by decide, by decide⟩)
set_option maxHeartbeats 1600000 in
set_option maxRecDepth 100000 in
theorem call_2 {w : World} {G pb K L : Nat} {ls : Nat → Loc} {P : Pd} {v : Value} {s : Ps} {A : Option Addr} (h : DAt w G pb ls P K) (hs : PsAt w v s A) (hA : s.f ≠ [] → ∀ k, blkO A = some k → k ≠ G ∧ k ≠ pb) (hk : K + s.p.length + 1 ≤ L) (hL : L ≤ 4294967296) (h0 : s.k = 2) :
    Calls Try.prog 16 #[.pointer (some ⟨G, 0, none⟩), v] w (CallTo w G pb ls P L s) := by
  obtain ⟨⟨C, m, c, n, d, rfl, hP, hF⟩, b0, b1⟩ := hs
  obtain ⟨k, i, a, b, p, f⟩ := s
  simp only at h0 hP hF b0 b1 hk
  subst h0
  have hlen := hP.1
  have ht : P.told ⟨2, i, a, b, p, f⟩ = { Td.no with e := (P.op i (Pa.cut a)).2 } := by simp [Pd.told]
  have hst : P.step ⟨2, i, a, b, p, f⟩ = (P.op i (Pa.cut a)).1 := by simp [Pd.step]
  have HT := Lib.hid (And.intro ht hst)
  obtain ⟨xz, k2, k3⟩ := call_pre w #[.int .i64 2, .int .i64 i, .int .i64 a, .int .i64 b, .slice C m c, .slice A n d]
  have hD := h.below xz
  have HM := Lib.hid (diskCut_any hD i a (by omega) hL)
  have HX := Lib.hid xz
  have HD := Lib.hid hD
  have HK := Lib.hid (And.intro k2 k3)
  clear k2 k3 hD xz ht hst
  go_enter Try.func16, Try.ntmps16
  go_wp2_with fail
  refine HM.out.mono ?_
  rintro e wm ⟨rfl, hT⟩
  have q2 := hT.blk HD.out HK.out.1 (by decide) (by decide) (by decide) (by decide)
  have q3 := hT.blk HD.out HK.out.2 (by decide) (by decide) (by decide) (by decide)
  obtain ⟨u0, u1, u2, u3, u4, u5, uf⟩ := six_cells q2
  obtain ⟨t0, t1, t2, t3, t4, t5, tf⟩ := six_cells q3
  have hne : w.heap.size + 1 ≠ w.heap.size + 1 + 1 := by omega
  go_wp2_with fail
  have hc : Chg (fun q => q = w.heap.size + 1 + 1) wm (wm.setCell ⟨w.heap.size + 1 + 1, 0, none⟩ (.int .i64 (P.op i (Pa.cut a)).2)) := Chg.set (F := fun q => q = w.heap.size + 1 + 1) (Chg.refl _ _) (.inl rfl) _ _
  refine bodyPost_ret (results_row1 rfl _ _ (w.heap.size + 1) 36 _ (0, 0) _ rfl (call_fin q2 hc hne).1 Try.underlying36 rfl (by kernel_rfl)) rfl ?_
  have hcf := (call_fin q2 hc hne (a := .int .i64 (P.op i (Pa.cut a)).2) (b := .int .i64 0) (c := .int .i64 0) (d := .int .i64 0) (e := .slice none 0 0) (f := .slice none 0 0)).2
  refine ⟨_, rfl, ?_, ?_⟩
  · rw [HT.out.1]
    exact ⟨none, 0, 0, none, 0, 0, rfl, Bytes.empty _ _, SpAt.nil _ _⟩
  · rw [HT.out.2]
    exact (DTo.after HX.out hT).more hcf (fun k e => by rcases e with e | e <;> omega) (fun k e => by rcases e with e | e <;> subst e; exact ⟨_, _, q2, by decide, by decide, by decide, by decide⟩; exact ⟨_, _, q3, by decide, by decide, by decide, by decide⟩)
set_option maxHeartbeats 1600000 in
set_option maxRecDepth 100000 in
theorem call_3 {w : World} {G pb K L : Nat} {ls : Nat → Loc} {P : Pd} {v : Value} {s : Ps} {A : Option Addr} (h : DAt w G pb ls P K) (hs : PsAt w v s A) (hA : s.f ≠ [] → ∀ k, blkO A = some k → k ≠ G ∧ k ≠ pb) (hk : K + s.p.length + 1 ≤ L) (hL : L ≤ 4294967296) (h0 : s.k = 3) :
    Calls Try.prog 16 #[.pointer (some ⟨G, 0, none⟩), v] w (CallTo w G pb ls P L s) := by
  obtain ⟨⟨C, m, c, n, d, rfl, hP, hF⟩, b0, b1⟩ := hs
  obtain ⟨k, i, a, b, p, f⟩ := s
  simp only at h0 hP hF b0 b1 hk
  subst h0
  have hlen := hP.1
  have ht : P.told ⟨3, i, a, b, p, f⟩ = { Td.no with e := (P.op i (Pa.trim a)).2 } := by simp [Pd.told]
  have hst : P.step ⟨3, i, a, b, p, f⟩ = (P.op i (Pa.trim a)).1 := by simp [Pd.step]
  have HT := Lib.hid (And.intro ht hst)
  obtain ⟨xz, k2, k3⟩ := call_pre w #[.int .i64 3, .int .i64 i, .int .i64 a, .int .i64 b, .slice C m c, .slice A n d]
  have hD := h.below xz
  have HM := Lib.hid (diskTrim_any hD i a (by omega) hL)
  have HX := Lib.hid xz
  have HD := Lib.hid hD
  have HK := Lib.hid (And.intro k2 k3)
  clear k2 k3 hD xz ht hst
  go_enter Try.func16, Try.ntmps16
  go_wp2_with fail
  refine HM.out.mono ?_
  rintro e wm ⟨rfl, hT⟩
  have q2 := hT.blk HD.out HK.out.1 (by decide) (by decide) (by decide) (by decide)
  have q3 := hT.blk HD.out HK.out.2 (by decide) (by decide) (by decide) (by decide)
  obtain ⟨u0, u1, u2, u3, u4, u5, uf⟩ := six_cells q2
  obtain ⟨t0, t1, t2, t3, t4, t5, tf⟩ := six_cells q3
  have hne : w.heap.size + 1 ≠ w.heap.size + 1 + 1 := by omega
  go_wp2_with fail
  have hc : Chg (fun q => q = w.heap.size + 1 + 1) wm (wm.setCell ⟨w.heap.size + 1 + 1, 0, none⟩ (.int .i64 (P.op i (Pa.trim a)).2)) := Chg.set (F := fun q => q = w.heap.size + 1 + 1) (Chg.refl _ _) (.inl rfl) _ _
  refine bodyPost_ret (results_row1 rfl _ _ (w.heap.size + 1) 36 _ (0, 0) _ rfl (call_fin q2 hc hne).1 Try.underlying36 rfl (by kernel_rfl)) rfl ?_
  have hcf := (call_fin q2 hc hne (a := .int .i64 (P.op i (Pa.trim a)).2) (b := .int .i64 0) (c := .int .i64 0) (d := .int .i64 0) (e := .slice none 0 0) (f := .slice none 0 0)).2
  refine ⟨_, rfl, ?_, ?_⟩
  · rw [HT.out.1]
    exact ⟨none, 0, 0, none, 0, 0, rfl, Bytes.empty _ _, SpAt.nil _ _⟩
  · rw [HT.out.2]
    exact (DTo.after HX.out hT).more hcf (fun k e => by rcases e with e | e <;> omega) (fun k e => by rcases e with e | e <;> subst e; exact ⟨_, _, q2, by decide, by decide, by decide, by decide⟩; exact ⟨_, _, q3, by decide, by decide, by decide, by decide⟩)
set_option maxHeartbeats 1600000 in
set_option maxRecDepth 100000 in
theorem call_4 {w : World} {G pb K L : Nat} {ls : Nat → Loc} {P : Pd} {v : Value} {s : Ps} {A : Option Addr} (h : DAt w G pb ls P K) (hs : PsAt w v s A) (hA : s.f ≠ [] → ∀ k, blkO A = some k → k ≠ G ∧ k ≠ pb) (hk : K + s.p.length + 1 ≤ L) (hL : L ≤ 4294967296) (h0 : s.k = 4) :
    Calls Try.prog 16 #[.pointer (some ⟨G, 0, none⟩), v] w (CallTo w G pb ls P L s) := by
  obtain ⟨⟨C, m, c, n, d, rfl, hP, hF⟩, b0, b1⟩ := hs
  obtain ⟨k, i, a, b, p, f⟩ := s
  simp only at h0 hP hF b0 b1 hk
  subst h0
  have hlen := hP.1
  have ht : P.told ⟨4, i, a, b, p, f⟩ = { Td.no with e := (P.read i a b).2, p := (P.read i a b).1 } := by simp [Pd.told]
  have hst : P.step ⟨4, i, a, b, p, f⟩ = P := by simp [Pd.step]
  have HT := Lib.hid (And.intro ht hst)
  obtain ⟨xz, k2, k3⟩ := call_pre w #[.int .i64 4, .int .i64 i, .int .i64 a, .int .i64 b, .slice C m c, .slice A n d]
  have hD := h.below xz
  have HM := Lib.hid (diskRead_any hD (by omega) i a b b0 b1)
  have HX := Lib.hid xz
  have HD := Lib.hid hD
  have HK := Lib.hid (And.intro k2 k3)
  clear k2 k3 hD xz ht hst
  go_enter Try.func16, Try.ntmps16
  go_wp2_with fail
  refine HM.out.mono ?_
  rintro e wm ⟨A4, c4, rfl, ho, hb⟩
  have q2 := HK.out.1.keep hb
  have q3 := HK.out.2.keep hb
  have hT := DTo.same (HD.out.mono (show K ≤ L by omega)) hb
  obtain ⟨u0, u1, u2, u3, u4, u5, uf⟩ := six_cells q2
  obtain ⟨t0, t1, t2, t3, t4, t5, tf⟩ := six_cells q3
  have hne : w.heap.size + 1 ≠ w.heap.size + 1 + 1 := by omega
  go_wp2_with fail
  have hc : Chg (fun q => q = w.heap.size + 1 + 1) wm ((wm.setCell ⟨w.heap.size + 1 + 1, 4, none⟩ (.slice A4 (P.read i a b).1.length c4)).setCell ⟨w.heap.size + 1 + 1, 0, none⟩ (.int .i64 (P.read i a b).2)) := Chg.set (F := fun q => q = w.heap.size + 1 + 1) (Chg.set (F := fun q => q = w.heap.size + 1 + 1) (Chg.refl _ _) (.inl rfl) _ _) (.inl rfl) _ _
  refine bodyPost_ret (results_row1 rfl _ _ (w.heap.size + 1) 36 _ (0, 0) _ rfl (call_fin q2 hc hne).1 Try.underlying36 rfl (by kernel_rfl)) rfl ?_
  have hcf := (call_fin q2 hc hne (a := .int .i64 (P.read i a b).2) (b := .int .i64 0) (c := .int .i64 0) (d := .int .i64 0) (e := .slice A4 (P.read i a b).1.length c4) (f := .slice none 0 0)).2
  refine ⟨_, rfl, ?_, ?_⟩
  · rw [HT.out.1]
    exact ⟨A4, _, c4, none, 0, 0, rfl, own_bytes' (own_chg ho hcf (fun q e e2 => by rcases e2 with e2 | e2 <;> subst e2; exact own_not_blk7 ho q2 (by decide) e; exact own_not_blk7 ho q3 (by decide) e)) (by have := read_len HD.out i a b; omega), SpAt.nil _ _⟩
  · rw [HT.out.2]
    exact (DTo.after HX.out hT).more hcf (fun k e => by rcases e with e | e <;> omega) (fun k e => by rcases e with e | e <;> subst e; exact ⟨_, _, q2, by decide, by decide, by decide, by decide⟩; exact ⟨_, _, q3, by decide, by decide, by decide, by decide⟩)
set_option maxHeartbeats 1600000 in
set_option maxRecDepth 100000 in
theorem call_5 {w : World} {G pb K L : Nat} {ls : Nat → Loc} {P : Pd} {v : Value} {s : Ps} {A : Option Addr} (h : DAt w G pb ls P K) (hs : PsAt w v s A) (hA : s.f ≠ [] → ∀ k, blkO A = some k → k ≠ G ∧ k ≠ pb) (hk : K + s.p.length + 1 ≤ L) (hL : L ≤ 4294967296) (h0 : s.k = 5) :
    Calls Try.prog 16 #[.pointer (some ⟨G, 0, none⟩), v] w (CallTo w G pb ls P L s) := by
  obtain ⟨⟨C, m, c, n, d, rfl, hP, hF⟩, b0, b1⟩ := hs
  obtain ⟨k, i, a, b, p, f⟩ := s
  simp only at h0 hP hF b0 b1 hk
  subst h0
  have hlen := hP.1
  have ht : P.told ⟨5, i, a, b, p, f⟩ = ⟨(P.bounds i).2.2.2, (P.bounds i).1, (P.bounds i).2.1, (P.bounds i).2.2.1, [], []⟩ := by simp [Pd.told]
  have hst : P.step ⟨5, i, a, b, p, f⟩ = P := by simp [Pd.step]
  have HT := Lib.hid (And.intro ht hst)
  obtain ⟨xz, k2, k3⟩ := call_pre w #[.int .i64 5, .int .i64 i, .int .i64 a, .int .i64 b, .slice C m c, .slice A n d]
  have hD := h.below xz
  have HM := Lib.hid (diskBounds_any hD i)
  have HX := Lib.hid xz
  have HD := Lib.hid hD
  have HK := Lib.hid (And.intro k2 k3)
  clear k2 k3 hD xz ht hst
  go_enter Try.func16, Try.ntmps16
  go_wp2_with fail
  refine HM.out.mono ?_
  rintro e wm ⟨rfl, hb⟩
  have q2 := HK.out.1.keep hb
  have q3 := HK.out.2.keep hb
  have hT := DTo.same (HD.out.mono (show K ≤ L by omega)) hb
  obtain ⟨u0, u1, u2, u3, u4, u5, uf⟩ := six_cells q2
  obtain ⟨t0, t1, t2, t3, t4, t5, tf⟩ := six_cells q3
  have hne : w.heap.size + 1 ≠ w.heap.size + 1 + 1 := by omega
  go_wp2_with fail
  have hc : Chg (fun q => q = w.heap.size + 1 + 1) wm ((((wm.setCell ⟨w.heap.size + 1 + 1, 1, none⟩ (.int .i64 (P.bounds i).1)).setCell ⟨w.heap.size + 1 + 1, 2, none⟩ (.int .i64 (P.bounds i).2.1)).setCell ⟨w.heap.size + 1 + 1, 3, none⟩ (.int .i64 (P.bounds i).2.2.1)).setCell ⟨w.heap.size + 1 + 1, 0, none⟩ (.int .i64 (P.bounds i).2.2.2)) := Chg.set (F := fun q => q = w.heap.size + 1 + 1) (Chg.set (F := fun q => q = w.heap.size + 1 + 1) (Chg.set (F := fun q => q = w.heap.size + 1 + 1) (Chg.set (F := fun q => q = w.heap.size + 1 + 1) (Chg.refl _ _) (.inl rfl) _ _) (.inl rfl) _ _) (.inl rfl) _ _) (.inl rfl) _ _
  refine bodyPost_ret (results_row1 rfl _ _ (w.heap.size + 1) 36 _ (0, 0) _ rfl (call_fin q2 hc hne).1 Try.underlying36 rfl (by kernel_rfl)) rfl ?_
  have hcf := (call_fin q2 hc hne (a := .int .i64 (P.bounds i).2.2.2) (b := .int .i64 (P.bounds i).1) (c := .int .i64 (P.bounds i).2.1) (d := .int .i64 (P.bounds i).2.2.1) (e := .slice none 0 0) (f := .slice none 0 0)).2
  refine ⟨_, rfl, ?_, ?_⟩
  · rw [HT.out.1]
    exact ⟨none, 0, 0, none, 0, 0, rfl, Bytes.empty _ _, SpAt.nil _ _⟩
  · rw [HT.out.2]
    exact (DTo.after HX.out hT).more hcf (fun k e => by rcases e with e | e <;> omega) (fun k e => by rcases e with e | e <;> subst e; exact ⟨_, _, q2, by decide, by decide, by decide, by decide⟩; exact ⟨_, _, q3, by decide, by decide, by decide, by decide⟩)
set_option maxHeartbeats 1600000 in
set_option maxRecDepth 100000 in
theorem call_6 {w : World} {G pb K L : Nat} {ls : Nat → Loc} {P : Pd} {v : Value} {s : Ps} {A : Option Addr} (h : DAt w G pb ls P K) (hs : PsAt w v s A) (hA : s.f ≠ [] → ∀ k, blkO A = some k → k ≠ G ∧ k ≠ pb) (hk : K + s.p.length + 1 ≤ L) (hL : L ≤ 4294967296) (h0 : s.k = 6) :
    Calls Try.prog 16 #[.pointer (some ⟨G, 0, none⟩), v] w (CallTo w G pb ls P L s) := by
  obtain ⟨⟨C, m, c, n, d, rfl, hP, hF⟩, b0, b1⟩ := hs
  obtain ⟨k, i, a, b, p, f⟩ := s
  simp only at h0 hP hF b0 b1 hk
  subst h0
  have hlen := hP.1
  have ht : P.told ⟨6, i, a, b, p, f⟩ = { Td.no with x := P.dones i } := by simp [Pd.told]
  have hst : P.step ⟨6, i, a, b, p, f⟩ = P := by simp [Pd.step]
  have HT := Lib.hid (And.intro ht hst)
  obtain ⟨xz, k2, k3⟩ := call_pre w #[.int .i64 6, .int .i64 i, .int .i64 a, .int .i64 b, .slice C m c, .slice A n d]
  have hD := h.below xz
  have HM := Lib.hid (diskDone_b hD i)
  have HX := Lib.hid xz
  have HD := Lib.hid hD
  have HK := Lib.hid (And.intro k2 k3)
  clear k2 k3 hD xz ht hst
  go_enter Try.func16, Try.ntmps16
  go_wp2_with fail
  refine HM.out.mono ?_
  rintro e wm ⟨rfl, hb⟩
  have q2 := HK.out.1.keep hb
  have q3 := HK.out.2.keep hb
  have hT := DTo.same (HD.out.mono (show K ≤ L by omega)) hb
  obtain ⟨u0, u1, u2, u3, u4, u5, uf⟩ := six_cells q2
  obtain ⟨t0, t1, t2, t3, t4, t5, tf⟩ := six_cells q3
  have hne : w.heap.size + 1 ≠ w.heap.size + 1 + 1 := by omega
  go_wp2_with fail
  have hc : Chg (fun q => q = w.heap.size + 1 + 1) wm ((wm.setCell ⟨w.heap.size + 1 + 1, 1, none⟩ (.int .i64 (P.dones i))).setCell ⟨w.heap.size + 1 + 1, 0, none⟩ (.int .i64 0)) := Chg.set (F := fun q => q = w.heap.size + 1 + 1) (Chg.set (F := fun q => q = w.heap.size + 1 + 1) (Chg.refl _ _) (.inl rfl) _ _) (.inl rfl) _ _
  refine bodyPost_ret (results_row1 rfl _ _ (w.heap.size + 1) 36 _ (0, 0) _ rfl (call_fin q2 hc hne).1 Try.underlying36 rfl (by kernel_rfl)) rfl ?_
  have hcf := (call_fin q2 hc hne (a := .int .i64 0) (b := .int .i64 (P.dones i)) (c := .int .i64 0) (d := .int .i64 0) (e := .slice none 0 0) (f := .slice none 0 0)).2
  refine ⟨_, rfl, ?_, ?_⟩
  · rw [HT.out.1]
    exact ⟨none, 0, 0, none, 0, 0, rfl, Bytes.empty _ _, SpAt.nil _ _⟩
  · rw [HT.out.2]
    exact (DTo.after HX.out hT).more hcf (fun k e => by rcases e with e | e <;> omega) (fun k e => by rcases e with e | e <;> subst e; exact ⟨_, _, q2, by decide, by decide, by decide, by decide⟩; exact ⟨_, _, q3, by decide, by decide, by decide, by decide⟩)
set_option maxHeartbeats 1600000 in
set_option maxRecDepth 100000 in
theorem call_7 {w : World} {G pb K L : Nat} {ls : Nat → Loc} {P : Pd} {v : Value} {s : Ps} {A : Option Addr} (h : DAt w G pb ls P K) (hs : PsAt w v s A) (hA : s.f ≠ [] → ∀ k, blkO A = some k → k ≠ G ∧ k ≠ pb) (hk : K + s.p.length + 1 ≤ L) (hL : L ≤ 4294967296) (h0 : s.k = 7) :
    Calls Try.prog 16 #[.pointer (some ⟨G, 0, none⟩), v] w (CallTo w G pb ls P L s) := by
  obtain ⟨⟨C, m, c, n, d, rfl, hP, hF⟩, b0, b1⟩ := hs
  obtain ⟨k, i, a, b, p, f⟩ := s
  simp only at h0 hP hF b0 b1 hk
  subst h0
  have hlen := hP.1
  have ht : P.told ⟨7, i, a, b, p, f⟩ = Td.no := by simp [Pd.told]
  have hst : P.step ⟨7, i, a, b, p, f⟩ = P.arm f true := by simp [Pd.step]
  have HT := Lib.hid (And.intro ht hst)
  obtain ⟨xz, k2, k3⟩ := call_pre w #[.int .i64 7, .int .i64 i, .int .i64 a, .int .i64 b, .slice C m c, .slice A n d]
  have hD := h.below xz
  have HM := Lib.hid (diskArm_any hD A n d f (hF.below xz) (fun hn => hA (fun e => hn (by rw [← hF.1]; simp only at e; rw [e]; rfl))))
  have HX := Lib.hid xz
  have HD := Lib.hid hD
  have HK := Lib.hid (And.intro k2 k3)
  clear k2 k3 hD xz ht hst
  go_enter Try.func16, Try.ntmps16
  go_wp2_with fail
  refine HM.out.mono ?_
  rintro e wm ⟨rfl, hT0⟩
  have hT := hT0.mono (show K ≤ L by omega)
  have q2 := hT.blk HD.out HK.out.1 (by decide) (by decide) (by decide) (by decide)
  have q3 := hT.blk HD.out HK.out.2 (by decide) (by decide) (by decide) (by decide)
  obtain ⟨u0, u1, u2, u3, u4, u5, uf⟩ := six_cells q2
  obtain ⟨t0, t1, t2, t3, t4, t5, tf⟩ := six_cells q3
  have hne : w.heap.size + 1 ≠ w.heap.size + 1 + 1 := by omega
  go_wp2_with fail
  have hc : Chg (fun q => q = w.heap.size + 1 + 1) wm (wm.setCell ⟨w.heap.size + 1 + 1, 0, none⟩ (.int .i64 0)) := Chg.set (F := fun q => q = w.heap.size + 1 + 1) (Chg.refl _ _) (.inl rfl) _ _
  refine bodyPost_ret (results_row1 rfl _ _ (w.heap.size + 1) 36 _ (0, 0) _ rfl (call_fin q2 hc hne).1 Try.underlying36 rfl (by kernel_rfl)) rfl ?_
  have hcf := (call_fin q2 hc hne (a := .int .i64 0) (b := .int .i64 0) (c := .int .i64 0) (d := .int .i64 0) (e := .slice none 0 0) (f := .slice none 0 0)).2
  refine ⟨_, rfl, ?_, ?_⟩
  · rw [HT.out.1]
    exact ⟨none, 0, 0, none, 0, 0, rfl, Bytes.empty _ _, SpAt.nil _ _⟩
  · rw [HT.out.2]
    exact (DTo.after HX.out hT).more hcf (fun k e => by rcases e with e | e <;> omega) (fun k e => by rcases e with e | e <;> subst e; exact ⟨_, _, q2, by decide, by decide, by decide, by decide⟩; exact ⟨_, _, q3, by decide, by decide, by decide, by decide⟩)
set_option maxHeartbeats 1600000 in
set_option maxRecDepth 100000 in
theorem call_8 {w : World} {G pb K L : Nat} {ls : Nat → Loc} {P : Pd} {v : Value} {s : Ps} {A : Option Addr} (h : DAt w G pb ls P K) (hs : PsAt w v s A) (hA : s.f ≠ [] → ∀ k, blkO A = some k → k ≠ G ∧ k ≠ pb) (hk : K + s.p.length + 1 ≤ L) (hL : L ≤ 4294967296) (h0 : s.k = 8) :
    Calls Try.prog 16 #[.pointer (some ⟨G, 0, none⟩), v] w (CallTo w G pb ls P L s) := by
  obtain ⟨⟨C, m, c, n, d, rfl, hP, hF⟩, b0, b1⟩ := hs
  obtain ⟨k, i, a, b, p, f⟩ := s
  simp only at h0 hP hF b0 b1 hk
  subst h0
  have hlen := hP.1
  have ht : P.told ⟨8, i, a, b, p, f⟩ = Td.no := by simp [Pd.told]
  have hst : P.step ⟨8, i, a, b, p, f⟩ = P.strike := by simp [Pd.step]
  have HT := Lib.hid (And.intro ht hst)
  obtain ⟨xz, k2, k3⟩ := call_pre w #[.int .i64 8, .int .i64 i, .int .i64 a, .int .i64 b, .slice C m c, .slice A n d]
  have hD := h.below xz
  have HM := Lib.hid (diskStrike_any hD)
  have HX := Lib.hid xz
  have HD := Lib.hid hD
  have HK := Lib.hid (And.intro k2 k3)
  clear k2 k3 hD xz ht hst
  go_enter Try.func16, Try.ntmps16
  go_wp2_with fail
  refine HM.out.mono ?_
  rintro e wm ⟨rfl, hT0⟩
  have hT := hT0.mono (show K ≤ L by omega)
  have q2 := hT.blk HD.out HK.out.1 (by decide) (by decide) (by decide) (by decide)
  have q3 := hT.blk HD.out HK.out.2 (by decide) (by decide) (by decide) (by decide)
  obtain ⟨u0, u1, u2, u3, u4, u5, uf⟩ := six_cells q2
  obtain ⟨t0, t1, t2, t3, t4, t5, tf⟩ := six_cells q3
  have hne : w.heap.size + 1 ≠ w.heap.size + 1 + 1 := by omega
  go_wp2_with fail
  have hc : Chg (fun q => q = w.heap.size + 1 + 1) wm (wm.setCell ⟨w.heap.size + 1 + 1, 0, none⟩ (.int .i64 0)) := Chg.set (F := fun q => q = w.heap.size + 1 + 1) (Chg.refl _ _) (.inl rfl) _ _
  refine bodyPost_ret (results_row1 rfl _ _ (w.heap.size + 1) 36 _ (0, 0) _ rfl (call_fin q2 hc hne).1 Try.underlying36 rfl (by kernel_rfl)) rfl ?_
  have hcf := (call_fin q2 hc hne (a := .int .i64 0) (b := .int .i64 0) (c := .int .i64 0) (d := .int .i64 0) (e := .slice none 0 0) (f := .slice none 0 0)).2
  refine ⟨_, rfl, ?_, ?_⟩
  · rw [HT.out.1]
    exact ⟨none, 0, 0, none, 0, 0, rfl, Bytes.empty _ _, SpAt.nil _ _⟩
  · rw [HT.out.2]
    exact (DTo.after HX.out hT).more hcf (fun k e => by rcases e with e | e <;> omega) (fun k e => by rcases e with e | e <;> subst e; exact ⟨_, _, q2, by decide, by decide, by decide, by decide⟩; exact ⟨_, _, q3, by decide, by decide, by decide, by decide⟩)
set_option maxHeartbeats 1600000 in
set_option maxRecDepth 100000 in
theorem call_9 {w : World} {G pb K L : Nat} {ls : Nat → Loc} {P : Pd} {v : Value} {s : Ps} {A : Option Addr} (h : DAt w G pb ls P K) (hs : PsAt w v s A) (hA : s.f ≠ [] → ∀ k, blkO A = some k → k ≠ G ∧ k ≠ pb) (hk : K + s.p.length + 1 ≤ L) (hL : L ≤ 4294967296) (h0 : s.k = 9) :
    Calls Try.prog 16 #[.pointer (some ⟨G, 0, none⟩), v] w (CallTo w G pb ls P L s) := by
  obtain ⟨⟨C, m, c, n, d, rfl, hP, hF⟩, b0, b1⟩ := hs
  obtain ⟨k, i, a, b, p, f⟩ := s
  simp only at h0 hP hF b0 b1 hk
  subst h0
  have hlen := hP.1
  have ht : P.told ⟨9, i, a, b, p, f⟩ = { Td.no with s := P.image } := by simp [Pd.told]
  have hst : P.step ⟨9, i, a, b, p, f⟩ = P := by simp [Pd.step]
  have HT := Lib.hid (And.intro ht hst)
  obtain ⟨xz, k2, k3⟩ := call_pre w #[.int .i64 9, .int .i64 i, .int .i64 a, .int .i64 b, .slice C m c, .slice A n d]
  have hD := h.below xz
  have HM := Lib.hid (diskImage_any hD)
  have HX := Lib.hid xz
  have HD := Lib.hid hD
  have HK := Lib.hid (And.intro k2 k3)
  clear k2 k3 hD xz ht hst
  go_enter Try.func16, Try.ntmps16
  go_wp2_with fail
  refine HM.out.mono ?_
  rintro e wm ⟨A9, n9, c9, qs, rfl, hS, hq, hb⟩
  have q2 := HK.out.1.keep hb
  have q3 := HK.out.2.keep hb
  have hT := DTo.same (HD.out.mono (show K ≤ L by omega)) hb
  obtain ⟨u0, u1, u2, u3, u4, u5, uf⟩ := six_cells q2
  obtain ⟨t0, t1, t2, t3, t4, t5, tf⟩ := six_cells q3
  have hne : w.heap.size + 1 ≠ w.heap.size + 1 + 1 := by omega
  go_wp2_with fail
  have hc : Chg (fun q => q = w.heap.size + 1 + 1) wm ((wm.setCell ⟨w.heap.size + 1 + 1, 5, none⟩ (.slice A9 n9 c9)).setCell ⟨w.heap.size + 1 + 1, 0, none⟩ (.int .i64 0)) := Chg.set (F := fun q => q = w.heap.size + 1 + 1) (Chg.set (F := fun q => q = w.heap.size + 1 + 1) (Chg.refl _ _) (.inl rfl) _ _) (.inl rfl) _ _
  refine bodyPost_ret (results_row1 rfl _ _ (w.heap.size + 1) 36 _ (0, 0) _ rfl (call_fin q2 hc hne).1 Try.underlying36 rfl (by kernel_rfl)) rfl ?_
  have hcf := (call_fin q2 hc hne (a := .int .i64 0) (b := .int .i64 0) (c := .int .i64 0) (d := .int .i64 0) (e := .slice none 0 0) (f := .slice A9 n9 c9)).2
  refine ⟨_, rfl, ?_, ?_⟩
  · rw [HT.out.1]
    exact ⟨none, 0, 0, A9, n9, c9, rfl, Bytes.empty _ _, by
      show SpAt _ A9 n9 P.image
      rw [← hq]
      exact (hS.chg hcf (fun q e => by rcases e with e | e <;> subst e; exact ⟨_, _, q2, by decide, by decide⟩; exact ⟨_, _, q3, by decide, by decide⟩)).at_ (fun q hqm => image_len HD.out hS hq (by omega) q hqm)⟩
  · rw [HT.out.2]
    exact (DTo.after HX.out hT).more hcf (fun k e => by rcases e with e | e <;> omega) (fun k e => by rcases e with e | e <;> subst e; exact ⟨_, _, q2, by decide, by decide, by decide, by decide⟩; exact ⟨_, _, q3, by decide, by decide, by decide, by decide⟩)
set_option maxHeartbeats 1600000 in
set_option maxRecDepth 100000 in
theorem call_10 {w : World} {G pb K L : Nat} {ls : Nat → Loc} {P : Pd} {v : Value} {s : Ps} {A : Option Addr} (h : DAt w G pb ls P K) (hs : PsAt w v s A) (hA : s.f ≠ [] → ∀ k, blkO A = some k → k ≠ G ∧ k ≠ pb) (hk : K + s.p.length + 1 ≤ L) (hL : L ≤ 4294967296) (h0 : s.k = 10) :
    Calls Try.prog 16 #[.pointer (some ⟨G, 0, none⟩), v] w (CallTo w G pb ls P L s) := by
  obtain ⟨⟨C, m, c, n, d, rfl, hP, hF⟩, b0, b1⟩ := hs
  obtain ⟨k, i, a, b, p, f⟩ := s
  simp only at h0 hP hF b0 b1 hk
  subst h0
  have hlen := hP.1
  have ht : P.told ⟨10, i, a, b, p, f⟩ = { Td.no with x := (P.n : Int) } := by simp [Pd.told]
  have hst : P.step ⟨10, i, a, b, p, f⟩ = P := by simp [Pd.step]
  have HT := Lib.hid (And.intro ht hst)
  obtain ⟨xz, k2, k3⟩ := call_pre w #[.int .i64 10, .int .i64 i, .int .i64 a, .int .i64 b, .slice C m c, .slice A n d]
  have hD := h.below xz
  have HM := Lib.hid (diskAreas_b hD)
  have HX := Lib.hid xz
  have HD := Lib.hid hD
  have HK := Lib.hid (And.intro k2 k3)
  clear k2 k3 hD xz ht hst
  go_enter Try.func16, Try.ntmps16
  go_wp2_with fail
  refine HM.out.mono ?_
  rintro e wm ⟨rfl, hb⟩
  have q2 := HK.out.1.keep hb
  have q3 := HK.out.2.keep hb
  have hT := DTo.same (HD.out.mono (show K ≤ L by omega)) hb
  obtain ⟨u0, u1, u2, u3, u4, u5, uf⟩ := six_cells q2
  obtain ⟨t0, t1, t2, t3, t4, t5, tf⟩ := six_cells q3
  have hne : w.heap.size + 1 ≠ w.heap.size + 1 + 1 := by omega
  go_wp2_with fail
  have hc : Chg (fun q => q = w.heap.size + 1 + 1) wm ((wm.setCell ⟨w.heap.size + 1 + 1, 1, none⟩ (.int .i64 (P.n : Nat))).setCell ⟨w.heap.size + 1 + 1, 0, none⟩ (.int .i64 0)) := Chg.set (F := fun q => q = w.heap.size + 1 + 1) (Chg.set (F := fun q => q = w.heap.size + 1 + 1) (Chg.refl _ _) (.inl rfl) _ _) (.inl rfl) _ _
  refine bodyPost_ret (results_row1 rfl _ _ (w.heap.size + 1) 36 _ (0, 0) _ rfl (call_fin q2 hc hne).1 Try.underlying36 rfl (by kernel_rfl)) rfl ?_
  have hcf := (call_fin q2 hc hne (a := .int .i64 0) (b := .int .i64 (P.n : Nat)) (c := .int .i64 0) (d := .int .i64 0) (e := .slice none 0 0) (f := .slice none 0 0)).2
  refine ⟨_, rfl, ?_, ?_⟩
  · rw [HT.out.1]
    exact ⟨none, 0, 0, none, 0, 0, rfl, Bytes.empty _ _, SpAt.nil _ _⟩
  · rw [HT.out.2]
    exact (DTo.after HX.out hT).more hcf (fun k e => by rcases e with e | e <;> omega) (fun k e => by rcases e with e | e <;> subst e; exact ⟨_, _, q2, by decide, by decide, by decide, by decide⟩; exact ⟨_, _, q3, by decide, by decide, by decide, by decide⟩)
set_option maxHeartbeats 1600000 in
set_option maxRecDepth 100000 in
theorem call_X {w : World} {G pb K L : Nat} {ls : Nat → Loc} {P : Pd} {v : Value} {s : Ps} {A : Option Addr} (h : DAt w G pb ls P K) (hs : PsAt w v s A) (hk : K ≤ L) (h0 : s.k < 0 ∨ 10 < s.k) :
    Calls Try.prog 16 #[.pointer (some ⟨G, 0, none⟩), v] w (CallTo w G pb ls P L s) := by
  obtain ⟨⟨C, m, c, n, d, rfl, hP, hF⟩, b0, b1⟩ := hs
  obtain ⟨k, i, a, b, p, f⟩ := s
  simp only at h0 hP hF b0 b1
  have n0 : k ≠ 0 := by omega
  have n1 : k ≠ 1 := by omega
  have n2 : k ≠ 2 := by omega
  have n3 : k ≠ 3 := by omega
  have n4 : k ≠ 4 := by omega
  have n5 : k ≠ 5 := by omega
  have n6 : k ≠ 6 := by omega
  have n7 : k ≠ 7 := by omega
  have n8 : k ≠ 8 := by omega
  have n9 : k ≠ 9 := by omega
  have n10 : k ≠ 10 := by omega
  have ht : P.told ⟨k, i, a, b, p, f⟩ = Td.no := by simp [Pd.told, n0, n1, n2, n3, n4, n5, n6, n9, n10]
  have hst : P.step ⟨k, i, a, b, p, f⟩ = P := by simp [Pd.step, n0, n1, n2, n3, n7, n8]
  have HT := Lib.hid (And.intro ht hst)
  obtain ⟨xz, k2, k3⟩ := call_pre w #[.int .i64 k, .int .i64 i, .int .i64 a, .int .i64 b, .slice C m c, .slice A n d]
  have HX := Lib.hid xz
  have HD := Lib.hid h
  have HK := Lib.hid k2
  clear k2 k3 xz ht hst
  go_enter Try.func16, Try.ntmps16
  go_wp2_with fail
  refine bodyPost_ret (results_row1 rfl _ _ (w.heap.size + 1) 36 _ (0, 0) _ rfl HK.out Try.underlying36 rfl (by kernel_rfl)) rfl ?_
  refine ⟨_, rfl, ?_, ?_⟩
  · rw [HT.out.1]
    exact ⟨none, 0, 0, none, 0, 0, rfl, Bytes.empty _ _, SpAt.nil _ _⟩
  · rw [HT.out.2]
    exact DTo.same (HD.out.mono hk) HX.out
theorem call_any {w : World} {G pb K L : Nat} {ls : Nat → Loc} {P : Pd} {v : Value} {s : Ps} {A : Option Addr} (h : DAt w G pb ls P K) (hs : PsAt w v s A) (hA : s.f ≠ [] → ∀ k, blkO A = some k → k ≠ G ∧ k ≠ pb) (hk : K + s.p.length + 1 ≤ L) (hL : L ≤ 4294967296) :
    Calls Try.prog 16 #[.pointer (some ⟨G, 0, none⟩), v] w (CallTo w G pb ls P L s) := by
  by_cases h0 : s.k = 0
  · exact call_0 h hs hA hk hL h0
  by_cases h1 : s.k = 1
  · exact call_1 h hs hA hk hL h1
  by_cases h2 : s.k = 2
  · exact call_2 h hs hA hk hL h2
  by_cases h3 : s.k = 3
  · exact call_3 h hs hA hk hL h3
  by_cases h4 : s.k = 4
  · exact call_4 h hs hA hk hL h4
  by_cases h5 : s.k = 5
  · exact call_5 h hs hA hk hL h5
  by_cases h6 : s.k = 6
  · exact call_6 h hs hA hk hL h6
  by_cases h7 : s.k = 7
  · exact call_7 h hs hA hk hL h7
  by_cases h8 : s.k = 8
  · exact call_8 h hs hA hk hL h8
  by_cases h9 : s.k = 9
  · exact call_9 h hs hA hk hL h9
  by_cases h10 : s.k = 10
  · exact call_10 h hs hA hk hL h10
  exact call_X h hs (by omega) (by omega)
end Go.Proofs.Ytodaplkijdjbpaa
