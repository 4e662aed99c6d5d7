/- The law package's call of a disk that is not there. -/
import Derived.Test.YtodaplkijdjbpaaCall0
namespace Go.Proofs.Ytodaplkijdjbpaa
open Go.RowKit
set_option linter.unusedVariables false
set_option linter.unusedSimpArgs false
def toldNil (s : Ps) : Td := if 0 ≤ s.k ∧ s.k ≤ 5 then { Td.no with e := 1 } else Td.no
theorem Below.of_eq {w w' : World} (h : w = w') : Below w.heap.size w w' := h ▸ Below.refl _ _
def NilTo (w : World) (s : Ps) (e : Ending) (w' : World) : Prop := ∃ v, e = .returned v ∧ TdAt w' v (toldNil s) ∧ Below w.heap.size w w'
set_option maxHeartbeats 1600000 in
set_option maxRecDepth 100000 in
theorem calln_0 {w : World} {v : Value} {s : Ps} {A : Option Addr} (hs : PsAt w v s A) (h0 : s.k = 0) :
    Calls Try.prog 16 #[.pointer none, v] w (NilTo w s) := by
  obtain ⟨⟨C, m, c, n, d, rfl, hP, hF⟩, b0, b1⟩ := hs
  obtain ⟨k, i, a, b, p, f⟩ := s
  simp only at h0 hP hF b0 b1
  subst h0
  have ht : toldNil ⟨0, i, a, b, p, f⟩ = { Td.no with e := 1 } := by simp [toldNil]
  have HT := Lib.hid ht
  obtain ⟨xz, k2, k3⟩ := call_pre w #[.int .i64 0, .int .i64 i, .int .i64 a, .int .i64 b, .slice C m c, .slice A n d]
  have HX := Lib.hid xz
  have HK := Lib.hid (And.intro k2 k3)
  clear k2 k3 xz ht
  go_enter Try.func16, Try.ntmps16
  go_wp2_with fail
  refine (diskAppend_nil i C m c _).mono ?_
  rintro e wm ⟨rfl, hb⟩
  have q2 := HK.out.1.keep hb
  have q3 := HK.out.2.keep hb
  have hB := below_then HX.out hb HX.out.size
  obtain ⟨u0, u1, u2, u3, u4, u5, uf⟩ := six_cells q2
  obtain ⟨t0, t1, t2, t3, t4, t5, tf⟩ := six_cells q3
  have hne : w.heap.size + 1 ≠ w.heap.size + 1 + 1 := by omega
  go_wp2_with fail
  have hc : Chg (fun q => q = w.heap.size + 1 + 1) wm (wm.setCell ⟨w.heap.size + 1 + 1, 0, none⟩ (.int .i64 1)) := Chg.set (F := fun q => q = w.heap.size + 1 + 1) (Chg.refl _ _) (.inl rfl) _ _
  refine bodyPost_ret (results_row1 rfl _ _ (w.heap.size + 1) 36 _ (0, 0) _ rfl (call_fin q2 hc hne).1 Try.underlying36 rfl (by kernel_rfl)) rfl ?_
  have hcf := (call_fin q2 hc hne (a := .int .i64 1) (b := .int .i64 0) (c := .int .i64 0) (d := .int .i64 0) (e := .slice none 0 0) (f := .slice none 0 0)).2
  refine ⟨_, rfl, ?_, ?_⟩
  · rw [HT.out]
    exact ⟨none, 0, 0, none, 0, 0, rfl, Bytes.empty _ _, SpAt.nil _ _⟩
  · exact hB.trans (hcf.below hB.size (fun q e => by rcases e with e | e <;> omega))
set_option maxHeartbeats 1600000 in
set_option maxRecDepth 100000 in
theorem calln_1 {w : World} {v : Value} {s : Ps} {A : Option Addr} (hs : PsAt w v s A) (h0 : s.k = 1) :
    Calls Try.prog 16 #[.pointer none, v] w (NilTo w s) := by
  obtain ⟨⟨C, m, c, n, d, rfl, hP, hF⟩, b0, b1⟩ := hs
  obtain ⟨k, i, a, b, p, f⟩ := s
  simp only at h0 hP hF b0 b1
  subst h0
  have ht : toldNil ⟨1, i, a, b, p, f⟩ = { Td.no with e := 1 } := by simp [toldNil]
  have HT := Lib.hid ht
  obtain ⟨xz, k2, k3⟩ := call_pre w #[.int .i64 1, .int .i64 i, .int .i64 a, .int .i64 b, .slice C m c, .slice A n d]
  have HX := Lib.hid xz
  have HK := Lib.hid (And.intro k2 k3)
  clear k2 k3 xz ht
  go_enter Try.func16, Try.ntmps16
  go_wp2_with fail
  refine (diskSync_nil i _).mono ?_
  rintro e wm ⟨rfl, hb⟩
  have q2 := HK.out.1.keep hb
  have q3 := HK.out.2.keep hb
  have hB := below_then HX.out hb HX.out.size
  obtain ⟨u0, u1, u2, u3, u4, u5, uf⟩ := six_cells q2
  obtain ⟨t0, t1, t2, t3, t4, t5, tf⟩ := six_cells q3
  have hne : w.heap.size + 1 ≠ w.heap.size + 1 + 1 := by omega
  go_wp2_with fail
  have hc : Chg (fun q => q = w.heap.size + 1 + 1) wm (wm.setCell ⟨w.heap.size + 1 + 1, 0, none⟩ (.int .i64 1)) := Chg.set (F := fun q => q = w.heap.size + 1 + 1) (Chg.refl _ _) (.inl rfl) _ _
  refine bodyPost_ret (results_row1 rfl _ _ (w.heap.size + 1) 36 _ (0, 0) _ rfl (call_fin q2 hc hne).1 Try.underlying36 rfl (by kernel_rfl)) rfl ?_
  have hcf := (call_fin q2 hc hne (a := .int .i64 1) (b := .int .i64 0) (c := .int .i64 0) (d := .int .i64 0) (e := .slice none 0 0) (f := .slice none 0 0)).2
  refine ⟨_, rfl, ?_, ?_⟩
  · rw [HT.out]
    exact ⟨none, 0, 0, none, 0, 0, rfl, Bytes.empty _ _, SpAt.nil _ _⟩
  · exact hB.trans (hcf.below hB.size (fun q e => by rcases e with e | e <;> omega))
set_option maxHeartbeats 1600000 in
set_option maxRecDepth 100000 in
theorem calln_2 {w : World} {v : Value} {s : Ps} {A : Option Addr} (hs : PsAt w v s A) (h0 : s.k = 2) :
    Calls Try.prog 16 #[.pointer none, v] w (NilTo w s) := by
  obtain ⟨⟨C, m, c, n, d, rfl, hP, hF⟩, b0, b1⟩ := hs
  obtain ⟨k, i, a, b, p, f⟩ := s
  simp only at h0 hP hF b0 b1
  subst h0
  have ht : toldNil ⟨2, i, a, b, p, f⟩ = { Td.no with e := 1 } := by simp [toldNil]
  have HT := Lib.hid ht
  obtain ⟨xz, k2, k3⟩ := call_pre w #[.int .i64 2, .int .i64 i, .int .i64 a, .int .i64 b, .slice C m c, .slice A n d]
  have HX := Lib.hid xz
  have HK := Lib.hid (And.intro k2 k3)
  clear k2 k3 xz ht
  go_enter Try.func16, Try.ntmps16
  go_wp2_with fail
  refine (diskCut_nil i a _).mono ?_
  rintro e wm ⟨rfl, hb⟩
  have q2 := HK.out.1.keep hb
  have q3 := HK.out.2.keep hb
  have hB := below_then HX.out hb HX.out.size
  obtain ⟨u0, u1, u2, u3, u4, u5, uf⟩ := six_cells q2
  obtain ⟨t0, t1, t2, t3, t4, t5, tf⟩ := six_cells q3
  have hne : w.heap.size + 1 ≠ w.heap.size + 1 + 1 := by omega
  go_wp2_with fail
  have hc : Chg (fun q => q = w.heap.size + 1 + 1) wm (wm.setCell ⟨w.heap.size + 1 + 1, 0, none⟩ (.int .i64 1)) := Chg.set (F := fun q => q = w.heap.size + 1 + 1) (Chg.refl _ _) (.inl rfl) _ _
  refine bodyPost_ret (results_row1 rfl _ _ (w.heap.size + 1) 36 _ (0, 0) _ rfl (call_fin q2 hc hne).1 Try.underlying36 rfl (by kernel_rfl)) rfl ?_
  have hcf := (call_fin q2 hc hne (a := .int .i64 1) (b := .int .i64 0) (c := .int .i64 0) (d := .int .i64 0) (e := .slice none 0 0) (f := .slice none 0 0)).2
  refine ⟨_, rfl, ?_, ?_⟩
  · rw [HT.out]
    exact ⟨none, 0, 0, none, 0, 0, rfl, Bytes.empty _ _, SpAt.nil _ _⟩
  · exact hB.trans (hcf.below hB.size (fun q e => by rcases e with e | e <;> omega))
set_option maxHeartbeats 1600000 in
set_option maxRecDepth 100000 in
theorem calln_3 {w : World} {v : Value} {s : Ps} {A : Option Addr} (hs : PsAt w v s A) (h0 : s.k = 3) :
    Calls Try.prog 16 #[.pointer none, v] w (NilTo w s) := by
  obtain ⟨⟨C, m, c, n, d, rfl, hP, hF⟩, b0, b1⟩ := hs
  obtain ⟨k, i, a, b, p, f⟩ := s
  simp only at h0 hP hF b0 b1
  subst h0
  have ht : toldNil ⟨3, i, a, b, p, f⟩ = { Td.no with e := 1 } := by simp [toldNil]
  have HT := Lib.hid ht
  obtain ⟨xz, k2, k3⟩ := call_pre w #[.int .i64 3, .int .i64 i, .int .i64 a, .int .i64 b, .slice C m c, .slice A n d]
  have HX := Lib.hid xz
  have HK := Lib.hid (And.intro k2 k3)
  clear k2 k3 xz ht
  go_enter Try.func16, Try.ntmps16
  go_wp2_with fail
  refine (diskTrim_nil i a _).mono ?_
  rintro e wm ⟨rfl, hb⟩
  have q2 := HK.out.1.keep hb
  have q3 := HK.out.2.keep hb
  have hB := below_then HX.out hb HX.out.size
  obtain ⟨u0, u1, u2, u3, u4, u5, uf⟩ := six_cells q2
  obtain ⟨t0, t1, t2, t3, t4, t5, tf⟩ := six_cells q3
  have hne : w.heap.size + 1 ≠ w.heap.size + 1 + 1 := by omega
  go_wp2_with fail
  have hc : Chg (fun q => q = w.heap.size + 1 + 1) wm (wm.setCell ⟨w.heap.size + 1 + 1, 0, none⟩ (.int .i64 1)) := Chg.set (F := fun q => q = w.heap.size + 1 + 1) (Chg.refl _ _) (.inl rfl) _ _
  refine bodyPost_ret (results_row1 rfl _ _ (w.heap.size + 1) 36 _ (0, 0) _ rfl (call_fin q2 hc hne).1 Try.underlying36 rfl (by kernel_rfl)) rfl ?_
  have hcf := (call_fin q2 hc hne (a := .int .i64 1) (b := .int .i64 0) (c := .int .i64 0) (d := .int .i64 0) (e := .slice none 0 0) (f := .slice none 0 0)).2
  refine ⟨_, rfl, ?_, ?_⟩
  · rw [HT.out]
    exact ⟨none, 0, 0, none, 0, 0, rfl, Bytes.empty _ _, SpAt.nil _ _⟩
  · exact hB.trans (hcf.below hB.size (fun q e => by rcases e with e | e <;> omega))
set_option maxHeartbeats 1600000 in
set_option maxRecDepth 100000 in
theorem calln_4 {w : World} {v : Value} {s : Ps} {A : Option Addr} (hs : PsAt w v s A) (h0 : s.k = 4) :
    Calls Try.prog 16 #[.pointer none, v] w (NilTo w s) := by
  obtain ⟨⟨C, m, c, n, d, rfl, hP, hF⟩, b0, b1⟩ := hs
  obtain ⟨k, i, a, b, p, f⟩ := s
  simp only at h0 hP hF b0 b1
  subst h0
  have ht : toldNil ⟨4, i, a, b, p, f⟩ = { Td.no with e := 1 } := by simp [toldNil]
  have HT := Lib.hid ht
  obtain ⟨xz, k2, k3⟩ := call_pre w #[.int .i64 4, .int .i64 i, .int .i64 a, .int .i64 b, .slice C m c, .slice A n d]
  have HX := Lib.hid xz
  have HK := Lib.hid (And.intro k2 k3)
  clear k2 k3 xz ht
  go_enter Try.func16, Try.ntmps16
  go_wp2_with fail
  refine (diskRead_nil _ _ _ _).mono ?_
  rintro e wm ⟨rfl, hE⟩
  have hb := Below.of_eq hE
  clear hE
  have q2 := HK.out.1.keep hb
  have q3 := HK.out.2.keep hb
  have hB := below_then HX.out hb HX.out.size
  obtain ⟨u0, u1, u2, u3, u4, u5, uf⟩ := six_cells q2
  obtain ⟨t0, t1, t2, t3, t4, t5, tf⟩ := six_cells q3
  have hne : w.heap.size + 1 ≠ w.heap.size + 1 + 1 := by omega
  go_wp2_with fail
  have hc : Chg (fun q => q = w.heap.size + 1 + 1) wm ((wm.setCell ⟨w.heap.size + 1 + 1, 4, none⟩ (.slice none 0 0)).setCell ⟨w.heap.size + 1 + 1, 0, none⟩ (.int .i64 1)) := Chg.set (F := fun q => q = w.heap.size + 1 + 1) (Chg.set (F := fun q => q = w.heap.size + 1 + 1) (Chg.refl _ _) (.inl rfl) _ _) (.inl rfl) _ _
  refine bodyPost_ret (results_row1 rfl _ _ (w.heap.size + 1) 36 _ (0, 0) _ rfl (call_fin q2 hc hne).1 Try.underlying36 rfl (by kernel_rfl)) rfl ?_
  have hcf := (call_fin q2 hc hne (a := .int .i64 1) (b := .int .i64 0) (c := .int .i64 0) (d := .int .i64 0) (e := .slice none 0 0) (f := .slice none 0 0)).2
  refine ⟨_, rfl, ?_, ?_⟩
  · rw [HT.out]
    exact ⟨none, 0, 0, none, 0, 0, rfl, Bytes.empty _ _, SpAt.nil _ _⟩
  · exact hB.trans (hcf.below hB.size (fun q e => by rcases e with e | e <;> omega))
set_option maxHeartbeats 1600000 in
set_option maxRecDepth 100000 in
theorem calln_5 {w : World} {v : Value} {s : Ps} {A : Option Addr} (hs : PsAt w v s A) (h0 : s.k = 5) :
    Calls Try.prog 16 #[.pointer none, v] w (NilTo w s) := by
  obtain ⟨⟨C, m, c, n, d, rfl, hP, hF⟩, b0, b1⟩ := hs
  obtain ⟨k, i, a, b, p, f⟩ := s
  simp only at h0 hP hF b0 b1
  subst h0
  have ht : toldNil ⟨5, i, a, b, p, f⟩ = { Td.no with e := 1 } := by simp [toldNil]
  have HT := Lib.hid ht
  obtain ⟨xz, k2, k3⟩ := call_pre w #[.int .i64 5, .int .i64 i, .int .i64 a, .int .i64 b, .slice C m c, .slice A n d]
  have HX := Lib.hid xz
  have HK := Lib.hid (And.intro k2 k3)
  clear k2 k3 xz ht
  go_enter Try.func16, Try.ntmps16
  go_wp2_with fail
  refine (diskBounds_nil _ _).mono ?_
  rintro e wm ⟨rfl, hE⟩
  have hb := Below.of_eq hE
  clear hE
  have q2 := HK.out.1.keep hb
  have q3 := HK.out.2.keep hb
  have hB := below_then HX.out hb HX.out.size
  obtain ⟨u0, u1, u2, u3, u4, u5, uf⟩ := six_cells q2
  obtain ⟨t0, t1, t2, t3, t4, t5, tf⟩ := six_cells q3
  have hne : w.heap.size + 1 ≠ w.heap.size + 1 + 1 := by omega
  go_wp2_with fail
  have hc : Chg (fun q => q = w.heap.size + 1 + 1) wm ((((wm.setCell ⟨w.heap.size + 1 + 1, 1, none⟩ (.int .i64 0)).setCell ⟨w.heap.size + 1 + 1, 2, none⟩ (.int .i64 0)).setCell ⟨w.heap.size + 1 + 1, 3, none⟩ (.int .i64 0)).setCell ⟨w.heap.size + 1 + 1, 0, none⟩ (.int .i64 1)) := Chg.set (F := fun q => q = w.heap.size + 1 + 1) (Chg.set (F := fun q => q = w.heap.size + 1 + 1) (Chg.set (F := fun q => q = w.heap.size + 1 + 1) (Chg.set (F := fun q => q = w.heap.size + 1 + 1) (Chg.refl _ _) (.inl rfl) _ _) (.inl rfl) _ _) (.inl rfl) _ _) (.inl rfl) _ _
  refine bodyPost_ret (results_row1 rfl _ _ (w.heap.size + 1) 36 _ (0, 0) _ rfl (call_fin q2 hc hne).1 Try.underlying36 rfl (by kernel_rfl)) rfl ?_
  have hcf := (call_fin q2 hc hne (a := .int .i64 1) (b := .int .i64 0) (c := .int .i64 0) (d := .int .i64 0) (e := .slice none 0 0) (f := .slice none 0 0)).2
  refine ⟨_, rfl, ?_, ?_⟩
  · rw [HT.out]
    exact ⟨none, 0, 0, none, 0, 0, rfl, Bytes.empty _ _, SpAt.nil _ _⟩
  · exact hB.trans (hcf.below hB.size (fun q e => by rcases e with e | e <;> omega))
set_option maxHeartbeats 1600000 in
set_option maxRecDepth 100000 in
theorem calln_6 {w : World} {v : Value} {s : Ps} {A : Option Addr} (hs : PsAt w v s A) (h0 : s.k = 6) :
    Calls Try.prog 16 #[.pointer none, v] w (NilTo w s) := by
  obtain ⟨⟨C, m, c, n, d, rfl, hP, hF⟩, b0, b1⟩ := hs
  obtain ⟨k, i, a, b, p, f⟩ := s
  simp only at h0 hP hF b0 b1
  subst h0
  have ht : toldNil ⟨6, i, a, b, p, f⟩ = Td.no := by simp [toldNil]
  have HT := Lib.hid ht
  obtain ⟨xz, k2, k3⟩ := call_pre w #[.int .i64 6, .int .i64 i, .int .i64 a, .int .i64 b, .slice C m c, .slice A n d]
  have HX := Lib.hid xz
  have HK := Lib.hid (And.intro k2 k3)
  clear k2 k3 xz ht
  go_enter Try.func16, Try.ntmps16
  go_wp2_with fail
  refine (diskDone_nil _ _).mono ?_
  rintro e wm ⟨rfl, hE⟩
  have hb := Below.of_eq hE
  clear hE
  have q2 := HK.out.1.keep hb
  have q3 := HK.out.2.keep hb
  have hB := below_then HX.out hb HX.out.size
  obtain ⟨u0, u1, u2, u3, u4, u5, uf⟩ := six_cells q2
  obtain ⟨t0, t1, t2, t3, t4, t5, tf⟩ := six_cells q3
  have hne : w.heap.size + 1 ≠ w.heap.size + 1 + 1 := by omega
  go_wp2_with fail
  have hc : Chg (fun q => q = w.heap.size + 1 + 1) wm ((wm.setCell ⟨w.heap.size + 1 + 1, 1, none⟩ (.int .i64 0)).setCell ⟨w.heap.size + 1 + 1, 0, none⟩ (.int .i64 0)) := Chg.set (F := fun q => q = w.heap.size + 1 + 1) (Chg.set (F := fun q => q = w.heap.size + 1 + 1) (Chg.refl _ _) (.inl rfl) _ _) (.inl rfl) _ _
  refine bodyPost_ret (results_row1 rfl _ _ (w.heap.size + 1) 36 _ (0, 0) _ rfl (call_fin q2 hc hne).1 Try.underlying36 rfl (by kernel_rfl)) rfl ?_
  have hcf := (call_fin q2 hc hne (a := .int .i64 0) (b := .int .i64 0) (c := .int .i64 0) (d := .int .i64 0) (e := .slice none 0 0) (f := .slice none 0 0)).2
  refine ⟨_, rfl, ?_, ?_⟩
  · rw [HT.out]
    exact ⟨none, 0, 0, none, 0, 0, rfl, Bytes.empty _ _, SpAt.nil _ _⟩
  · exact hB.trans (hcf.below hB.size (fun q e => by rcases e with e | e <;> omega))
set_option maxHeartbeats 1600000 in
set_option maxRecDepth 100000 in
theorem calln_7 {w : World} {v : Value} {s : Ps} {A : Option Addr} (hs : PsAt w v s A) (h0 : s.k = 7) :
    Calls Try.prog 16 #[.pointer none, v] w (NilTo w s) := by
  obtain ⟨⟨C, m, c, n, d, rfl, hP, hF⟩, b0, b1⟩ := hs
  obtain ⟨k, i, a, b, p, f⟩ := s
  simp only at h0 hP hF b0 b1
  subst h0
  have ht : toldNil ⟨7, i, a, b, p, f⟩ = Td.no := by simp [toldNil]
  have HT := Lib.hid ht
  obtain ⟨xz, k2, k3⟩ := call_pre w #[.int .i64 7, .int .i64 i, .int .i64 a, .int .i64 b, .slice C m c, .slice A n d]
  have HX := Lib.hid xz
  have HK := Lib.hid (And.intro k2 k3)
  clear k2 k3 xz ht
  go_enter Try.func16, Try.ntmps16
  go_wp2_with fail
  refine (diskArm_nil _ _).mono ?_
  rintro e wm ⟨rfl, hE⟩
  have hb := Below.of_eq hE
  clear hE
  have q2 := HK.out.1.keep hb
  have q3 := HK.out.2.keep hb
  have hB := below_then HX.out hb HX.out.size
  obtain ⟨u0, u1, u2, u3, u4, u5, uf⟩ := six_cells q2
  obtain ⟨t0, t1, t2, t3, t4, t5, tf⟩ := six_cells q3
  have hne : w.heap.size + 1 ≠ w.heap.size + 1 + 1 := by omega
  go_wp2_with fail
  have hc : Chg (fun q => q = w.heap.size + 1 + 1) wm (wm.setCell ⟨w.heap.size + 1 + 1, 0, none⟩ (.int .i64 0)) := Chg.set (F := fun q => q = w.heap.size + 1 + 1) (Chg.refl _ _) (.inl rfl) _ _
  refine bodyPost_ret (results_row1 rfl _ _ (w.heap.size + 1) 36 _ (0, 0) _ rfl (call_fin q2 hc hne).1 Try.underlying36 rfl (by kernel_rfl)) rfl ?_
  have hcf := (call_fin q2 hc hne (a := .int .i64 0) (b := .int .i64 0) (c := .int .i64 0) (d := .int .i64 0) (e := .slice none 0 0) (f := .slice none 0 0)).2
  refine ⟨_, rfl, ?_, ?_⟩
  · rw [HT.out]
    exact ⟨none, 0, 0, none, 0, 0, rfl, Bytes.empty _ _, SpAt.nil _ _⟩
  · exact hB.trans (hcf.below hB.size (fun q e => by rcases e with e | e <;> omega))
set_option maxHeartbeats 1600000 in
set_option maxRecDepth 100000 in
theorem calln_8 {w : World} {v : Value} {s : Ps} {A : Option Addr} (hs : PsAt w v s A) (h0 : s.k = 8) :
    Calls Try.prog 16 #[.pointer none, v] w (NilTo w s) := by
  obtain ⟨⟨C, m, c, n, d, rfl, hP, hF⟩, b0, b1⟩ := hs
  obtain ⟨k, i, a, b, p, f⟩ := s
  simp only at h0 hP hF b0 b1
  subst h0
  have ht : toldNil ⟨8, i, a, b, p, f⟩ = Td.no := by simp [toldNil]
  have HT := Lib.hid ht
  obtain ⟨xz, k2, k3⟩ := call_pre w #[.int .i64 8, .int .i64 i, .int .i64 a, .int .i64 b, .slice C m c, .slice A n d]
  have HX := Lib.hid xz
  have HK := Lib.hid (And.intro k2 k3)
  clear k2 k3 xz ht
  go_enter Try.func16, Try.ntmps16
  go_wp2_with fail
  refine (diskStrike_nil _).mono ?_
  rintro e wm ⟨rfl, hE⟩
  have hb := Below.of_eq hE
  clear hE
  have q2 := HK.out.1.keep hb
  have q3 := HK.out.2.keep hb
  have hB := below_then HX.out hb HX.out.size
  obtain ⟨u0, u1, u2, u3, u4, u5, uf⟩ := six_cells q2
  obtain ⟨t0, t1, t2, t3, t4, t5, tf⟩ := six_cells q3
  have hne : w.heap.size + 1 ≠ w.heap.size + 1 + 1 := by omega
  go_wp2_with fail
  have hc : Chg (fun q => q = w.heap.size + 1 + 1) wm (wm.setCell ⟨w.heap.size + 1 + 1, 0, none⟩ (.int .i64 0)) := Chg.set (F := fun q => q = w.heap.size + 1 + 1) (Chg.refl _ _) (.inl rfl) _ _
  refine bodyPost_ret (results_row1 rfl _ _ (w.heap.size + 1) 36 _ (0, 0) _ rfl (call_fin q2 hc hne).1 Try.underlying36 rfl (by kernel_rfl)) rfl ?_
  have hcf := (call_fin q2 hc hne (a := .int .i64 0) (b := .int .i64 0) (c := .int .i64 0) (d := .int .i64 0) (e := .slice none 0 0) (f := .slice none 0 0)).2
  refine ⟨_, rfl, ?_, ?_⟩
  · rw [HT.out]
    exact ⟨none, 0, 0, none, 0, 0, rfl, Bytes.empty _ _, SpAt.nil _ _⟩
  · exact hB.trans (hcf.below hB.size (fun q e => by rcases e with e | e <;> omega))
set_option maxHeartbeats 1600000 in
set_option maxRecDepth 100000 in
theorem calln_10 {w : World} {v : Value} {s : Ps} {A : Option Addr} (hs : PsAt w v s A) (h0 : s.k = 10) :
    Calls Try.prog 16 #[.pointer none, v] w (NilTo w s) := by
  obtain ⟨⟨C, m, c, n, d, rfl, hP, hF⟩, b0, b1⟩ := hs
  obtain ⟨k, i, a, b, p, f⟩ := s
  simp only at h0 hP hF b0 b1
  subst h0
  have ht : toldNil ⟨10, i, a, b, p, f⟩ = Td.no := by simp [toldNil]
  have HT := Lib.hid ht
  obtain ⟨xz, k2, k3⟩ := call_pre w #[.int .i64 10, .int .i64 i, .int .i64 a, .int .i64 b, .slice C m c, .slice A n d]
  have HX := Lib.hid xz
  have HK := Lib.hid (And.intro k2 k3)
  clear k2 k3 xz ht
  go_enter Try.func16, Try.ntmps16
  go_wp2_with fail
  refine (diskAreas_nil _).mono ?_
  rintro e wm ⟨rfl, hE⟩
  have hb := Below.of_eq hE
  clear hE
  have q2 := HK.out.1.keep hb
  have q3 := HK.out.2.keep hb
  have hB := below_then HX.out hb HX.out.size
  obtain ⟨u0, u1, u2, u3, u4, u5, uf⟩ := six_cells q2
  obtain ⟨t0, t1, t2, t3, t4, t5, tf⟩ := six_cells q3
  have hne : w.heap.size + 1 ≠ w.heap.size + 1 + 1 := by omega
  go_wp2_with fail
  have hc : Chg (fun q => q = w.heap.size + 1 + 1) wm ((wm.setCell ⟨w.heap.size + 1 + 1, 1, none⟩ (.int .i64 0)).setCell ⟨w.heap.size + 1 + 1, 0, none⟩ (.int .i64 0)) := Chg.set (F := fun q => q = w.heap.size + 1 + 1) (Chg.set (F := fun q => q = w.heap.size + 1 + 1) (Chg.refl _ _) (.inl rfl) _ _) (.inl rfl) _ _
  refine bodyPost_ret (results_row1 rfl _ _ (w.heap.size + 1) 36 _ (0, 0) _ rfl (call_fin q2 hc hne).1 Try.underlying36 rfl (by kernel_rfl)) rfl ?_
  have hcf := (call_fin q2 hc hne (a := .int .i64 0) (b := .int .i64 0) (c := .int .i64 0) (d := .int .i64 0) (e := .slice none 0 0) (f := .slice none 0 0)).2
  refine ⟨_, rfl, ?_, ?_⟩
  · rw [HT.out]
    exact ⟨none, 0, 0, none, 0, 0, rfl, Bytes.empty _ _, SpAt.nil _ _⟩
  · exact hB.trans (hcf.below hB.size (fun q e => by rcases e with e | e <;> omega))
set_option maxHeartbeats 1600000 in
set_option maxRecDepth 100000 in
theorem calln_9 {w : World} {v : Value} {s : Ps} {A : Option Addr} (hs : PsAt w v s A) (h0 : s.k = 9) :
    Calls Try.prog 16 #[.pointer none, v] w (NilTo w s) := by
  obtain ⟨⟨C, m, c, n, d, rfl, hP, hF⟩, b0, b1⟩ := hs
  obtain ⟨k, i, a, b, p, f⟩ := s
  simp only at h0 hP hF b0 b1
  subst h0
  have ht : toldNil ⟨9, i, a, b, p, f⟩ = Td.no := by simp [toldNil]
  have HT := Lib.hid ht
  obtain ⟨xz, k2, k3⟩ := call_pre w #[.int .i64 9, .int .i64 i, .int .i64 a, .int .i64 b, .slice C m c, .slice A n d]
  have HX := Lib.hid xz
  have HK := Lib.hid (And.intro k2 k3)
  clear k2 k3 xz ht
  go_enter Try.func16, Try.ntmps16
  go_wp2_with fail
  refine (diskImage_nil _).mono ?_
  rintro e wm ⟨A9, n9, c9, qs, rfl, hS, hq, hb⟩
  obtain rfl : qs = [] := by simpa using hq
  obtain rfl : n9 = 0 := hS.len.symm
  have q2 := HK.out.1.keep hb
  have q3 := HK.out.2.keep hb
  have hB := below_then HX.out hb HX.out.size
  obtain ⟨u0, u1, u2, u3, u4, u5, uf⟩ := six_cells q2
  obtain ⟨t0, t1, t2, t3, t4, t5, tf⟩ := six_cells q3
  have hne : w.heap.size + 1 ≠ w.heap.size + 1 + 1 := by omega
  go_wp2_with fail
  have hc : Chg (fun q => q = w.heap.size + 1 + 1) wm ((wm.setCell ⟨w.heap.size + 1 + 1, 5, none⟩ (.slice A9 0 c9)).setCell ⟨w.heap.size + 1 + 1, 0, none⟩ (.int .i64 0)) := Chg.set (F := fun q => q = w.heap.size + 1 + 1) (Chg.set (F := fun q => q = w.heap.size + 1 + 1) (Chg.refl _ _) (.inl rfl) _ _) (.inl rfl) _ _
  refine bodyPost_ret (results_row1 rfl _ _ (w.heap.size + 1) 36 _ (0, 0) _ rfl (call_fin q2 hc hne).1 Try.underlying36 rfl (by kernel_rfl)) rfl ?_
  have hcf := (call_fin q2 hc hne (a := .int .i64 0) (b := .int .i64 0) (c := .int .i64 0) (d := .int .i64 0) (e := .slice none 0 0) (f := .slice A9 0 c9)).2
  refine ⟨_, rfl, ?_, ?_⟩
  · rw [HT.out]
    exact ⟨none, 0, 0, A9, 0, c9, rfl, Bytes.empty _ _, SpAt.nil _ _⟩
  · exact hB.trans (hcf.below hB.size (fun q e => by rcases e with e | e <;> omega))
set_option maxHeartbeats 1600000 in
set_option maxRecDepth 100000 in
theorem calln_X {w : World} {v : Value} {s : Ps} {A : Option Addr} (hs : PsAt w v s A) (h0 : s.k < 0 ∨ 10 < s.k) :
    Calls Try.prog 16 #[.pointer none, v] w (NilTo w s) := by
  obtain ⟨⟨C, m, c, n, d, rfl, hP, hF⟩, b0, b1⟩ := hs
  obtain ⟨k, i, a, b, p, f⟩ := s
  simp only at h0 hP hF b0 b1
  have n0 : k ≠ 0 := by omega
  have n1 : k ≠ 1 := by omega
  have n2 : k ≠ 2 := by omega
  have n3 : k ≠ 3 := by omega
  have n4 : k ≠ 4 := by omega
  have n5 : k ≠ 5 := by omega
  have n6 : k ≠ 6 := by omega
  have n7 : k ≠ 7 := by omega
  have n8 : k ≠ 8 := by omega
  have n9 : k ≠ 9 := by omega
  have n10 : k ≠ 10 := by omega
  have ht : toldNil ⟨k, i, a, b, p, f⟩ = Td.no := by
    unfold toldNil
    rw [if_neg (by simp only; omega)]
  have HT := Lib.hid ht
  obtain ⟨xz, k2, k3⟩ := call_pre w #[.int .i64 k, .int .i64 i, .int .i64 a, .int .i64 b, .slice C m c, .slice A n d]
  have HX := Lib.hid xz
  have HK := Lib.hid k2
  clear k2 k3 xz ht
  go_enter Try.func16, Try.ntmps16
  go_wp2_with fail
  refine bodyPost_ret (results_row1 rfl _ _ (w.heap.size + 1) 36 _ (0, 0) _ rfl HK.out Try.underlying36 rfl (by kernel_rfl)) rfl ?_
  refine ⟨_, rfl, ?_, HX.out⟩
  rw [HT.out]
  exact ⟨none, 0, 0, none, 0, 0, rfl, Bytes.empty _ _, SpAt.nil _ _⟩
theorem calln_any {w : World} {v : Value} {s : Ps} {A : Option Addr} (hs : PsAt w v s A) :
    Calls Try.prog 16 #[.pointer none, v] w (NilTo w s) := by
  by_cases h0 : s.k = 0
  · exact calln_0 hs h0
  by_cases h1 : s.k = 1
  · exact calln_1 hs h1
  by_cases h2 : s.k = 2
  · exact calln_2 hs h2
  by_cases h3 : s.k = 3
  · exact calln_3 hs h3
  by_cases h4 : s.k = 4
  · exact calln_4 hs h4
  by_cases h5 : s.k = 5
  · exact calln_5 hs h5
  by_cases h6 : s.k = 6
  · exact calln_6 hs h6
  by_cases h7 : s.k = 7
  · exact calln_7 hs h7
  by_cases h8 : s.k = 8
  · exact calln_8 hs h8
  by_cases h9 : s.k = 9
  · exact calln_9 hs h9
  by_cases h10 : s.k = 10
  · exact calln_10 hs h10
  exact calln_X hs (by omega)
end Go.Proofs.Ytodaplkijdjbpaa
