/- Package disk, walked: operate. -/
import Derived.Test.YtodaplkijdjbpaaFind
namespace Go.Proofs.Ytodaplkijdjbpaa
open Go.RowKit
set_option linter.unusedVariables false
set_option linter.unusedSimpArgs false
theorem operate_nil (i v : Value) (w : World) :
    Calls Try.prog 47 #[.pointer none, i, v] w fun e w' => e = .returned (.int .i64 1) ∧ w = w' := by
  go_enter Try.func47, Try.ntmps47
  go_wp2_with fail
  refine (find_nil _ _).mono ?_
  rintro e w1 ⟨rfl, rfl⟩
  go_wp2_with fail
  go_ret
  exact ⟨rfl, rfl⟩
section
variable {w : World} {G pb K : Nat} {ls : Nat → Loc} {P : Pd}
theorem operate_bad (h : DAt w G pb ls P K) (i : Int) (hi : i < 0 ∨ (P.n : Int) ≤ i) (v : Value) :
    Calls Try.prog 47 #[.pointer (some ⟨G, 0, none⟩), .int .i64 i, v] w fun e w' => e = .returned (.int .i64 81) ∧ w = w' := by
  go_enter Try.func47, Try.ntmps47
  go_wp2_with fail
  refine (find_bad h i hi).mono ?_
  rintro e w1 ⟨rfl, rfl⟩
  go_wp2_with fail
  go_ret
  exact ⟨rfl, rfl⟩
/-- Is an area's operation refused? -/
def Pd.down (P : Pd) (j : Nat) : Bool := P.armed && decide ((P.p j).f.d ≤ ((P.p j).done : Int))
theorem operate_down (h : DAt w G pb ls P K) (j : Nat) (hj : j < P.n) (hd : P.down j = true) (v : Value) :
    Calls Try.prog 47 #[.pointer (some ⟨G, 0, none⟩), .int .i64 (j : Int), v] w fun e w' => e = .returned (.int .i64 80) ∧ Below w.heap.size w w' := by
  obtain ⟨cs, hb, hcs⟩ := h.ps
  have cG : w.cell? ⟨G, 1, none⟩ = _ := h.hd.cell 1
  have c1 : w.cell? ⟨pb, j * 5 + 1, none⟩ = _ := (hb.cell _).trans (hcs.fd j hj)
  have c4 : w.cell? ⟨pb, j * 5 + 4, none⟩ = _ := (hb.cell _).trans (hcs.dn j hj)
  simp [Pd.down] at cG hd
  have h1 : P.armed = true := hd.1
  have h2 : decide ((P.p j).f.d ≤ ((P.p j).done : Int)) = true := decide_eq_true hd.2
  rw [h1] at cG
  generalize (P.p j).f.d = fd at *
  generalize (P.p j).done = dn at *
  clear hd h1
  go_enter Try.func47, Try.ntmps47
  go_wp2_with fail
  refine (find_ok h j hj).mono ?_
  rintro e w1 ⟨rfl, rfl⟩
  go_wp2_with fail
  go_quiet (fail)
  go_wp2_with fail
  go_ret
  exact ⟨rfl, below_drew7 _ _⟩
theorem operate_ok (h : DAt w G pb ls P K) (j : Nat) (hj : j < P.n) (hd : P.down j = false) (fn : Nat) (lb : Array Value) (eg : ∀ args w, (callFunc fn args).run Try.prog w = .ok (.enter fn args) w) {base : Int} {bs : List UInt8} {s L : Nat}
    (hl : (⟨base, bs, s, (P.p j).f, (P.p j).done + 1⟩ : Pa).lim L) (hk : K ≤ L) (hL : L ≤ 4294967296)
    (hf : ∀ w1, Below w.heap.size w w1 → Calls Try.prog fn (#[.pointer (some ⟨(ls j).g, 0, none⟩)] ++ lb) w1 (ArTo w1 (arF (ls j).g (ls j).A) (ls j).g base bs s 0)) :
    Calls Try.prog 47 #[.pointer (some ⟨G, 0, none⟩), .int .i64 (j : Int), .func (.func fn) #[] lb] w fun e w' => e = .returned (.int .i64 0) ∧ DTo w G pb ls (P.set j ⟨base, bs, s, (P.p j).f, (P.p j).done + 1⟩) L w' P.n := by
  obtain ⟨cs, hb, hcs⟩ := h.ps
  have cG : w.cell? ⟨G, 1, none⟩ = _ := h.hd.cell 1
  have c0 : w.cell? ⟨pb, j * 5, none⟩ = _ := (hb.cell _).trans (hcs.ptr j hj)
  have c1 : w.cell? ⟨pb, j * 5 + 1, none⟩ = _ := (hb.cell _).trans (hcs.fd j hj)
  have c4 : w.cell? ⟨pb, j * 5 + 4, none⟩ = _ := (hb.cell _).trans (hcs.dn j hj)
  simp at cG
  have HD := Lib.hid h
  have HF := Lib.hid hf
  have HL := Lib.hid hl
  have HFI := Lib.hid (find_ok h j hj)
  have hdl := (h.lim.a j hj).d
  have HCS := Lib.hid (And.intro hb hcs)
  obtain ⟨fd, hfd⟩ : ∃ fd, (P.p j).f.d = fd := ⟨_, rfl⟩
  obtain ⟨dn, hdn⟩ : ∃ dn, (P.p j).done = dn := ⟨_, rfl⟩
  obtain ⟨ar, har⟩ : ∃ ar, P.armed = ar := ⟨_, rfl⟩
  simp only [Pd.down] at hd
  rw [hfd] at c1 hd
  rw [hdn] at c4 hd hdl
  rw [har] at cG hd
  have HN := Lib.hid hdn
  clear h hf hl hb hcs hfd hdn har
  go_enter Try.func47, Try.ntmps47
  go_wp2_with fail
  refine HFI.out.mono ?_
  rintro e w1 ⟨rfl, rfl⟩
  go_wp2_with fail
  go_cut [33] from 18 to 32 (fun v wx => v = .bool false ∧ Below w.heap.size w wx)
  case first =>
    cases ar with
    | false =>
      go_quiet (fail)
      go_wp2_with fail
      go_meet
      exact ⟨rfl, below_drew7 _ _⟩
    | true =>
      simp only [Bool.true_and] at hd
      go_quiet (fail)
      go_wp2_with fail
      go_meet
      exact ⟨rfl, below_drew7 _ _⟩
  case rest =>
    obtain ⟨rfl, hbw⟩ := hcut
    have c0c := (hbw.cell (p := ⟨pb, j * 5, none⟩) (block_lt_of_cell c0)).trans c0
    clear c0 c1 c4 cG hd
    go_wp2_with fail
    refine (HF.out wc hbw).mono ?_
    rintro e w2 ⟨rfl, A2, c2, ha2, hc2, hA2⟩
    have hl1 : (⟨base, bs, s, (P.p j).f, (P.p j).done⟩ : Pa).lim L := ⟨by have := HL.out.d; simp only at this ⊢; omega, HL.out.b0, HL.out.e, HL.out.n, HL.out.s, HL.out.f⟩
    obtain ⟨ls2, hD2, hcc, hkk⟩ := (HD.out.below hbw).op j hj ha2 hc2 hA2 hl1 hk
    obtain ⟨cs2, hb2, hcs2⟩ := hD2.ps
    have c42 : w2.cell? ⟨pb, j * 5 + 4, none⟩ = _ := (hb2.cell _).trans (hcs2.dn j hj)
    have f42 := hb2.frozen (j * 5 + 4)
    simp only [Pd.set, upd_same] at c42
    rw [HN.out] at c42
    have hset := chg_set w2 pb (j * 5 + 4) (.int .i64 ((dn : Int) + 1))
    have hfin : DTo w G pb ls (P.set j ⟨base, bs, s, (P.p j).f, (P.p j).done + 1⟩) L (w2.setCell ⟨pb, j * 5 + 4, none⟩ (.int .i64 ((dn : Int) + 1))) P.n := by
      have hcd := hcs2.done j hj (dn + 1)
      have h3 := hD2.cells (Q := P.set j ⟨base, bs, s, (P.p j).f, (P.p j).done + 1⟩) (L := L) (w' := w2.setCell ⟨pb, j * 5 + 4, none⟩ (.int .i64 ((dn : Int) + 1))) rfl (fun i hi => by
        by_cases e : i = j
        · subst e; simp only [Pd.set, upd_same]; exact ⟨trivial, trivial, trivial⟩
        · simp only [Pd.set, upd_other _ _ _ _ e]; exact ⟨trivial, trivial, trivial⟩) ((HD.out.lim.mono hk).set j HL.out) (hset.mono (fun k e => .inr e)) (hD2.hd.chg hset (fun e => hD2.pbG e.symm)) (Blk.set hb2 (j * 5 + 4) (.int .i64 ((dn : Int) + 1))) (by
          rw [Pd.set_set] at hcd
          simp only [Pd.set, upd_same] at hcd
          rw [← HN.out] at hcd ⊢
          exact hcd)
      exact DTo.after hbw (DTo.trans hcc hkk h3)
    have HFIN := Lib.hid hfin
    clear hfin hset hb2 hcs2 hD2 hcc hkk ha2 hc2 hA2 hl1
    go_wp2_with fail
    go_ret
    exact ⟨rfl, HFIN.out⟩
theorem operate_no (h : DAt w G pb ls P K) (j : Nat) (hj : j < P.n) (hd : P.down j = false) (fn : Nat) (lb : Array Value) (eg : ∀ args w, (callFunc fn args).run Try.prog w = .ok (.enter fn args) w)
    (hf : ∀ w1, Below w.heap.size w w1 → Calls Try.prog fn (#[.pointer (some ⟨(ls j).g, 0, none⟩)] ++ lb) w1 (fun e w' => e = .returned (.int .i64 70) ∧ Below w1.heap.size w1 w')) :
    Calls Try.prog 47 #[.pointer (some ⟨G, 0, none⟩), .int .i64 (j : Int), .func (.func fn) #[] lb] w fun e w' => e = .returned (.int .i64 70) ∧ Below w.heap.size w w' := by
  obtain ⟨cs, hb, hcs⟩ := h.ps
  have cG : w.cell? ⟨G, 1, none⟩ = _ := h.hd.cell 1
  have c0 : w.cell? ⟨pb, j * 5, none⟩ = _ := (hb.cell _).trans (hcs.ptr j hj)
  have c1 : w.cell? ⟨pb, j * 5 + 1, none⟩ = _ := (hb.cell _).trans (hcs.fd j hj)
  have c4 : w.cell? ⟨pb, j * 5 + 4, none⟩ = _ := (hb.cell _).trans (hcs.dn j hj)
  simp at cG
  have HD := Lib.hid h
  have HF := Lib.hid hf
  have HFI := Lib.hid (find_ok h j hj)
  have hdl := (h.lim.a j hj).d
  have HCS := Lib.hid (And.intro hb hcs)
  obtain ⟨fd, hfd⟩ : ∃ fd, (P.p j).f.d = fd := ⟨_, rfl⟩
  obtain ⟨dn, hdn⟩ : ∃ dn, (P.p j).done = dn := ⟨_, rfl⟩
  obtain ⟨ar, har⟩ : ∃ ar, P.armed = ar := ⟨_, rfl⟩
  simp only [Pd.down] at hd
  rw [hfd] at c1 hd
  rw [hdn] at c4 hd hdl
  rw [har] at cG hd
  have HN := Lib.hid hdn
  clear h hf hb hcs hfd hdn har
  go_enter Try.func47, Try.ntmps47
  go_wp2_with fail
  refine HFI.out.mono ?_
  rintro e w1 ⟨rfl, rfl⟩
  go_wp2_with fail
  go_cut [33] from 18 to 32 (fun v wx => v = .bool false ∧ Below w.heap.size w wx)
  case first =>
    cases ar with
    | false =>
      go_quiet (fail)
      go_wp2_with fail
      go_meet
      exact ⟨rfl, below_drew7 _ _⟩
    | true =>
      simp only [Bool.true_and] at hd
      go_quiet (fail)
      go_wp2_with fail
      go_meet
      exact ⟨rfl, below_drew7 _ _⟩
  case rest =>
    obtain ⟨rfl, hbw⟩ := hcut
    have c0c := (hbw.cell (p := ⟨pb, j * 5, none⟩) (block_lt_of_cell c0)).trans c0
    clear c0 c1 c4 cG hd
    go_wp2_with fail
    refine (HF.out wc hbw).mono ?_
    rintro e w2 ⟨rfl, hb2⟩
    go_wp2_with fail
    go_ret
    exact ⟨rfl, below_then hbw hb2 hbw.size⟩
end
end Go.Proofs.Ytodaplkijdjbpaa
