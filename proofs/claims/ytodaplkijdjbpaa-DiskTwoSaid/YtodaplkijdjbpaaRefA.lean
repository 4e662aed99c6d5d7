/- The document's disk, walked: Arm. -/
import Derived.Test.YtodaplkijdjbpaaRefR
namespace Go.Proofs.Ytodaplkijdjbpaa
open Go.RowKit
set_option linter.unusedVariables false
set_option linter.unusedSimpArgs false
theorem RAt.ext {w : World} {A : Option Addr} {P Q : Pd} {F : Nat → Prop} (h : RAt w A P F) (hn : P.n = Q.n) (hp : ∀ j, j < P.n → P.p j = Q.p j) : RAt w A Q F := by
  obtain ⟨q, h1, h2, h3⟩ := h
  exact ⟨q, h1, h2, fun j hj => by rw [← hp j (by omega)]; exact h3 j (by omega)⟩
/-- What holds while Arm and Strike go round: the disk's variable, the result's, the first disk. -/
structure Lp (w wr : World) (G R q : Nat) (P Q : Pd) (F : Nat → Prop) (Ak : Option Addr) (ck : Nat) : Prop where
  d : Blk wr G #[.slice Ak P.n ck, .bool P.armed] 48
  r : Blk wr R #[.slice none 0 0, .bool false] 48
  ra : RAt wr Ak Q (fun x => New F w wr x ∧ x ≠ G ∧ x ≠ R)
  r0 : RAt wr (some ⟨q, 0, none⟩) P F
  b : Below w.heap.size w wr
  lG : w.heap.size ≤ G
  lR : w.heap.size ≤ R
  ne : G ≠ R
section
variable {w wr wc w5 : World} {G R q ck c5 : Nat} {P Q : Pd} {F : Nat → Prop} {Ak A5 : Option Addr}
theorem Lp.below (h : Lp w wr G R q P Q F Ak ck) (hb : Below wr.heap.size wr wc) : Lp w wc G R q P Q F Ak ck :=
  ⟨h.d.keep hb, h.r.keep hb, (h.ra.below hb).mono (fun k e => ⟨New.low hb.size k e.1, e.2⟩), h.r0.below hb, below_then h.b hb h.b.size, h.lG, h.lR, h.ne⟩
theorem Lp.next {Q' : Pd} (h : Lp w wc G R q P Q F Ak ck) (h5 : RAt w5 A5 Q' (New (fun x => New F w wc x ∧ x ≠ G ∧ x ≠ R) wc w5)) (hb5 : Below wc.heap.size wc w5) (hF : ∀ k, F k → k < w.heap.size) :
    Lp w ((w5.setCell ⟨G, 0, none⟩ (.slice A5 P.n c5)).setCell ⟨G, 1, none⟩ (.bool P.armed)) G R q P Q' F A5 c5 := by
  have hC := (chg_set w5 G 0 (.slice A5 P.n c5)).set (.inl rfl) 1 (.bool P.armed)
  have hz := hC.size
  have h1 := h.d.lt
  have h2 := h.r.lt
  have h3 := hb5.size
  have h4 := h.b.size
  have hl := h.lG
  have hB := below_then h.b hb5 h.b.size
  refine ⟨((h.d.keep hb5).set 0 _).set 1 _, (h.r.keep hb5).chg hC (fun e => h.ne e.symm), ?_, (h.r0.below hb5).chg (hC.mono (fun k e e2 => by subst e; have := hF k e2; omega)), hB.trans (hC.below hB.size (fun k e => by subst e; exact h.lG)), h.lG, h.lR, h.ne⟩
  refine (h5.chg (hC.mono (fun k e e2 => ?_))).mono (fun k e => ?_)
  · subst e
    rcases e2 with e2 | e2
    · exact e2.2.1 rfl
    · omega
  · rcases e with e | e
    · exact ⟨New.low (by omega) k e.1, e.2⟩
    · exact ⟨.inr ⟨by omega, by omega⟩, by omega, by omega⟩
theorem Lp.fin (h : Lp w wr G R q P Q F Ak ck) (b : Bool) :
    Blk (((wr.setCell ⟨G, 1, none⟩ (.bool b)).setCell ⟨R, 0, none⟩ (.slice Ak P.n ck)).setCell ⟨R, 1, none⟩ (.bool b)) R #[.slice Ak P.n ck, .bool b] 48 ∧
    RAt (((wr.setCell ⟨G, 1, none⟩ (.bool b)).setCell ⟨R, 0, none⟩ (.slice Ak P.n ck)).setCell ⟨R, 1, none⟩ (.bool b)) Ak Q (New F w (((wr.setCell ⟨G, 1, none⟩ (.bool b)).setCell ⟨R, 0, none⟩ (.slice Ak P.n ck)).setCell ⟨R, 1, none⟩ (.bool b))) ∧
    Below w.heap.size w (((wr.setCell ⟨G, 1, none⟩ (.bool b)).setCell ⟨R, 0, none⟩ (.slice Ak P.n ck)).setCell ⟨R, 1, none⟩ (.bool b)) := by
  have hC : Chg (fun k => k = G ∨ k = R) wr (((wr.setCell ⟨G, 1, none⟩ (.bool b)).setCell ⟨R, 0, none⟩ (.slice Ak P.n ck)).setCell ⟨R, 1, none⟩ (.bool b)) :=
    ((((chg_set wr G 1 (.bool b)).mono (fun k e => .inl e) : Chg (fun k => k = G ∨ k = R) _ _)).set (.inl (.inr rfl)) 0 _).set (.inl (.inr rfl)) 1 _
  refine ⟨((h.r.chg (chg_set wr G 1 (.bool b)) (fun e => h.ne e.symm)).set 0 _).set 1 _, ?_, h.b.trans (hC.below h.b.size (fun k e => by rcases e with e | e <;> subst e; exact h.lG; exact h.lR))⟩
  refine (h.ra.chg (hC.mono (fun k e e2 => ?_))).mono (fun k e => New.low hC.size k e.1)
  rcases e with e | e
  · exact e2.2.1 e
  · exact e2.2.2 e
end
theorem armK_zero (P : Pd) (fs : List Ft) : P.armK fs 0 = P := by simp [Pd.armK]
theorem armK_succ (P : Pd) (fs : List Ft) (k : Nat) : (P.armK fs k).set k ((P.p k).arm (fs.getD k Ft.no)) = P.armK fs (k + 1) := by
  simp only [Pd.set, Pd.armK]
  congr 1
  funext j
  by_cases e : j = k
  · subst e; rw [upd_same, if_pos (by omega)]
  · rw [upd_other _ _ _ _ e]
    by_cases e2 : j < k
    · rw [if_pos e2, if_pos (by omega)]
    · rw [if_neg e2, if_neg (by omega)]
/-- The area's variable as Arm leaves it. -/
theorem arm_cells (pa : Pa) (B : Option Addr) (cc : Nat) (f : Ft) : (((((rArr pa B cc).setIfInBounds 2 (.int .i64 0)).setIfInBounds 4 (.int .i64 f.d)).setIfInBounds 5 (.int .i64 f.k)).setIfInBounds 6 (.int .u8 ((f.t.toNat : Nat) : Int))) = rArr (pa.arm f) B cc := rfl
set_option maxHeartbeats 3200000 in
theorem refArm_any {w : World} {A0 : Option Addr} {P : Pd} {F : Nat → Prop} {K : Nat} (h : RAt w A0 P F) (hF : ∀ k, F k → k < w.heap.size) (hl : P.lim K) (c0 : Nat) (FA : Option Addr) (n d : Nat) (fs : List Ft) (hf : FtAt w FA n fs) :
    Calls Try.prog 60 #[rV P A0 c0, .slice FA n d] w (RTo (P.arm fs true) F w) := by
  have hn := hl.n1
  obtain ⟨q, rfl⟩ := h.addr
  have x1 := below_alloc w (.cells #[.slice (some ⟨q, 0, none⟩) P.n c0, .bool P.armed] 48)
  have b1 := Blk.fresh w #[.slice (some ⟨q, 0, none⟩) P.n c0, .bool P.armed] 48
  have z1 : w.heap.size < (w.alloc (.cells #[.slice (some ⟨q, 0, none⟩) P.n c0, .bool P.armed] 48)).heap.size := by simp
  generalize hw1 : w.alloc (.cells #[.slice (some ⟨q, 0, none⟩) P.n c0, .bool P.armed] 48) = w1 at *
  have x2 := below_alloc w1 (.cells #[.slice none 0 0, .bool false] 48)
  have b2 := Blk.fresh w1 #[.slice none 0 0, .bool false] 48
  have d1 := b1.keep x2
  have y2 := below_then x1 x2 x1.size
  have hz2 := x2.size
  generalize hw2 : w1.alloc (.cells #[.slice none 0 0, .bool false] 48) = w2 at *
  have LP : Lp w w2 w.heap.size w1.heap.size q P (P.armK fs 0) F (some ⟨q, 0, none⟩) c0 :=
    ⟨d1, b2, by rw [armK_zero]; exact (h.below y2).mono (fun k e => ⟨.inl e, by have := hF k e; omega, by have := hF k e; omega⟩), h.below y2, y2, Nat.le_refl _, by omega, by omega⟩
  have g0 : w2.cell? ⟨w.heap.size, 0, none⟩ = some (.slice (some ⟨q, 0, none⟩) P.n c0) := d1.cell 0
  have HLP := Lib.hid LP
  have HFF := Lib.hid hF
  have HFT := Lib.hid hf
  have HL := Lib.hid hl
  clear h hF hl hf x1 b1 x2 b2 d1 y2 LP hz2
  unfold rV
  go_enter Try.func60, Try.ntmps60
  go_wp2_with fail
  go_loopw [10] (fun i wr => ∃ k : Nat, ∃ Ak ck, k ≤ P.n ∧ i = .int .i64 k ∧ Hid (Lp w wr w.heap.size w1.heap.size q P (P.armK fs k) F Ak ck)) (fun i _ => P.n - (intOf i).toNat)
  case atStart => exact ⟨0, _, _, Nat.zero_le _, rfl, HLP⟩
  case round =>
    clear g0 HLP hw1 hw2
    obtain ⟨k, Ak, ck, hk, rfl, HLP⟩ := hrel
    by_cases hlt : k < P.n
    · have hj0 : (0 : Int) ≤ (k : Int) := by omega
      have hj1 : (k : Int) < (P.n : Int) := by omega
      obtain ⟨q', B, cc, hq', a0, a1, a2, a3, a4, a5, a6, a7, a8⟩ := HLP.out.r0.at_ k hlt
      injection hq' with hq'
      injection hq' with hq'
      subst hq'
      have HPA : Hid ((P.armK fs k).set k ((P.p k).arm (fs.getD k Ft.no)) = P.armK fs (k + 1)) := Lib.hid (armK_succ P fs k)
      obtain ⟨pa, hpa⟩ : ∃ pa, P.p k = pa := ⟨_, rfl⟩
      rw [hpa] at a0 a1 a2 a3 a4 a5 a6 a7 a8 HPA
      clear hpa
      have hx0 := below_alloc wr (.cells (rArr pa B cc) 96)
      have hA0 := Blk.fresh wr (rArr pa B cc) 96
      have hLP1 := HLP.out.below hx0
      have hO1 := a7.below hx0
      have hB01 : Hid (Below wr.heap.size wr (wr.alloc (.cells (rArr pa B cc) 96))) := Lib.hid hx0
      have HX := Lib.hid (And.intro hA0 (And.intro hLP1 hO1))
      have HO := Lib.hid a7
      clear a7 hx0 hA0 hLP1 hO1
      unfold rArr at HX hB01
      go_upto_region 4 with fail
      generalize wr.alloc (.cells #[.int .i64 pa.base, .int .i64 (pa.safe : Nat), .int .i64 (pa.done : Nat), .slice B pa.bs.length cc, .int .i64 pa.f.d, .int .i64 pa.f.k, .int .u8 ((pa.f.t.toNat : Nat) : Int)] 96) = w3 at *
      have hlw := HLP.out.b.size
      obtain ⟨gA, hgA⟩ : ∃ gA, wr.heap.size = gA := ⟨_, rfl⟩
      rw [hgA] at HX hB01 hlw ⊢
      have HGA := Lib.hid hgA
      clear hgA
      clear a0 a1 a2 a3 a4 a5 a6
      obtain ⟨hA3, hLP3, hO3⟩ := HX.out
      have mf := hA3.frozen
      have m2 : w3.cell? ⟨gA, 2, none⟩ = _ := hA3.cell 2
      have m4 : w3.cell? ⟨gA, 4, none⟩ = _ := hA3.cell 4
      have m5 : w3.cell? ⟨gA, 5, none⟩ = _ := hA3.cell 5
      have m6 : w3.cell? ⟨gA, 6, none⟩ = _ := hA3.cell 6
      simp at m2 m4 m5 m6
      clear hA3 hLP3 hO3
      go_upto_if 21 with fail
      have hb4 := (((HX.out.1.set 2 (.int .i64 0)).set 4 (.int .i64 0)).set 5 (.int .i64 0)).set 6 (.int .u8 0)
      have hB4 : Below gA wr ((((w3.setCell ⟨gA, 2, none⟩ (.int .i64 0)).setCell ⟨gA, 4, none⟩ (.int .i64 0)).setCell ⟨gA, 5, none⟩ (.int .i64 0)).setCell ⟨gA, 6, none⟩ (.int .u8 0)) := (((hB01.out.setCell (p := ⟨gA, 2, none⟩) (Nat.le_refl _) _).setCell (p := ⟨gA, 4, none⟩) (Nat.le_refl _) _).setCell (p := ⟨gA, 5, none⟩) (Nat.le_refl _) _).setCell (p := ⟨gA, 6, none⟩) (Nat.le_refl _) _
      obtain ⟨w4, hw4⟩ : ∃ w4, (((w3.setCell ⟨gA, 2, none⟩ (.int .i64 0)).setCell ⟨gA, 4, none⟩ (.int .i64 0)).setCell ⟨gA, 5, none⟩ (.int .i64 0)).setCell ⟨gA, 6, none⟩ (.int .u8 0) = w4 := ⟨_, rfl⟩
      rw [hw4] at hb4 hB4 ⊢
      have hBw4 : Below w.heap.size w w4 := HLP.out.b.trans (hB4.mono hlw)
      have HB4 := Lib.hid (And.intro hb4 hB4)
      have hft4 := HFT.out.below hBw4
      clear hb4 hB4 hBw4 hw4 m2 m4 m5 m6 mf HX hB01
      go_cut [18] from 18 to 26 (fun v wx => Hid (Blk wx gA (rArr (pa.arm (fs.getD k Ft.no)) B cc) 96) ∧ Hid (Below gA wr wx))
      case first =>
        by_cases hkn : k < n
        · rcases hft4.2 with h0 | ⟨fb, fo, hfa, hfc⟩
          · omega
          subst hfa
          obtain ⟨e1, e2, e3, -⟩ := hfc k hkn
          have mf := HB4.out.1.frozen
          have m4 : w4.cell? ⟨gA, 4, none⟩ = _ := HB4.out.1.cell 4
          have m5 : w4.cell? ⟨gA, 5, none⟩ = _ := HB4.out.1.cell 5
          have m6 : w4.cell? ⟨gA, 6, none⟩ = _ := HB4.out.1.cell 6
          simp at m4 m5 m6
          have i1 : (k : Int) < (n : Int) := by omega
          generalize fs.getD k Ft.no = f at *
          clear hfc hft4
          go_wp2_with fail
          go_meet
          exact ⟨Lib.hid (((HB4.out.1.set 4 (.int .i64 f.d)).set 5 (.int .i64 f.k)).set 6 (.int .u8 ((f.t.toNat : Nat) : Int))), Lib.hid (((HB4.out.2.setCell (p := ⟨gA, 4, none⟩) (Nat.le_refl _) _).setCell (p := ⟨gA, 5, none⟩) (Nat.le_refl _) _).setCell (p := ⟨gA, 6, none⟩) (Nat.le_refl _) _)⟩
        · have hno : fs.getD k Ft.no = Ft.no := by rw [List.getD_eq_getElem?_getD, List.getElem?_eq_none (by rw [hft4.1]; omega)]; rfl
          have i1 : ¬ ((k : Int) < (n : Int)) := by omega
          have HNO := Lib.hid hno
          clear hno
          go_wp2_with fail
          go_meet
          rw [HNO.out]
          exact ⟨Lib.hid HB4.out.1, Lib.hid HB4.out.2⟩
      case rest =>
        obtain ⟨HA, HB⟩ := hcut
        clear HB4 hft4
        have HLC := Lib.hid (HLP.out.below (by rw [HGA.out]; exact HB.out))
        have hO5 : Out (fun x => New F w wc x ∧ x ≠ w.heap.size ∧ x ≠ w1.heap.size) wc B pa.bs.length pa.bs := (HO.out.below (by rw [HGA.out]; exact HB.out)).mono (fun x e => ⟨.inl e, by have := HFF.out x e; omega, by have := HFF.out x e; omega⟩)
        have hcall := refWith_any HLC.out.ra hn ck k hlt (pa.arm (fs.getD k Ft.no)) B cc hO5 a8
        rw [HPA.out] at hcall
        have HC := Lib.hid hcall
        have g0 : wc.cell? ⟨w.heap.size, 0, none⟩ = some (.slice Ak P.n ck) := HLC.out.d.cell 0
        have g1 : wc.cell? ⟨w.heap.size, 1, none⟩ = some (.bool P.armed) := HLC.out.d.cell 1
        obtain ⟨ax, hax⟩ : ∃ ax, pa.arm (fs.getD k Ft.no) = ax := ⟨_, rfl⟩
        have hbs : pa.bs = ax.bs := by rw [← hax]; rfl
        rw [hax] at HA HC
        have t0 : wc.cell? ⟨gA, 0, none⟩ = some (.int .i64 ax.base) := HA.out.cell 0
        have t1 : wc.cell? ⟨gA, 1, none⟩ = some (.int .i64 (ax.safe : Nat)) := HA.out.cell 1
        have t2 : wc.cell? ⟨gA, 2, none⟩ = some (.int .i64 (ax.done : Nat)) := HA.out.cell 2
        have t3 : wc.cell? ⟨gA, 3, none⟩ = some (.slice B ax.bs.length cc) := HA.out.cell 3
        have t4 : wc.cell? ⟨gA, 4, none⟩ = some (.int .i64 ax.f.d) := HA.out.cell 4
        have t5 : wc.cell? ⟨gA, 5, none⟩ = some (.int .i64 ax.f.k) := HA.out.cell 5
        have t6 : wc.cell? ⟨gA, 6, none⟩ = some (.int .u8 ((ax.f.t.toNat : Nat) : Int)) := HA.out.cell 6
        clear hO5 hcall hax hbs
        go_wp2_with fail
        refine HC.out.mono ?_
        rintro e w5 ⟨A5, c5, rfl, hR5, hb5⟩
        have HLN := Lib.hid (HLC.out.next (c5 := c5) hR5 hb5 HFF.out)
        have dg := HLC.out.d.keep hb5
        have p0 : w5.cell? ⟨w.heap.size, 0, none⟩ = some (.slice Ak P.n ck) := dg.cell 0
        have p1 : w5.cell? ⟨w.heap.size, 1, none⟩ = some (.bool P.armed) := dg.cell 1
        have pf := dg.frozen
        clear g0 g1 t0 t1 t2 t3 t4 t5 t6 HC HLC HA HB hR5 hb5 dg HLP
        go_wp2_with fail
        go_roundw
        case rel => exact ⟨k + 1, A5, c5, hlt, by go_num, HLN⟩
        case measure => simp [intOf]; omega
    · obtain rfl : k = P.n := by omega
      have HFI := Lib.hid (HLP.out.fin true)
      have g0 : wr.cell? ⟨w.heap.size, 0, none⟩ = some (.slice Ak P.n ck) := HLP.out.d.cell 0
      have g1 : wr.cell? ⟨w.heap.size, 1, none⟩ = some (.bool P.armed) := HLP.out.d.cell 1
      have r0 : wr.cell? ⟨w1.heap.size, 0, none⟩ = some (.slice none 0 0) := HLP.out.r.cell 0
      have r1 : wr.cell? ⟨w1.heap.size, 1, none⟩ = some (.bool false) := HLP.out.r.cell 1
      have gf := HLP.out.d.frozen
      have rf := HLP.out.r.frozen
      have hne := HLP.out.ne
      clear HLP
      go_wp2_with fail
      obtain ⟨v0, v1, v2⟩ := HFI.out
      refine bodyPost_ret (results_row1 rfl _ _ w1.heap.size 48 _ (0, 0) _ rfl v0 Try.underlying48 rfl (by kernel_rfl)) rfl ?_
      exact ⟨Ak, ck, rfl, v1.ext rfl (fun j hj => by simp only [Pd.armK, Pd.arm]; exact if_pos hj), v2⟩
end Go.Proofs.Ytodaplkijdjbpaa
