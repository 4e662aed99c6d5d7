/- The law StampClock, walked. -/
import Derived.Test.YtackbdcpbkohoaaThreeClocks
import Derived.Test.YtackbdcpbkohoaaOps12
import Derived.Deep.RegionHeld3
import Derived.Deep.CutRange
import Derived.Deep.CutBlock
import Derived.Outline
namespace Go.Proofs.Ytackbdcpbkohoaa
open Go.RowKit
theorem set_same {hs : List Ck} {j : Nat} {x : Ck} (hx : hs[j]? = some x) : hs.set j x = hs := by
  refine List.ext_getElem? fun i => ?_
  rw [set_at hx]
  split
  · rename_i e; subst e; exact hx.symm
  · rfl
theorem rB_zero {x : Ck} (h : rB x = false) : rS x = 0 := by rcases x with _ | ⟨g, s, a⟩ <;> first | rfl | cases h
/-- What the round bears: three clocks of each kind, the call's cells, the document's clock in a variable. -/
structure Sw (B : Nat) (w0 : World) (H O D : Nat) (kd who oa ob : Int) (hs vs : List Ck) (x : Ck) (w : World) : Prop where
  t : Three B H (H + 1) w hs vs
  o : Blk w O #[.int .i64 kd, .int .i64 who, .int .i64 oa, .int .i64 ob] 43
  d : Blk w D #[.bool (rB x), .int .i64 (rS x), .int .i64 (rW x)] 40
  b : Below B w0 w
  le : B ≤ w.heap.size
  dl : B ≤ D
/-- Whose clock it is. -/
def Who (who : Int) (hs : List Ck) (x : Ck) (th : Bool) : Prop := (th = true → ∃ j : Nat, who = j ∧ j < 3 ∧ hs[j]? = some x) ∧ (th = false → x = none)
theorem keep3 {wd w2 : World} {D : Nat} {v0 v1 v2 : Value} {t : TypeId} (h : Blk wd D #[v0, v1, v2] t) (hb : Below wd.heap.size wd w2) : w2.cell? ⟨D, 0, none⟩ = some v0 ∧ w2.cell? ⟨D, 1, none⟩ = some v1 ∧ w2.cell? ⟨D, 2, none⟩ = some v2 ∧ Below wd.heap.size wd w2 :=
  ⟨(Blk.keep h hb).cell 0, (Blk.keep h hb).cell 1, (Blk.keep h hb).cell 2, hb⟩
/-- Behind the call. -/
def WhoThen (who : Int) (hs hs' : List Ck) (y : Ck) (th : Bool) : Prop := (th = true → ∃ j : Nat, ∃ x : Ck, who = j ∧ j < 3 ∧ hs[j]? = some x ∧ hs' = hs.set j y) ∧ (th = false → hs' = hs)
theorem Sw.below {B : Nat} {w0 w w' : World} {H O D : Nat} {kd who oa ob : Int} {hs vs : List Ck} {x : Ck} (h : Sw B w0 H O D kd who oa ob hs vs x w) (hb : Below w.heap.size w w') : Sw B w0 H O D kd who oa ob hs vs x w' :=
  ⟨h.t.below hb, h.o.keep hb, h.d.keep hb, below_then h.b hb h.le, Nat.le_trans h.le hb.size, h.dl⟩
/-- The document's clock is laid into the variable. -/
theorem Sw.setD {B : Nat} {w0 w : World} {H O D : Nat} {kd who oa ob : Int} {hs vs : List Ck} {x : Ck} (h : Sw B w0 H O D kd who oa ob hs vs x w) (y : Ck) :
    Sw B w0 H O D kd who oa ob hs vs y (((w.setCell ⟨D, 0, none⟩ (.bool (rB y))).setCell ⟨D, 1, none⟩ (.int .i64 (rS y))).setCell ⟨D, 2, none⟩ (.int .i64 (rW y))) := by
  have hgs := grown_trans (grown_trans (grown_set w D 0 (.bool (rB y))) (grown_set _ D 1 (.int .i64 (rS y)))) (grown_set _ D 2 (.int .i64 (rW y)))
  have hOD := blk_ne h.d h.o (by decide)
  exact ⟨h.t.other h.d (by decide) (by decide) (by decide) hgs, Blk.grown h.o hgs (fun e => by injection e with e; exact hOD e), Blk.set (Blk.set (Blk.set h.d 0 (.bool (rB y))) 1 (.int .i64 (rS y))) 2 (.int .i64 (rW y)), h.b.grown hgs h.le (fun k e => by cases e; exact h.dl), Nat.le_trans h.le hgs.size, h.dl⟩
/-- The same, the cells as they are spelled. -/
theorem Sw.setD' {B : Nat} {w0 w : World} {H O D : Nat} {kd who oa ob : Int} {hs vs : List Ck} {x y : Ck} {b : Bool} {s' n' : Int} (h : Sw B w0 H O D kd who oa ob hs vs x w) (e : rcl y = [.bool b, .int .i64 s', .int .i64 n']) :
    Sw B w0 H O D kd who oa ob hs vs y (((w.setCell ⟨D, 0, none⟩ (.bool b)).setCell ⟨D, 1, none⟩ (.int .i64 s')).setCell ⟨D, 2, none⟩ (.int .i64 n')) := by
  have := h.setD y
  simp only [rcl, List.cons.injEq, Value.bool.injEq, Value.int.injEq, true_and, and_true] at e
  rw [e.1, e.2.1, e.2.2] at this
  exact this
/-- The clock goes on. -/
theorem Sw.goOn {B : Nat} {w0 w w' : World} {H O D : Nat} {kd who oa ob s' : Int} {hs vs : List Ck} {x : Ck} {th : Bool} (h : Sw B w0 H O D kd who oa ob hs vs x w) (hck : CkOk B w x) (hw : Who who hs x th) (hg : w.grownBy w' (ckBlk x)) (hc : CkOk B w' (ckTo s' x)) :
    ∃ hs', WhoThen who hs hs' (ckTo s' x) th ∧ Sw B w0 H O D kd who oa ob hs' vs x w' := by
  have hO := Blk.grown h.o hg (ckBlk_ne hck h.o (by decide))
  have hD := Blk.grown h.d hg (ckBlk_ne hck h.d (by decide))
  have hBw : Below B w0 w' := h.b.grown hg h.le (fun k e => by
    rcases x with _ | ⟨g, s, a⟩
    · cases e
    · simp only [ckBlk, Option.some.injEq] at e
      subst e
      exact (hck g s a rfl).2.1)
  cases th with
  | true =>
    obtain ⟨j, h1, h2, h3⟩ := hw.1 rfl
    exact ⟨hs.set j (ckTo s' x), ⟨fun _ => ⟨j, x, h1, h2, h3, rfl⟩, fun e => (by cases e)⟩, h.t.go h3 hg hc, hO, hD, hBw, Nat.le_trans h.le hg.size, h.dl⟩
  | false =>
    have hx := hw.2 rfl
    subst hx
    exact ⟨hs, ⟨fun e => (by cases e), fun _ => rfl⟩, h.t.below (below_of_grown hg (Nat.le_refl _) (fun k e => by cases e)), hO, hD, hBw, Nat.le_trans h.le hg.size, h.dl⟩
theorem Sw.put {B : Nat} {w0 w : World} {H O D : Nat} {kd who oa ob : Int} {hs vs : List Ck} {x z y : Ck} {j : Nat} (h : Sw B w0 H O D kd who oa ob hs vs x w) (hz : hs[j]? = some z) (hc : CkOk B w y) (hn : ∀ (i g : Nat) (s a s' a' : Int), hs[i]? = some (some (g, s, a)) → y ≠ some (g, s', a')) :
    Sw B w0 H O D kd who oa ob (hs.set j y) vs x (w.setCell ⟨H, j, none⟩ (.pointer (ptA y))) := by
  have hg := grown_set w H j (.pointer (ptA y))
  exact ⟨h.t.put hz hc hn, Blk.grown h.o hg (fun e => by injection e with e; exact blk_ne h.t.h h.o (by decide) e), Blk.grown h.d hg (fun e => by injection e with e; exact blk_ne h.t.h h.d (by decide) e), h.b.grown hg h.le (fun k e => by cases e; exact h.t.bH), Nat.le_trans h.le hg.size, h.dl⟩
theorem keepT {B H : Nat} {w w2 : World} {hs : List Ck} {j : Nat} {x : Ck} (t : Three B H (H + 1) w hs hs) (hx : hs[j]? = some x) (hb : Below w.heap.size w w2) :
    w2.cell? ⟨H, j, none⟩ = some (.pointer (ptA x)) ∧ w2.cell? ⟨H + 1, j * 3, none⟩ = some (.bool (rB x)) ∧ w2.cell? ⟨H + 1, j * 3 + 1, none⟩ = some (.int .i64 (rS x)) ∧ w2.cell? ⟨H + 1, j * 3 + 2, none⟩ = some (.int .i64 (rW x)) ∧ Below w.heap.size w w2 :=
  ⟨(t.below hb).hcell hx, ((t.below hb).vcell hx).1, ((t.below hb).vcell hx).2.1, ((t.below hb).vcell hx).2.2, hb⟩
theorem who_same {who : Int} {hs : List Ck} {x : Ck} {th : Bool} (h : Who who hs x th) : WhoThen who hs hs x th :=
  ⟨fun e => (by obtain ⟨j, h1, h2, h3⟩ := h.1 e; exact ⟨j, x, h1, h2, h3, (set_same h3).symm⟩), fun _ => rfl⟩
set_option maxRecDepth 100000 in
set_option maxHeartbeats 8000000 in
theorem stampClock_any (A : Option Addr) (n c : Nat) (ops : List Op4) (w : World) (h : RecS IsOp4 w 4 A n ops) (hn : n ≤ 140737488351232) :
    Calls Try.prog 6 #[.slice A n c] w fun e w' => e = .returned (.bool true) ∧ Below w.heap.size w w' := by
  go_enter Try.func6, Try.ntmps6
  go_wp2_with fail
  refine (head_any _).mono ?_
  rintro e w1 ⟨rfl, hB1⟩
  have hH := Blk.fresh w1 (([none, none, none] : List Ck).map ptrV).toArray 38
  have hV := Blk.fresh (w1.alloc (.cells (([none, none, none] : List Ck).map ptrV).toArray 38)) (([none, none, none] : List Ck).flatMap rcl).toArray 41
  have hX1 := below_alloc w1 (.cells (([none, none, none] : List Ck).map ptrV).toArray 38)
  have hX2 := below_alloc (w1.alloc (.cells (([none, none, none] : List Ck).map ptrV).toArray 38)) (.cells (([none, none, none] : List Ck).flatMap rcl).toArray 41)
  have hH' : Blk _ _ _ _ := hH.keep hX2
  have hB2 := below_then (below_then hB1 hX1 hB1.size) hX2 (by have := hB1.size; simp; omega)
  rw [show (w1.alloc (.cells (([none, none, none] : List Ck).map ptrV).toArray 38)).heap.size = w1.heap.size + 1 by simp] at hV
  have hs1 := hB1.size
  have hT : Three w.heap.size w1.heap.size (w1.heap.size + 1) _ [none, none, none] [none, none, none] :=
    ⟨rfl, rfl, hH', hV, fun i g s a e => by rcases i with _ | _ | _ | i <;> simp at e, fun i j g s a s' a' e => by rcases i with _ | _ | _ | i <;> simp at e, hs1, by omega⟩
  clear hH hV hX1 hX2 hH'
  rw [show (([none, none, none] : List Ck).map ptrV).toArray = #[.pointer none, .pointer none, .pointer none] from rfl, show (([none, none, none] : List Ck).flatMap rcl).toArray = #[.bool false, .int .i64 0, .int .i64 0, .bool false, .int .i64 0, .int .i64 0, .bool false, .int .i64 0, .int .i64 0] from rfl] at hT hB2
  go_wp2_with fail
  generalize (w1.alloc (.cells #[.pointer none, .pointer none, .pointer none] 38)).alloc (.cells #[.bool false, .int .i64 0, .int .i64 0, .bool false, .int .i64 0, .int .i64 0, .bool false, .int .i64 0, .int .i64 0] 41) = w2 at *
  generalize w1.heap.size = H at *
  go_loopw [28] (fun i wr => ∃ k : Nat, ∃ hs, k ≤ n ∧ i = .int .i64 k ∧ Three w.heap.size H (H + 1) wr hs hs ∧ Below w.heap.size w wr) (fun i _ => n - (intOf i).toNat)
  case atStart => exact ⟨0, _, by omega, rfl, hT, hB2⟩
  case round =>
    clear hT hB2
    obtain ⟨k, hs, hk, rfl, hT, hB⟩ := hrel
    by_cases hlt : k < n
    · obtain ⟨b, o, cs, x, rfl, hx, _, hS, hc⟩ := h.at_ k hlt
      obtain ⟨kd, who, oa, ob⟩ := x
      unfold IsOp4 at hS
      subst hS
      have q0 := hc 0 _ rfl
      have q1 := hc 1 _ rfl
      have q2 := hc 2 _ rfl
      have q3 := hc 3 _ rfl
      have r0 := (hB.cell (p := ⟨b, o + k * 4 + 0, none⟩) (block_lt_of_cell q0)).trans q0
      have r1 := (hB.cell (p := ⟨b, o + k * 4 + 1, none⟩) (block_lt_of_cell q1)).trans q1
      have r2 := (hB.cell (p := ⟨b, o + k * 4 + 2, none⟩) (block_lt_of_cell q2)).trans q2
      have r3 := (hB.cell (p := ⟨b, o + k * 4 + 3, none⟩) (block_lt_of_cell q3)).trans q3
      rw [Nat.add_zero] at r0
      clear q0 q1 q2 q3 hc hx
      have hBo := below_alloc wr (.cells #[.int .i64 kd, .int .i64 who, .int .i64 oa, .int .i64 ob] 43)
      have hDo := Blk.fresh wr #[.int .i64 kd, .int .i64 who, .int .i64 oa, .int .i64 ob] 43
      have hTo := hT.below hBo
      have hBB := below_then hB hBo hB.size
      go_upto_region 9 with fail
      obtain ⟨O, hO⟩ : ∃ O, wr.heap.size = O := ⟨_, rfl⟩
      rw [hO] at hDo ⊢
      generalize wr.alloc (.cells #[.int .i64 kd, .int .i64 who, .int .i64 oa, .int .i64 ob] 43) = wo at *
      have hBd := below_alloc wo (.cells #[.bool false, .int .i64 0, .int .i64 0] 40)
      have hDd := Blk.fresh wo #[.bool false, .int .i64 0, .int .i64 0] 40
      have hDo2 : Blk _ _ _ _ := hDo.keep hBd
      have hTd := hTo.below hBd
      have hBd' := below_then hBB hBd hBB.size
      have hOl := hDo.lt
      have hBs := hBB.size
      go_upto_region 10 with fail
      clear hDo hTo hBB hBo r0 r1 r2 r3 hT hB
      obtain ⟨D, hD⟩ : ∃ D, wo.heap.size = D := ⟨_, rfl⟩
      rw [hD] at hDd hBs ⊢
      rw [hD] at hOl
      generalize wo.alloc (.cells #[.bool false, .int .i64 0, .int .i64 0] 40) = wd at *
      clear hBd hD hO
      have o0 : wd.cell? ⟨O, 0, none⟩ = some (.int .i64 kd) := hDo2.cell 0
      have o1 : wd.cell? ⟨O, 1, none⟩ = some (.int .i64 who) := hDo2.cell 1
      go_cut [9] from 33 to 40 (fun t wc => t = .bool (decide (0 ≤ who ∧ who < 3)) ∧ wd = wc)
      case first =>
        by_cases h0 : 0 ≤ who
        · by_cases h3 : who < 3
          · go_wp2_with fail
            go_meet
            exact ⟨by congr 1; simp <;> omega, rfl⟩
          · have h3' : decide (who < 3) = false := decide_eq_false h3
            go_wp2_with fail
            go_meet
            exact ⟨by congr 1; simp <;> omega, rfl⟩
        · have h0' : decide (0 ≤ who) = false := decide_eq_false h0
          go_wp2_with fail
          go_meet
          exact ⟨by congr 1; simp <;> omega, rfl⟩
      case rest =>
        obtain ⟨rfl, rfl⟩ := hcut
        have hSw0 : Sw w.heap.size w H O D kd who oa ob hs hs none wd := ⟨hTd, hDo2, hDd, hBd', hBd'.size, hBs⟩
        obtain ⟨th, hth⟩ : ∃ th, decide (0 ≤ who ∧ who < 3) = th := ⟨_, rfl⟩
        rw [hth]
        have HTH := Lib.hid hth
        clear hth hTd hDo2 hDd hBd' o0 o1
        go_upto_if 41 with fail
        go_cut [7] from 42 to 49 (fun c wx => ∃ x, c = .pointer (ptA x) ∧ Who who hs x th ∧ CkOk w.heap.size wx x ∧ Sw w.heap.size w H O D kd who oa ob hs hs x wx)
        case first =>
          cases th with
          | false =>
            go_wp2_with fail
            go_meet
            exact ⟨none, rfl, ⟨fun e => (by cases e), fun _ => rfl⟩, fun g s a e => (by cases e), hSw0⟩
          | true =>
            have hin : 0 ≤ who ∧ who < 3 := of_decide_eq_true HTH.out
            obtain ⟨j, rfl⟩ := Int.eq_ofNat_of_zero_le hin.1
            have hj : j < 3 := by omega
            obtain ⟨x, hx⟩ : ∃ x, hs[j]? = some x := ⟨_, List.getElem?_eq_getElem (by rw [hSw0.t.hl]; exact hj)⟩
            have hc0 := hSw0.t.hcell hx
            obtain ⟨v0, v1, v2⟩ := hSw0.t.vcell hx
            have e0 : wd.cell? ⟨D, 0, none⟩ = some (.bool false) := hSw0.d.cell 0
            have e1 : wd.cell? ⟨D, 1, none⟩ = some (.int .i64 0) := hSw0.d.cell 1
            have e2 : wd.cell? ⟨D, 2, none⟩ = some (.int .i64 0) := hSw0.d.cell 2
            have f0 := hSw0.d.frozen 0
            have f1 := hSw0.d.frozen 1
            have f2 := hSw0.d.frozen 2
            have o1 : wd.cell? ⟨O, 1, none⟩ = some (.int .i64 j) := hSw0.o.cell 1
            have i0 : (0 : Int) ≤ (j : Int) := by omega
            have i1 : (j : Int) < 3 := by omega
            have hS1 := Lib.hid (hSw0.setD x)
            have HX := Lib.hid hx
            clear hx hin
            go_wp2_with fail
            go_meet
            exact ⟨x, rfl, ⟨fun _ => ⟨j, rfl, hj, HX.out⟩, fun e => (by cases e)⟩, hS1.out.t.ck HX.out, hS1.out⟩
        case rest =>
          obtain ⟨x, rfl, hWho, hCk, hS⟩ := hcut
          have HC := Lib.hid hCk
          clear hCk
          obtain ⟨m0, m1, m2, m3⟩ := ck_bounds HC.out
          have o0 : wc.cell? ⟨O, 0, none⟩ = some (.int .i64 kd) := hS.o.cell 0
          go_upto_block 2 with fail
          go_cut [10, 11, 12, 13, 14, 15, 16, 17, 18, 19, 20, 21, 22] from 52 to 145 (fun g u11 u12 u13 u14 u15 u16 u17 u18 u19 u20 u21 u22 wx => g = .bool true ∧ ∃ y hs', WhoThen who hs hs' y th ∧ Sw w.heap.size w H O D kd who oa ob hs' hs y wx)
          case first =>
            have o2 : wc.cell? ⟨O, 2, none⟩ = some (.int .i64 oa) := hS.o.cell 2
            have o3 : wc.cell? ⟨O, 3, none⟩ = some (.int .i64 ob) := hS.o.cell 3
            have e0 : wc.cell? ⟨D, 0, none⟩ = some (.bool (rB x)) := hS.d.cell 0
            have e1 : wc.cell? ⟨D, 1, none⟩ = some (.int .i64 (rS x)) := hS.d.cell 1
            have e2 : wc.cell? ⟨D, 2, none⟩ = some (.int .i64 (rW x)) := hS.d.cell 2
            by_cases k0 : kd = 0
            · subst k0
              go_wp2_with fail
              refine (new_gen oa ob _).mono ?_
              rintro e w5 ⟨rfl, hb5, hk5⟩
              have hS5 := hS.below hb5
              have hgt : wc.heap.size ≤ wc.heap.size := Nat.le_refl _
              have hR := Lib.hid (refNew_gen oa ob wc.heap.size w5)
              have hCk : CkOk w.heap.size w5 (madeC oa ob wc.heap.size) := fun g s a e => by
                unfold madeC at e
                split at e
                · rename_i hg
                  injection e with e
                  injection e with e1 e2
                  injection e2 with e2 e3
                  subst e1 e2 e3
                  exact ⟨hk5 hg, hS.le, hg⟩
                · cases e
              have hFr : ∀ (i g : Nat) (s a s' a' : Int), hs[i]? = some (some (g, s, a)) → madeC oa ob wc.heap.size ≠ some (g, s', a') := fun i g s a s' a' e e2 => by
                have h1 := (hS.t.clk i g s a e).1.lt
                unfold madeC at e2
                split at e2
                · injection e2 with e2
                  injection e2 with e3 e4
                  omega
                · cases e2
              clear hk5 e0 e1 e2 o0 o2 o3
              have o2 : w5.cell? ⟨O, 2, none⟩ = some (.int .i64 oa) := hS5.o.cell 2
              have o3 : w5.cell? ⟨O, 3, none⟩ = some (.int .i64 ob) := hS5.o.cell 3
              generalize madeC oa ob wc.heap.size = y at *
              go_wp2_with fail
              refine hR.out.mono ?_
              unfold rclV
              rintro e w6 ⟨rfl, hb6⟩
              have hS6 := hS5.below hb6
              have hb7 := below_alloc w6 (.cells #[.bool (rB y), .int .i64 (rS y), .int .i64 (rW y)] 40)
              have hM7 := Blk.fresh w6 #[.bool (rB y), .int .i64 (rS y), .int .i64 (rW y)] 40
              have hS7 := hS6.below hb7
              have hC7 := (hCk.below hb6).below hb7
              clear o2 o3
              go_upto_region 19 with fail
              obtain ⟨K, hK⟩ : ∃ K, w6.heap.size = K := ⟨_, rfl⟩
              have hDK : D < w6.heap.size := hS6.d.lt
              rw [hK] at hM7 hDK ⊢
              clear hK
              generalize w6.alloc (.cells #[.bool (rB y), .int .i64 (rS y), .int .i64 (rW y)] 40) = w7 at *
              have m0 : w7.cell? ⟨K, 0, none⟩ = some (.bool (rB y)) := hM7.cell 0
              have m1 : w7.cell? ⟨K, 1, none⟩ = some (.int .i64 (rS y)) := hM7.cell 1
              have m2 : w7.cell? ⟨K, 2, none⟩ = some (.int .i64 (rW y)) := hM7.cell 2
              obtain ⟨px, hpx⟩ : ∃ px, ptA x = px := ⟨_, rfl⟩
              rw [hpx]
              cases th with
              | false =>
                rcases y with _ | ⟨g, s, a⟩
                all_goals
                  simp only [ptA, rB, Option.isSome] at m0 ⊢
                  go_wp2_with fail
                  rw [← hpx]
                  go_meet
                  exact ⟨by first | rfl | simp, x, hs, who_same hWho, hS7⟩
              | true =>
                obtain ⟨j, hj1, hj2, hj3⟩ := hWho.1 rfl
                subst hj1
                have o1 : w7.cell? ⟨O, 1, none⟩ = some (.int .i64 j) := hS7.o.cell 1
                have c0 := hS7.t.hcell hj3
                have f3 := hS7.t.h.frozen j
                have e0 : w7.cell? ⟨D, 0, none⟩ = some (.bool (rB x)) := hS7.d.cell 0
                have e1 : w7.cell? ⟨D, 1, none⟩ = some (.int .i64 (rS x)) := hS7.d.cell 1
                have e2 : w7.cell? ⟨D, 2, none⟩ = some (.int .i64 (rW x)) := hS7.d.cell 2
                have f0 := hS7.d.frozen 0
                have f1 := hS7.d.frozen 1
                have f2 := hS7.d.frozen 2
                have hHD : H ≠ D := blk_ne hS7.t.h hS7.d (by decide)
                have hDH : D ≠ H := fun e => hHD e.symm
                have hHK : H ≠ K := blk_ne hS7.t.h hM7 (by decide)
                have hKH : K ≠ H := fun e => hHK e.symm
                have hHO : H ≠ O := blk_ne hS7.t.h hS7.o (by decide)
                have hDK1 : D ≠ K := by omega
                have hKD : K ≠ D := by omega
                have hP := hS7.put (y := y) hj3 hC7 hFr
                have hF := Lib.hid (hP.setD y)
                have HJ := Lib.hid hj3
                have i0 : (0 : Int) ≤ (j : Int) := by omega
                have i1 : (j : Int) < 3 := by omega
                clear hj3
                rcases y with _ | ⟨g, s, a⟩
                all_goals
                  simp only [ptA, rB, rS, rW, Option.isSome] at m0 m1 m2 ⊢
                  go_wp2_with fail
                  rw [← hpx]
                  go_meet
                  exact ⟨by first | rfl | simp, _, _, ⟨fun _ => ⟨j, x, rfl, hj2, HJ.out, rfl⟩, fun e => (by cases e)⟩, hF.out⟩
            · have n0 : (kd == 0) = false := by rw [beq_eq_false_iff_ne]; exact k0
              by_cases k1 : kd = 1
              · subst k1
                go_upto_region 24 with fail
                go_region_held3 (fun w' => w'.cell? ⟨D, 0, none⟩ = some (.bool (rB x)) ∧ w'.cell? ⟨D, 1, none⟩ = some (.int .i64 (rS x)) ∧ w'.cell? ⟨D, 2, none⟩ = some (.int .i64 (rW x)) ∧ Below wc.heap.size wc w')
                  (first | exact ⟨e0, e1, e2, (Below.refl _ wc).drew⟩ | exact kS | exact keep3 hS.d (below_drews wc _))
                  (first | (go_at_call 18; first | (refine (nowC_any (HC.out.below (Below.refl _ wc).drew)).mono ?_; rintro e x4 ⟨rfl, rfl⟩) | (refine (nowC_any (HC.out.below kS.2.2.2)).mono ?_; rintro e x4 ⟨rfl, rfl⟩)) | (go_at_call 21; refine (refNow_any _ _ _ _).mono ?_; rintro e x3 ⟨rfl, hb3⟩; have hb4 := (Below.refl _ wc).drew.trans hb3; have kS := keep3 hS.d hb4))
                obtain ⟨X, hX, hbx⟩ : ∃ X, X = x3 ∧ Below wc.heap.size wc X := ⟨x3, rfl, kS.2.2.2⟩
                subst hX
                have hF := hS.below hbx
                go_wp2_with fail
                go_meet
                exact ⟨by first | rfl | simp, x, hs, who_same hWho, hF⟩
              · have n1 : (kd == 1) = false := by rw [beq_eq_false_iff_ne]; exact k1
                by_cases k2 : kd = 2
                · subst k2
                  go_wp2_with fail
                  refine (nextC_any HC.out).mono ?_
                  rintro e w5 ⟨rfl, hg5, hc5⟩
                  obtain ⟨hs', hWT, hS5⟩ := hS.goOn HC.out hWho hg5 hc5
                  clear e0 e1 e2 o0 o2 hS
                  have e0 : w5.cell? ⟨D, 0, none⟩ = some (.bool (rB x)) := hS5.d.cell 0
                  have e1 : w5.cell? ⟨D, 1, none⟩ = some (.int .i64 (rS x)) := hS5.d.cell 1
                  have e2 : w5.cell? ⟨D, 2, none⟩ = some (.int .i64 (rW x)) := hS5.d.cell 2
                  have o2 : w5.cell? ⟨O, 2, none⟩ = some (.int .i64 oa) := hS5.o.cell 2
                  go_wp2_with fail
                  refine (refNext_any (rB x) (rS x) (rW x) _ (by omega) (by omega)).mono ?_
                  rintro e w6 ⟨rfl, hb6⟩
                  have hS6 := hS5.below hb6
                  have hF := Lib.hid ((hS6.setD' (y := ckTo (nextS (rB x) (rS x)) x) (ckTo_rcl _ _ (fun h => by unfold nextS; rw [if_neg (by rw [h]; simp)]; exact rB_zero h))).below (below_alloc _ (.cells #[.bool (rB x), .int .i64 (nextS (rB x) (rS x)), .int .i64 (rW x)] 40)))
                  have HWT := Lib.hid hWT
                  clear e0 e1 e2 o2 hWT
                  have e0 : w6.cell? ⟨D, 0, none⟩ = some (.bool (rB x)) := hS6.d.cell 0
                  have e1 : w6.cell? ⟨D, 1, none⟩ = some (.int .i64 (rS x)) := hS6.d.cell 1
                  have e2 : w6.cell? ⟨D, 2, none⟩ = some (.int .i64 (rW x)) := hS6.d.cell 2
                  have f0 := hS6.d.frozen 0
                  have f1 := hS6.d.frozen 1
                  have f2 := hS6.d.frozen 2
                  have hDl : D < w6.heap.size := hS6.d.lt
                  have hDn : D ≠ w6.heap.size := by omega
                  generalize nextS (rB x) (rS x) = q at *
                  go_wp2_with fail
                  go_meet
                  exact ⟨by first | rfl | simp, _, hs', HWT.out, hF.out⟩
                · have n2 : (kd == 2) = false := by rw [beq_eq_false_iff_ne]; exact k2
                  by_cases k3 : kd = 3
                  · subst k3
                    go_upto_region 31 with fail
                    go_region_held3 (fun w' => w'.cell? ⟨D, 0, none⟩ = some (.bool (rB x)) ∧ w'.cell? ⟨D, 1, none⟩ = some (.int .i64 (rS x)) ∧ w'.cell? ⟨D, 2, none⟩ = some (.int .i64 (rW x)) ∧ Below wc.heap.size wc w')
                      (first | exact ⟨e0, e1, e2, (Below.refl _ wc).drew⟩ | exact kS | exact keep3 hS.d (below_drews wc _))
                      (first | (go_at_call 17; first | (refine (wornC_any (HC.out.below (Below.refl _ wc).drew)).mono ?_; rintro e x4 ⟨rfl, rfl⟩) | (refine (wornC_any (HC.out.below kS.2.2.2)).mono ?_; rintro e x4 ⟨rfl, rfl⟩)) | (go_at_call 23; refine (refWorn_any _ _ _ _).mono ?_; rintro e x3 ⟨rfl, hb3⟩; have hb4 := (Below.refl _ wc).drew.trans hb3; have kS := keep3 hS.d hb4))
                    obtain ⟨X, hX, hbx⟩ : ∃ X, X = x3 ∧ Below wc.heap.size wc X := ⟨x3, rfl, kS.2.2.2⟩
                    subst hX
                    have hF := hS.below hbx
                    go_wp2_with fail
                    go_meet
                    exact ⟨by first | rfl | simp, x, hs, who_same hWho, hF⟩
                  · have n3 : (kd == 3) = false := by rw [beq_eq_false_iff_ne]; exact k3
                    by_cases k4 : kd = 4
                    · subst k4
                      go_wp2_with fail
                      refine (setC_any HC.out oa).mono ?_
                      rintro e w5 ⟨rfl, hg5, hc5⟩
                      obtain ⟨hs', hWT, hS5⟩ := hS.goOn HC.out hWho hg5 hc5
                      clear e0 e1 e2 o0 o2 hS
                      have e0 : w5.cell? ⟨D, 0, none⟩ = some (.bool (rB x)) := hS5.d.cell 0
                      have e1 : w5.cell? ⟨D, 1, none⟩ = some (.int .i64 (rS x)) := hS5.d.cell 1
                      have e2 : w5.cell? ⟨D, 2, none⟩ = some (.int .i64 (rW x)) := hS5.d.cell 2
                      have o2 : w5.cell? ⟨O, 2, none⟩ = some (.int .i64 oa) := hS5.o.cell 2
                      go_wp2_with fail
                      refine (refSet_any (rB x) (rS x) (rW x) oa _).mono ?_
                      rintro e w6 ⟨rfl, hb6⟩
                      have hS6 := hS5.below hb6
                      have hF := Lib.hid ((hS6.setD' (y := ckTo (setS (rB x) (rS x) oa) x) (ckTo_rcl _ _ (fun h => by unfold setS; rw [if_neg (by rw [h]; simp)]; exact rB_zero h))).below (below_alloc _ (.cells #[.bool (rB x), .int .i64 (setS (rB x) (rS x) oa), .int .i64 (rW x)] 40)))
                      have HWT := Lib.hid hWT
                      clear e0 e1 e2 o2 hWT
                      have e0 : w6.cell? ⟨D, 0, none⟩ = some (.bool (rB x)) := hS6.d.cell 0
                      have e1 : w6.cell? ⟨D, 1, none⟩ = some (.int .i64 (rS x)) := hS6.d.cell 1
                      have e2 : w6.cell? ⟨D, 2, none⟩ = some (.int .i64 (rW x)) := hS6.d.cell 2
                      have f0 := hS6.d.frozen 0
                      have f1 := hS6.d.frozen 1
                      have f2 := hS6.d.frozen 2
                      have hDl : D < w6.heap.size := hS6.d.lt
                      have hDn : D ≠ w6.heap.size := by omega
                      generalize setS (rB x) (rS x) oa = q at *
                      go_wp2_with fail
                      go_meet
                      exact ⟨by first | rfl | simp, _, hs', HWT.out, hF.out⟩
                    · have n4 : (kd == 4) = false := by rw [beq_eq_false_iff_ne]; exact k4
                      by_cases k5 : kd = 5
                      · subst k5
                        go_upto_region 38 with fail
                        go_region_held3 (fun w' => w'.cell? ⟨D, 0, none⟩ = some (.bool (rB x)) ∧ w'.cell? ⟨D, 1, none⟩ = some (.int .i64 (rS x)) ∧ w'.cell? ⟨D, 2, none⟩ = some (.int .i64 (rW x)) ∧ Below wc.heap.size wc w')
                          (first | exact ⟨e0, e1, e2, (Below.refl _ wc).drew⟩ | exact kS | exact keep3 hS.d (below_drews wc _))
                          (first | (go_at_call 19; first | (refine (horizonC_any (HC.out.below (Below.refl _ wc).drew)).mono ?_; rintro e x4 ⟨rfl, m3, rfl⟩; have kS := keep3 hS.d ((Below.refl _ wc).drew.trans (below_drews wc.drew m3))) | (refine (horizonC_any (HC.out.below kS.2.2.2)).mono ?_; rintro e x4 ⟨rfl, m3, rfl⟩; have kS := keep3 hS.d (below_then kS.2.2.2 (below_drews _ m3) kS.2.2.2.size))) | (go_at_call 26; refine (refHorizon_any _ _ _ _ (by omega) (by omega) (by omega) (by omega)).mono ?_; rintro e x3 ⟨rfl, hb3⟩; have hb4 := (below_drews wc _).trans hb3; have kS := keep3 hS.d hb4))
                        obtain ⟨X, hX, hbx⟩ : ∃ X, X = x3 ∧ Below wc.heap.size wc X := ⟨x3, rfl, kS.2.2.2⟩
                        subst hX
                        have hF := hS.below hbx
                        go_wp2_with fail
                        go_meet
                        exact ⟨by first | rfl | simp, x, hs, who_same hWho, hF⟩
                      · have n5 : (kd == 5) = false := by rw [beq_eq_false_iff_ne]; exact k5
                        go_wp2_with fail
                        go_meet
                        exact ⟨rfl, x, hs, who_same hWho, hS⟩
          case rest =>
            obtain ⟨rfl, y, hs', hWT, hS⟩ := hcut
            cases th with
            | false =>
              have hE := hWT.2 rfl
              rw [hE] at hS
              go_wp2_with fail
              go_roundw
              case rel => exact ⟨k + 1, hs, by omega, by go_num, hS.t, hS.b⟩
              case measure => simp [intOf]; omega
            | true =>
              obtain ⟨j, x', hj1, hj2, hj3, hj4⟩ := hWT.1 rfl
              subst hj1
              subst hj4
              obtain ⟨v0, v1, v2⟩ := hS.t.vcell hj3
              have e0 : wc.cell? ⟨D, 0, none⟩ = some (.bool (rB y)) := hS.d.cell 0
              have e1 : wc.cell? ⟨D, 1, none⟩ = some (.int .i64 (rS y)) := hS.d.cell 1
              have e2 : wc.cell? ⟨D, 2, none⟩ = some (.int .i64 (rW y)) := hS.d.cell 2
              have o1 : wc.cell? ⟨O, 1, none⟩ = some (.int .i64 j) := hS.o.cell 1
              have f0 := hS.t.v.frozen (j * 3)
              have f1 := hS.t.v.frozen (j * 3 + 1)
              have f2 := hS.t.v.frozen (j * 3 + 2)
              have hVD : H + 1 ≠ D := blk_ne hS.t.v hS.d (by decide)
              have hDV : D ≠ H + 1 := fun e => hVD e.symm
              have i0 : (0 : Int) ≤ (j : Int) := by omega
              have i1 : (j : Int) < 3 := by omega
              have hF := Lib.hid (hS.t.write (y := y) hj3)
              have hb := Lib.hid (hS.b.grown (grown_trans (grown_trans (grown_set wc (H + 1) (j * 3) (.bool (rB y))) (grown_set _ (H + 1) (j * 3 + 1) (.int .i64 (rS y)))) (grown_set _ (H + 1) (j * 3 + 2) (.int .i64 (rW y)))) hS.le (fun k e => by cases e; exact hS.t.bV))
              clear hj3
              go_wp2_with fail
              go_roundw
              case rel => exact ⟨k + 1, _, by omega, by go_num, hF.out, hb.out⟩
              case measure => simp [intOf]; omega
    · obtain rfl : k = n := by omega
      clear h
      go_wp2
      go_loopw [23] (fun i wl => ∃ r : Nat, r ≤ 3 ∧ i = .int .i64 r ∧ Below wr.heap.size wr wl) (fun i _ => 3 - (intOf i).toNat)
      case atStart => exact ⟨0, by omega, rfl, Below.refl _ _⟩
      case round =>
        obtain ⟨r, hr, rfl, hR⟩ := hrel
        have hw := below_then hB hR hB.size
        by_cases hl3 : r < 3
        · obtain ⟨x, hx⟩ : ∃ x, hs[r]? = some x := ⟨_, List.getElem?_eq_getElem (by rw [hT.hl]; exact hl3)⟩
          have hTl := hT.below hR
          have HC := Lib.hid (hTl.ck hx)
          obtain ⟨m0, m1, m2, m3⟩ := ck_bounds HC.out
          have c0 := hTl.hcell hx
          obtain ⟨v0, v1, v2⟩ := hTl.vcell hx
          have HT := Lib.hid hTl
          have HX := Lib.hid hx
          have i0 : (0 : Int) ≤ (r : Int) := by omega
          have i1 : (r : Int) < 3 := by omega
          have q0 : (rS x != rS x) = false := by simp
          have q1 : (rS x - rW x != rS x - rW x) = false := by simp
          have HR := Lib.hid hR
          clear hTl hx hR
          go_wp2_with fail
          go_region_held3 (fun w' => w'.cell? ⟨H, r, none⟩ = some (.pointer (ptA x)) ∧ w'.cell? ⟨H + 1, r * 3, none⟩ = some (.bool (rB x)) ∧ w'.cell? ⟨H + 1, r * 3 + 1, none⟩ = some (.int .i64 (rS x)) ∧ w'.cell? ⟨H + 1, r * 3 + 2, none⟩ = some (.int .i64 (rW x)) ∧ Below wr.heap.size wr w')
            (first | exact ⟨c0, v0, v1, v2, (Below.refl _ wr).drew⟩ | exact kS)
            (first | (go_at_call 18; refine (nowC_any (HC.out.below (Below.refl _ wr).drew)).mono ?_; rintro e x1 ⟨rfl, rfl⟩) | (go_at_call 21; refine (refNow_any _ _ _ _).mono ?_; rintro e x2 ⟨rfl, hb2⟩; have kS := keepT HT.out HX.out ((Below.refl _ wr).drew.trans hb2)) | (go_at_call 19; refine (horizonC_any (HC.out.below kS.2.2.2.2)).mono ?_; rintro e x3 ⟨rfl, m3, rfl⟩; have kS := keepT HT.out HX.out (below_then kS.2.2.2.2 (below_drews _ m3) kS.2.2.2.2.size)) | (go_at_call 26; refine (refHorizon_any _ _ _ _ (by omega) (by omega) (by omega) (by omega)).mono ?_; rintro e x4 ⟨rfl, hb4⟩; have kS := keepT HT.out HX.out (below_then kS.2.2.2.2 hb4 kS.2.2.2.2.size)) | (go_at_call 17; refine (wornC_any (HC.out.below kS.2.2.2.2)).mono ?_; rintro e x5 ⟨rfl, rfl⟩) | (go_at_call 23; refine (refWorn_any _ _ _ _).mono ?_; rintro e x6 ⟨rfl, hb6⟩; have kS := keepT HT.out HX.out (below_then kS.2.2.2.2 hb6 kS.2.2.2.2.size)))
          have hBx := below_then HR.out kS.2.2.2.2 HR.out.size
          go_wp2
          go_roundw
          case rel => exact ⟨r + 1, by omega, by go_num, hBx⟩
          case measure => simp [intOf]; omega
        · obtain rfl : r = 3 := by omega
          go_wp2
          go_ret
          exact ⟨rfl, hw⟩
end Go.Proofs.Ytackbdcpbkohoaa
