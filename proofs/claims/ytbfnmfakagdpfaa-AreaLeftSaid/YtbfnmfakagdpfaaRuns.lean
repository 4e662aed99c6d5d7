/- The law AreaRuns, walked. -/
import Derived.Test.YtbfnmfakagdpfaaStep
import Derived.Test.YtbfnmfakagdpfaaVast
namespace Go.Proofs.Ytbfnmfakagdpfaa
open Go.RowKit
set_option linter.unusedVariables false
set_option linter.unusedSimpArgs false
/-- A new pair. -/
theorem pair_new (w : World) : PairAt ((w.alloc (.cells #[.int .i64 0, .slice none 0 0, .int .i64 0] 50)).alloc (.cells #[.pointer (some ⟨w.heap.size, 0, none⟩), .int .i64 0, .slice none 0 0, .slice none 0 0] 48)) (w.heap.size + 1) w.heap.size none 0 none 0 none 0 0 [] 0 := by
  have hb := below_alloc (w.alloc (.cells #[.int .i64 0, .slice none 0 0, .int .i64 0] 50)) (.cells #[.pointer (some ⟨w.heap.size, 0, none⟩), .int .i64 0, .slice none 0 0, .slice none 0 0] 48)
  have hP := Blk.fresh (w.alloc (.cells #[.int .i64 0, .slice none 0 0, .int .i64 0] 50)) #[.pointer (some ⟨w.heap.size, 0, none⟩), .int .i64 0, .slice none 0 0, .slice none 0 0] 48
  have hz : (w.alloc (.cells #[.int .i64 0, .slice none 0 0, .int .i64 0] 50)).heap.size = w.heap.size + 1 := by simp
  rw [hz] at hP
  have hA := (ar_zero w).below hb
  refine ⟨hP, hA, Bytes.empty _ _, Nat.le_refl _, Safes.empty _ _ _, fun q e => (by rcases e with e | e <;> cases e), fun q e => ?_⟩
  rcases e with e | (e | e) | e | e
  · subst e; exact hP.lt
  · subst e; exact hA.lt
  · cases e
  · cases e
  · cases e
theorem sit_new {B : Nat} {w : World} {P g : Nat} (h : PairAt w P g none 0 none 0 none 0 0 [] 0) (hP : B ≤ P) (hg : B ≤ g) : Sit B w P (pF P g none none none) 0 := by
  refine ⟨⟨0, [], 0, g, none, 0, none, 0, none, 0, h, rfl, by simp, by simp⟩, fun q e => ?_⟩
  rcases e with e | (e | e) | e | e
  · omega
  · omega
  · cases e
  · cases e
  · cases e
/-- Two pairs that share nothing. -/
structure Two (B : Nat) (w0 w : World) (P1 : Nat) (F1 : Nat → Prop) (T1 : Nat) (P2 : Nat) (F2 : Nat → Prop) (T2 : Nat) : Prop where
  one : Sit B w P1 F1 T1
  two : Sit B w P2 F2 T2
  dis : ∀ q, F1 q → ¬ F2 q
  bel : Below B w0 w
  le : B ≤ w.heap.size
theorem Two.left {B : Nat} {w0 w w' : World} {P1 P2 T1 T2 T : Nat} {F1 F2 : Nat → Prop} {e : Ending} (t : Two B w0 w P1 F1 T1 P2 F2 T2) (h : SitTo B w P1 F1 T e w') : e = .returned (.bool true) ∧ ∃ F, Two B w0 w' P1 F T P2 F2 T2 := by
  obtain ⟨he, F, h1, h2, h3, h4⟩ := h
  refine ⟨he, F, h1, t.two.chg h2 (fun q e e2 => t.dis q e2 e), fun q e e2 => ?_, t.bel.trans h4, Nat.le_trans t.le h4.size⟩
  rcases h3 q e with e3 | e3
  · exact t.dis q e3 e2
  · have := t.two.lt q e2; omega
theorem Two.swap {B : Nat} {w0 w : World} {P1 P2 T1 T2 : Nat} {F1 F2 : Nat → Prop} (t : Two B w0 w P1 F1 T1 P2 F2 T2) : Two B w0 w P2 F2 T2 P1 F1 T1 := ⟨t.two, t.one, fun q e e2 => t.dis q e2 e, t.bel, t.le⟩
theorem Two.right {B : Nat} {w0 w w' : World} {P1 P2 T1 T2 T : Nat} {F1 F2 : Nat → Prop} {e : Ending} (t : Two B w0 w P1 F1 T1 P2 F2 T2) (h : SitTo B w P2 F2 T e w') : e = .returned (.bool true) ∧ ∃ F, Two B w0 w' P1 F1 T1 P2 F T := by
  obtain ⟨he, F, h⟩ := t.swap.left h
  exact ⟨he, F, h.swap⟩
theorem Two.below {B : Nat} {w0 w w' : World} {P1 P2 T1 T2 : Nat} {F1 F2 : Nat → Prop} (t : Two B w0 w P1 F1 T1 P2 F2 T2) (hb : Below w.heap.size w w') : Two B w0 w' P1 F1 T1 P2 F2 T2 :=
  ⟨t.one.below hb, t.two.below hb, t.dis, below_then t.bel hb t.le, Nat.le_trans t.le hb.size⟩
theorem two_new {B : Nat} {w0 w1 w2 : World} {P1 g1 P2 g2 : Nat} (h1 : PairAt w1 P1 g1 none 0 none 0 none 0 0 [] 0) (hb : Below w1.heap.size w1 w2) (h2 : PairAt w2 P2 g2 none 0 none 0 none 0 0 [] 0) (hP1 : B ≤ P1) (hg1 : B ≤ g1) (hP2 : w1.heap.size ≤ P2) (hg2 : w1.heap.size ≤ g2) (hB : B ≤ w1.heap.size) (hbe : Below B w0 w2) :
    Two B w0 w2 P1 (pF P1 g1 none none none) 0 P2 (pF P2 g2 none none none) 0 := by
  refine ⟨(sit_new h1 hP1 hg1).below hb, sit_new h2 (by omega) (by omega), fun q e e2 => ?_, hbe, Nat.le_trans hB hb.size⟩
  have l1 := h1.lt q e
  rcases e2 with e2 | (e2 | e2) | e2 | e2
  · omega
  · omega
  · cases e2
  · cases e2
  · cases e2
/-- A slot that the walk reads: the pair's area is there. -/
theorem Sit.cell0 {B : Nat} {w : World} {P T : Nat} {F : Nat → Prop} (h : Sit B w P F T) : ∃ g, w.cell? ⟨P, 0, none⟩ = some (.pointer (some ⟨g, 0, none⟩)) := by
  obtain ⟨⟨base, bs, s, g, A, c, DA, dc, SA, sc, hp, _⟩, _⟩ := h
  exact ⟨g, hp.pb.cell 0⟩
theorem scr_one {w : World} {A : Option Addr} {n c : Nat} {xs : List StepR} (h : RecS IsStep w 4 A n xs) (hn : n ≤ 140737488351232) (t : TypeId) : Scr (w.alloc (.cells #[.slice A n c] t)) (some ⟨w.heap.size, 0, none⟩) 1 [xs] := by
  refine ⟨rfl, .inr ⟨w.heap.size, 0, rfl, fun i hi => ?_⟩⟩
  obtain rfl : i = 0 := by omega
  exact ⟨A, n, c, (Blk.fresh w #[.slice A n c] t).cell 0, h.below (below_alloc _ _) (fun _ _ k => IsStep.below (below_alloc _ _) _ _ k), hn⟩
theorem tot_one (xs : List StepR) : tot [xs] 1 = wrN xs xs.length := by simp [tot]
set_option maxHeartbeats 3200000 in
theorem areaRuns_any (A : Option Addr) (n c : Nat) (xs : List StepR) (w : World) (h : RecS IsStep w 4 A n xs) (hn : n ≤ 140737488351232) :
    Calls Try.prog 5 #[.slice A n c] w fun e w' => e = .returned (.bool true) ∧ Below w.heap.size w w' := by
  have hb1 := below_alloc w (.cells #[.slice A n c] 40)
  have HLn := Lib.hid h.1
  go_enter Try.func5, Try.ntmps5
  go_wp2_with fail
  refine (vast_any _ 1 _ [xs] _ (scr_one h hn _) (by omega)).mono ?_
  rintro e w1 ⟨b, rfl, hb2, hv⟩
  have hB1 := below_then hb1 hb2 hb1.size
  clear hb1 hb2
  cases b with
  | true =>
    go_wp2
    go_ret
    exact ⟨rfl, hB1⟩
  | false =>
    have hv2 : wrN xs n ≤ 1073741824 := by have := hv rfl; rwa [show ([xs] : List (List StepR)).length = 1 from rfl, tot_one, h.1] at this
    clear hv
    have HV := Lib.hid hv2
    clear hv2
    go_wp2_with fail
    refine (areaNew_any _).mono ?_
    rintro e w2 ⟨rfl, hw2⟩
    have q1 := pair_new w1
    rw [← hw2] at q1
    have hb2 : Below w1.heap.size w1 w2 := by rw [hw2]; exact below_alloc _ _
    have hz2 : w2.heap.size = w1.heap.size + 1 := by rw [hw2]; simp
    clear hw2
    have hb3 := below_alloc w2 (.cells #[.pointer (some ⟨w1.heap.size, 0, none⟩), .int .i64 0, .slice none 0 0, .slice none 0 0] 48)
    have hz3 : (w2.alloc (.cells #[.pointer (some ⟨w1.heap.size, 0, none⟩), .int .i64 0, .slice none 0 0, .slice none 0 0] 48)).heap.size = w2.heap.size + 1 := by simp
    have q2 := pair_new (w2.alloc (.cells #[.pointer (some ⟨w1.heap.size, 0, none⟩), .int .i64 0, .slice none 0 0, .slice none 0 0] 48))
    rw [hz3, hz2] at q2
    have hb4 := below_then (below_alloc (w2.alloc (.cells #[.pointer (some ⟨w1.heap.size, 0, none⟩), .int .i64 0, .slice none 0 0, .slice none 0 0] 48)) (.cells #[.int .i64 0, .slice none 0 0, .int .i64 0] 50)) (below_alloc ((w2.alloc (.cells #[.pointer (some ⟨w1.heap.size, 0, none⟩), .int .i64 0, .slice none 0 0, .slice none 0 0] 48)).alloc (.cells #[.int .i64 0, .slice none 0 0, .int .i64 0] 50)) (.cells #[.pointer (some ⟨w1.heap.size + 1 + 1, 0, none⟩), .int .i64 0, .slice none 0 0, .slice none 0 0] 48)) (below_alloc (w2.alloc (.cells #[.pointer (some ⟨w1.heap.size, 0, none⟩), .int .i64 0, .slice none 0 0, .slice none 0 0] 48)) (.cells #[.int .i64 0, .slice none 0 0, .int .i64 0] 50)).size
    have hs1 := hB1.size
    have hB5 := below_then hB1 (below_then hb2 (below_then hb3 hb4 hb3.size) hb2.size) hB1.size
    have TW := two_new (B := w.heap.size) (w0 := w) q1 hb4 q2 (by omega) (by omega) (by rw [hz3, hz2]; omega) (by rw [hz3, hz2]; omega) (by rw [hz3, hz2]; omega) hB5
    go_upto_region 4 with fail
    generalize ((w2.alloc (.cells #[.pointer (some ⟨w1.heap.size, 0, none⟩), .int .i64 0, .slice none 0 0, .slice none 0 0] 48)).alloc (.cells #[.int .i64 0, .slice none 0 0, .int .i64 0] 50)).alloc (.cells #[.pointer (some ⟨w1.heap.size + 1 + 1, 0, none⟩), .int .i64 0, .slice none 0 0, .slice none 0 0] 48) = w5 at *
    generalize pF (w1.heap.size + 1) w1.heap.size none none none = F1 at TW
    generalize pF (w1.heap.size + 1 + 1 + 1) (w1.heap.size + 1 + 1) none none none = F2 at TW
    generalize w1.heap.size + 1 + 1 + 1 = P2 at *
    generalize w1.heap.size + 1 = P1 at *
    obtain ⟨g1, c0⟩ := TW.one.cell0
    clear hb4 q1 q2 hb2 hb3 hz3 hB5
    go_wp2_with fail
    refine (awake_any _).mono ?_
    rintro e w6 ⟨rfl, hb6⟩
    have T6 := TW.below hb6
    clear TW c0 hb6 hz2
    go_wp2
    go_loopw [5] (fun i wr => ∃ k F1 F2, k ≤ n ∧ i = .int .i64 (k : Nat) ∧ Two w.heap.size w wr P1 F1 (wrN xs k) P2 F2 (wrN xs k)) (fun i _ => n - (intOf i).toNat)
    case atStart => exact ⟨0, F1, F2, by omega, rfl, T6⟩
    case round =>
      clear T6
      obtain ⟨k, F1, F2, hk, rfl, TW⟩ := hrel
      by_cases hlt : k < n
      · obtain ⟨b, o, cs, x, rfl, hx, _, ⟨A', l, c2, rfl, hlc, hcc, hb, k0, k1, w0, w1', v0, v1⟩, hcell⟩ := h.at_ k hlt
        have hx1 := wrN_succ xs k x hx
        have hmo := wrN_mono xs (k + 1) n hlt (by rw [HLn.out]; exact Nat.le_refl _)
        have hle := hb.1
        have hvv := HV.out
        have hT1 : wrN xs k + l ≤ 140737488355328 := by omega
        have hnx : wrN xs k + l ≤ wrN xs (k + 1) := by omega
        have hdn : l ≠ 0 → ∀ q, blkO A' = some q → q < w.heap.size := fun h0 => hb.lt h0
        have HX := Lib.hid hx1
        have HL := Lib.hid hle
        clear hx1 hmo hle hvv hx
        have r0 := (TW.bel.cell (p := ⟨b, o + k * 4 + 0, none⟩) (block_lt_of_cell (hcell 0 _ rfl))).trans (hcell 0 _ rfl)
        have r1 := (TW.bel.cell (p := ⟨b, o + k * 4 + 1, none⟩) (block_lt_of_cell (hcell 1 _ rfl))).trans (hcell 1 _ rfl)
        have r2 := (TW.bel.cell (p := ⟨b, o + k * 4 + 2, none⟩) (block_lt_of_cell (hcell 2 _ rfl))).trans (hcell 2 _ rfl)
        have r3 := (TW.bel.cell (p := ⟨b, o + k * 4 + 3, none⟩) (block_lt_of_cell (hcell 3 _ rfl))).trans (hcell 3 _ rfl)
        rw [Nat.add_zero] at r0
        have hbr := hb.below TW.bel
        go_wp2_with fail
        refine (step_sit TW.one TW.le x.kind x.a x.b w0 w1' v0 v1 A' l c2 x.d hbr hdn hT1).mono ?_
        intro e wa hs
        obtain ⟨rfl, F1', TA⟩ := TW.left hs
        clear r0 r1 r2 r3
        have r0 := (TA.bel.cell (p := ⟨b, o + k * 4 + 0, none⟩) (block_lt_of_cell (hcell 0 _ rfl))).trans (hcell 0 _ rfl)
        have r1 := (TA.bel.cell (p := ⟨b, o + k * 4 + 1, none⟩) (block_lt_of_cell (hcell 1 _ rfl))).trans (hcell 1 _ rfl)
        have r2 := (TA.bel.cell (p := ⟨b, o + k * 4 + 2, none⟩) (block_lt_of_cell (hcell 2 _ rfl))).trans (hcell 2 _ rfl)
        have r3 := (TA.bel.cell (p := ⟨b, o + k * 4 + 3, none⟩) (block_lt_of_cell (hcell 3 _ rfl))).trans (hcell 3 _ rfl)
        rw [Nat.add_zero] at r0
        go_wp2_with fail
        refine (step_sit TA.two TA.le x.kind x.a x.b w0 w1' v0 v1 A' l c2 x.d (hb.below TA.bel) hdn hT1).mono ?_
        intro e wb hs2
        obtain ⟨rfl, F2', TB⟩ := TA.right hs2
        have TC : Two w.heap.size w wb P1 F1' (wrN xs (k + 1)) P2 F2' (wrN xs (k + 1)) := ⟨TB.one.mono hnx, TB.two.mono hnx, TB.dis, TB.bel, TB.le⟩
        clear r0 r1 r2 r3 hcell TA TB hs hs2 TW
        go_wp2
        go_roundw
        case rel => exact ⟨k + 1, F1', F2', by omega, by go_num, TC⟩
        case measure => simp [intOf]; omega
      · obtain rfl : k = n := by omega
        have hT2 : wrN xs k ≤ 140737488355328 := by have := HV.out; omega
        go_wp2_with fail
        refine (last_sit TW.one TW.le hT2).mono ?_
        intro e wa hs
        obtain ⟨rfl, F1', TA⟩ := TW.left hs
        go_wp2_with fail
        refine (last_sit TA.two TA.le hT2).mono ?_
        intro e wb hs2
        obtain ⟨rfl, F2', TB⟩ := TA.right hs2
        go_wp2
        go_ret
        exact ⟨rfl, TB.bel⟩
end Go.Proofs.Ytbfnmfakagdpfaa
