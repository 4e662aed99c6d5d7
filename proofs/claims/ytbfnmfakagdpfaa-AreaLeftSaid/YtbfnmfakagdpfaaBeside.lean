/- The law AreaBeside, walked. -/
import Derived.Test.YtbfnmfakagdpfaaRuns
namespace Go.Proofs.Ytbfnmfakagdpfaa
open Go.RowKit
set_option linter.unusedVariables false
set_option linter.unusedSimpArgs false
theorem scr_two {w : World} {A1 A2 : Option Addr} {n1 c1 n2 c2 : Nat} {xs ys : List StepR} (h1 : RecS IsStep w 4 A1 n1 xs) (hn1 : n1 ≤ 140737488351232) (h2 : RecS IsStep w 4 A2 n2 ys) (hn2 : n2 ≤ 140737488351232) (t : TypeId) : Scr (w.alloc (.cells #[.slice A1 n1 c1, .slice A2 n2 c2] t)) (some ⟨w.heap.size, 0, none⟩) 2 [xs, ys] := by
  refine ⟨rfl, .inr ⟨w.heap.size, 0, rfl, fun i hi => ?_⟩⟩
  have : i = 0 ∨ i = 1 := by omega
  rcases this with rfl | rfl
  · exact ⟨A1, n1, c1, (Blk.fresh w #[.slice A1 n1 c1, .slice A2 n2 c2] t).cell 0, h1.below (below_alloc _ _) (fun _ _ k => IsStep.below (below_alloc _ _) _ _ k), hn1⟩
  · exact ⟨A2, n2, c2, (Blk.fresh w #[.slice A1 n1 c1, .slice A2 n2 c2] t).cell 1, h2.below (below_alloc _ _) (fun _ _ k => IsStep.below (below_alloc _ _) _ _ k), hn2⟩
theorem tot_two (xs ys : List StepR) : tot [xs, ys] 2 = wrN xs xs.length + wrN ys ys.length := by simp [tot]
/-- What a step of a script reads as. -/
structure StepAt (w wr : World) (b o k : Nat) (x : StepR) (A' : Option Addr) (l c2 : Nat) : Prop where
  r0 : wr.cell? ⟨b, o + k * 4, none⟩ = some (.int .i64 x.kind)
  r1 : wr.cell? ⟨b, o + k * 4 + 1, none⟩ = some (.int .i64 x.a)
  r2 : wr.cell? ⟨b, o + k * 4 + 2, none⟩ = some (.int .i64 x.b)
  r3 : wr.cell? ⟨b, o + k * 4 + 3, none⟩ = some (.slice A' l c2)
  hb : Bytes wr A' l x.d
  hdn : l ≠ 0 → ∀ q, blkO A' = some q → q < w.heap.size
  a0 : -9223372036854775808 ≤ x.a
  a1 : x.a ≤ 9223372036854775807
  b0 : -9223372036854775808 ≤ x.b
  b1 : x.b ≤ 9223372036854775807
theorem StepAt.below {w wr w2 : World} {b o k : Nat} {x : StepR} {A' : Option Addr} {l c2 : Nat} (h : StepAt w wr b o k x A' l c2) (hb : Below wr.heap.size wr w2) : StepAt w w2 b o k x A' l c2 :=
  ⟨(hb.cell (p := ⟨b, o + k * 4, none⟩) (block_lt_of_cell h.r0)).trans h.r0, (hb.cell (p := ⟨b, o + k * 4 + 1, none⟩) (block_lt_of_cell h.r1)).trans h.r1, (hb.cell (p := ⟨b, o + k * 4 + 2, none⟩) (block_lt_of_cell h.r2)).trans h.r2, (hb.cell (p := ⟨b, o + k * 4 + 3, none⟩) (block_lt_of_cell h.r3)).trans h.r3, h.hb.below hb, h.hdn, h.a0, h.a1, h.b0, h.b1⟩
theorem step_at {w wr : World} {A : Option Addr} {n : Nat} {xs : List StepR} (h : RecS IsStep w 4 A n xs) (hb : Below w.heap.size w wr) (k : Nat) (hk : k < n) :
    ∃ b o x A' l c2, A = some ⟨b, o, none⟩ ∧ xs[k]? = some x ∧ l = x.d.length ∧ StepAt w wr b o k x A' l c2 := by
  obtain ⟨b, o, cs, x, hA, hx, _, ⟨A', l, c2, rfl, hlc, hcc, hy, k0, k1, w0, w1', v0, v1⟩, hcell⟩ := h.at_ k hk
  refine ⟨b, o, x, A', l, c2, hA, hx, hy.1.symm, ?_, ?_, ?_, ?_, hy.below hb, fun h0 => hy.lt h0, w0, w1', v0, v1⟩
  · exact (hb.cell (p := ⟨b, o + k * 4 + 0, none⟩) (block_lt_of_cell (hcell 0 _ rfl))).trans (hcell 0 _ rfl)
  · exact (hb.cell (p := ⟨b, o + k * 4 + 1, none⟩) (block_lt_of_cell (hcell 1 _ rfl))).trans (hcell 1 _ rfl)
  · exact (hb.cell (p := ⟨b, o + k * 4 + 2, none⟩) (block_lt_of_cell (hcell 2 _ rfl))).trans (hcell 2 _ rfl)
  · exact (hb.cell (p := ⟨b, o + k * 4 + 3, none⟩) (block_lt_of_cell (hcell 3 _ rfl))).trans (hcell 3 _ rfl)
/-- What the k-th step adds is little. -/
theorem wr_step {xs : List StepR} {n k l : Nat} {x : StepR} (hl : xs.length = n) (hx : xs[k]? = some x) (hlx : l = x.d.length) (hv : wrN xs n ≤ 1073741824) : wrN xs k + l ≤ 140737488355328 ∧ wrN xs k + l ≤ wrN xs (k + 1) := by
  have h1 := wrN_succ xs k x hx
  have hk := (List.getElem?_eq_some_iff.1 hx).1
  have h2 := wrN_mono xs (k + 1) n (by omega) (by omega)
  omega
set_option maxHeartbeats 3200000 in
theorem areaBeside_any (A : Option Addr) (n c : Nat) (xs : List StepR) (A2 : Option Addr) (n2 c2 : Nat) (ys : List StepR) (w : World) (h : RecS IsStep w 4 A n xs) (hn : n ≤ 140737488351232) (h2 : RecS IsStep w 4 A2 n2 ys) (hn2 : n2 ≤ 140737488351232) :
    Calls Try.prog 6 #[.slice A n c, .slice A2 n2 c2] w fun e w' => e = .returned (.bool true) ∧ Below w.heap.size w w' := by
  have hb1 := below_alloc w (.cells #[.slice A n c, .slice A2 n2 c2] 40)
  have HLn := Lib.hid h.1
  have HLn2 := Lib.hid h2.1
  go_enter Try.func6, Try.ntmps6
  go_wp2_with fail
  refine (vast_any _ 2 _ [xs, ys] _ (scr_two h hn h2 hn2 _) (by omega)).mono ?_
  rintro e w1 ⟨b, rfl, hb2, hv⟩
  have hB1 := below_then hb1 hb2 hb1.size
  clear hb1 hb2
  cases b with
  | true =>
    go_wp2
    go_ret
    exact ⟨rfl, hB1⟩
  | false =>
    have hv2 : wrN xs n + wrN ys n2 ≤ 1073741824 := by have := hv rfl; rwa [show ([xs, ys] : List (List StepR)).length = 2 from rfl, tot_two, h.1, h2.1] at this
    clear hv
    have HV := Lib.hid (show wrN xs n ≤ 1073741824 by omega)
    have HV2 := Lib.hid (show wrN ys n2 ≤ 1073741824 by omega)
    clear hv2
    go_wp2_with fail
    refine (areaNew_any _).mono ?_
    rintro e w2 ⟨rfl, hw2⟩
    have q1 := pair_new w1
    rw [← hw2] at q1
    have hb2 : Below w1.heap.size w1 w2 := by rw [hw2]; exact below_alloc _ _
    have hz2 : w2.heap.size = w1.heap.size + 1 := by rw [hw2]; simp
    clear hw2
    have hb3 := below_alloc w2 (.cells #[.pointer (some ⟨w1.heap.size, 0, none⟩), .int .i64 0, .slice none 0 0, .slice none 0 0] 48)
    have hz3 : (w2.alloc (.cells #[.pointer (some ⟨w1.heap.size, 0, none⟩), .int .i64 0, .slice none 0 0, .slice none 0 0] 48)).heap.size = w2.heap.size + 1 := by simp
    go_wp2_with fail
    refine (areaNew_any _).mono ?_
    rintro e w4 ⟨rfl, hw4⟩
    have q2 := pair_new (w2.alloc (.cells #[.pointer (some ⟨w1.heap.size, 0, none⟩), .int .i64 0, .slice none 0 0, .slice none 0 0] 48))
    have hb4 : Below (w2.alloc (.cells #[.pointer (some ⟨w1.heap.size, 0, none⟩), .int .i64 0, .slice none 0 0, .slice none 0 0] 48)).heap.size (w2.alloc (.cells #[.pointer (some ⟨w1.heap.size, 0, none⟩), .int .i64 0, .slice none 0 0, .slice none 0 0] 48)) w4 := by rw [hw4]; exact below_alloc _ _
    rw [← hw4, hz3, hz2] at q2
    have hz4 : w4.heap.size = w1.heap.size + 1 + 1 + 1 := by rw [hw4]; simp [hz2]
    clear hw4
    have hb5 := below_then hb4 (below_alloc w4 (.cells #[.pointer (some ⟨w1.heap.size + 1 + 1, 0, none⟩), .int .i64 0, .slice none 0 0, .slice none 0 0] 48)) hb4.size
    have hs1 := hB1.size
    have hB5 := below_then hB1 (below_then hb2 (below_then hb3 hb5 hb3.size) hb2.size) hB1.size
    have TW := two_new (B := w.heap.size) (w0 := w) q1 hb5 q2 (by omega) (by omega) (by rw [hz3, hz2]; omega) (by rw [hz3, hz2]; omega) (by rw [hz3, hz2]; omega) hB5
    go_upto_region 4 with fail
    generalize w4.alloc (.cells #[.pointer (some ⟨w1.heap.size + 1 + 1, 0, none⟩), .int .i64 0, .slice none 0 0, .slice none 0 0] 48) = w5 at *
    generalize pF (w1.heap.size + 1) w1.heap.size none none none = F1 at TW
    generalize pF (w1.heap.size + 1 + 1 + 1) (w1.heap.size + 1 + 1) none none none = F2 at TW
    generalize w1.heap.size + 1 + 1 + 1 = P2 at *
    generalize w1.heap.size + 1 = P1 at *
    obtain ⟨g1, c0⟩ := TW.one.cell0
    obtain ⟨g2, c0'⟩ := TW.two.cell0
    clear hb4 q1 q2 hb2 hb3 hz3 hB5 hz4 hb5
    go_wp2_with fail
    refine (awake_any _).mono ?_
    rintro e w6 ⟨rfl, hb6⟩
    have T6 := TW.below hb6
    clear TW c0 c0' hb6 hz2
    go_wp2
    go_loopw [7] (fun i wr => ∃ k F1 F2, i = .int .i64 (k : Nat) ∧ (k ≤ n ∨ k ≤ n2) ∧ Two w.heap.size w wr P1 F1 (wrN xs (min k n)) P2 F2 (wrN ys (min k n2))) (fun i _ => n + n2 - (intOf i).toNat)
    case atStart => exact ⟨0, F1, F2, rfl, .inl (by omega), by rw [Nat.zero_min, Nat.zero_min]; exact T6⟩
    case round =>
      clear T6
      obtain ⟨k, F1, F2, rfl, hk, TW⟩ := hrel
      by_cases hlt : k < n
      · obtain ⟨b, o, x, A', l, ca, rfl, hx, hlx, hst⟩ := step_at h TW.bel k hlt
        rw [Nat.min_eq_left (Nat.le_of_lt hlt)] at TW
        obtain ⟨hT1, hT1'⟩ := wr_step HLn.out hx hlx HV.out
        have HLX := Lib.hid hlx
        clear hx hlx
        have r0 := hst.r0
        have r1 := hst.r1
        have r2 := hst.r2
        have r3 := hst.r3
        have hkp : (0 : Int) ≤ (k : Int) := by omega
        go_wp2_with fail
        refine (step_sit TW.one TW.le x.kind x.a x.b hst.a0 hst.a1 hst.b0 hst.b1 A' l ca x.d hst.hb hst.hdn hT1).mono ?_
        intro e wa hs
        obtain ⟨rfl, F1', TA⟩ := TW.left hs
        clear r0 r1 r2 r3 hs TW hst
        by_cases hlt2 : k < n2
        · obtain ⟨b2, o2, y, B', l2, cb, rfl, hy, hly, hst⟩ := step_at h2 TA.bel k hlt2
          rw [Nat.min_eq_left (Nat.le_of_lt hlt2)] at TA
          obtain ⟨hT2, hT2'⟩ := wr_step HLn2.out hy hly HV2.out
          clear hy hly
          have r0 := hst.r0
          have r1 := hst.r1
          have r2 := hst.r2
          have r3 := hst.r3
          go_wp2_with fail
          refine (step_sit TA.two TA.le y.kind y.a y.b hst.a0 hst.a1 hst.b0 hst.b1 B' l2 cb y.d hst.hb hst.hdn hT2).mono ?_
          intro e wb hs
          obtain ⟨rfl, F2', TB⟩ := TA.right hs
          clear r0 r1 r2 r3 hs TA hst
          have TC : Two w.heap.size w wb P1 F1' (wrN xs (min (k + 1) n)) P2 F2' (wrN ys (min (k + 1) n2)) := by
            rw [Nat.min_eq_left (show k + 1 ≤ n by omega), Nat.min_eq_left (show k + 1 ≤ n2 by omega)]
            exact ⟨TB.one.mono hT1', TB.two.mono hT2', TB.dis, TB.bel, TB.le⟩
          clear TB
          go_wp2
          go_roundw
          case rel => exact ⟨k + 1, F1', F2', by go_num, .inl (by omega), TC⟩
          case measure => simp [intOf]; omega
        · have TC : Two w.heap.size w wa P1 F1' (wrN xs (min (k + 1) n)) P2 F2 (wrN ys (min (k + 1) n2)) := by
            rw [Nat.min_eq_left (show k + 1 ≤ n by omega), Nat.min_eq_right (show n2 ≤ k + 1 by omega)]
            rw [Nat.min_eq_right (show n2 ≤ k by omega)] at TA
            exact ⟨TA.one.mono hT1', TA.two, TA.dis, TA.bel, TA.le⟩
          clear TA
          go_wp2
          go_roundw
          case rel => exact ⟨k + 1, F1', F2, by go_num, .inl (by omega), TC⟩
          case measure => simp [intOf]; omega
      · by_cases hlt2 : k < n2
        · obtain ⟨b2, o2, y, B', l2, cb, rfl, hy, hly, hst⟩ := step_at h2 TW.bel k hlt2
          rw [Nat.min_eq_left (Nat.le_of_lt hlt2)] at TW
          obtain ⟨hT2, hT2'⟩ := wr_step HLn2.out hy hly HV2.out
          clear hy hly
          have r0 := hst.r0
          have r1 := hst.r1
          have r2 := hst.r2
          have r3 := hst.r3
          go_wp2_with fail
          refine (step_sit TW.two TW.le y.kind y.a y.b hst.a0 hst.a1 hst.b0 hst.b1 B' l2 cb y.d hst.hb hst.hdn hT2).mono ?_
          intro e wb hs
          obtain ⟨rfl, F2', TB⟩ := TW.right hs
          clear r0 r1 r2 r3 hs TW hst
          have TC : Two w.heap.size w wb P1 F1 (wrN xs (min (k + 1) n)) P2 F2' (wrN ys (min (k + 1) n2)) := by
            rw [Nat.min_eq_right (show n ≤ k + 1 by omega), Nat.min_eq_left (show k + 1 ≤ n2 by omega)]
            rw [Nat.min_eq_right (show n ≤ k by omega)] at TB
            exact ⟨TB.one, TB.two.mono hT2', TB.dis, TB.bel, TB.le⟩
          clear TB
          go_wp2
          go_roundw
          case rel => exact ⟨k + 1, F1, F2', by go_num, .inr (by omega), TC⟩
          case measure => simp [intOf]; omega
        · rw [Nat.min_eq_right (show n ≤ k by omega), Nat.min_eq_right (show n2 ≤ k by omega)] at TW
          have hT1 : wrN xs n ≤ 140737488355328 := by have := HV.out; omega
          have hT2 : wrN ys n2 ≤ 140737488355328 := by have := HV2.out; omega
          go_wp2_with fail
          refine (last_sit TW.one TW.le hT1).mono ?_
          intro e wa hs
          obtain ⟨rfl, F1', TA⟩ := TW.left hs
          go_wp2_with fail
          refine (last_sit TA.two TA.le hT2).mono ?_
          intro e wb hs2
          obtain ⟨rfl, F2', TB⟩ := TA.right hs2
          go_wp2
          go_ret
          exact ⟨rfl, TB.bel⟩
end Go.Proofs.Ytbfnmfakagdpfaa
