/- The law WheelRuns, walked. -/
import Derived.Test.YtagfigjcoffklaaStep
import Derived.Deep.CutRange
namespace Go.Proofs.Ytagfigjcoffklaa
open Go.RowKit
theorem below_alloc (w : World) (o : Obj) : Below w.heap.size w (w.alloc o) := (Below.refl _ _).alloc (Nat.le_refl _) _
/-- What holds between the rounds. -/
structure Runs (w wr : World) (f1 f2 : Bool) (G1 g1 G2 g2 : Nat) (p o i : Int) : Prop where
  below : Below w.heap.size w wr
  one : f1 = true → ∃ t s : Int, 0 ≤ t ∧ t ≤ i ∧ 0 ≤ s ∧ s ≤ i ∧ Pair wr G1 g1 p t s
  two : f2 = true → ∃ t s : Int, 0 ≤ t ∧ t ≤ i ∧ 0 ≤ s ∧ s ≤ i ∧ Pair wr G2 g2 o t s
  b1 : f1 = true → w.heap.size ≤ G1 ∧ w.heap.size ≤ g1
  b2 : f2 = true → w.heap.size ≤ G2 ∧ w.heap.size ≤ g2
  apart : f1 = true → f2 = true → G1 ≠ G2 ∧ G1 ≠ g2 ∧ g1 ≠ G2 ∧ g1 ≠ g2
theorem Runs.mono {w wr : World} {f1 f2 : Bool} {G1 g1 G2 g2 : Nat} {p o i j : Int} (h : Runs w wr f1 f2 G1 g1 G2 g2 p o i) (hij : i ≤ j) : Runs w wr f1 f2 G1 g1 G2 g2 p o j :=
  ⟨h.below, fun e => by obtain ⟨t, s, a, b, c, d, k⟩ := h.one e; exact ⟨t, s, a, by omega, c, by omega, k⟩, fun e => by obtain ⟨t, s, a, b, c, d, k⟩ := h.two e; exact ⟨t, s, a, by omega, c, by omega, k⟩, h.b1, h.b2, h.apart⟩
theorem run_one {w wr : World} {f2 : Bool} {G1 g1 G2 g2 : Nat} {p o i : Int} (h : Runs w wr true f2 G1 g1 G2 g2 p o i) (hi : i ≤ 4611686018427387904) (p0 : 1 ≤ p) (p1 : p ≤ 16) (k : Int) (k0 : 0 ≤ k) (k1 : k ≤ 255) :
    Calls Try.prog 21 #[.pointer (some ⟨G1, 0, none⟩), .int .u8 k] wr fun e w' => e = .returned (.bool true) ∧ Runs w w' true f2 G1 g1 G2 g2 p o (i + 1) := by
  obtain ⟨t, s, t0, t1, s0, s1, hp⟩ := h.one rfl
  refine (step_any G1 g1 p t s k wr hp k0 k1 p0 p1 t0 (by omega) s0 (by omega)).mono ?_
  rintro e w' ⟨rfl, t', s', a, b, c, d, hp', hc⟩
  obtain ⟨b1, b2⟩ := h.b1 rfl
  refine ⟨rfl, hc.toBelow h.below h.below.size b1 b2, fun _ => ⟨t', s', by omega, by omega, by omega, by omega, hp'⟩, fun e => ?_, h.b1, h.b2, h.apart⟩
  subst e
  obtain ⟨x1, x2, x3, x4⟩ := h.apart rfl rfl
  obtain ⟨t, s, a, b, c, d, k⟩ := h.two rfl
  exact ⟨t, s, a, by omega, c, by omega, k.other hc (Ne.symm x1) (Ne.symm x3) (Ne.symm x2) (Ne.symm x4)⟩
theorem run_two {w wr : World} {f1 : Bool} {G1 g1 G2 g2 : Nat} {p o i : Int} (h : Runs w wr f1 true G1 g1 G2 g2 p o i) (hi : i ≤ 4611686018427387904) (o0 : 1 ≤ o) (o1 : o ≤ 16) (k : Int) (k0 : 0 ≤ k) (k1 : k ≤ 255) :
    Calls Try.prog 21 #[.pointer (some ⟨G2, 0, none⟩), .int .u8 k] wr fun e w' => e = .returned (.bool true) ∧ Runs w w' f1 true G1 g1 G2 g2 p o (i + 1) := by
  obtain ⟨t, s, t0, t1, s0, s1, hp⟩ := h.two rfl
  refine (step_any G2 g2 o t s k wr hp k0 k1 o0 o1 t0 (by omega) s0 (by omega)).mono ?_
  rintro e w' ⟨rfl, t', s', a, b, c, d, hp', hc⟩
  obtain ⟨b1, b2⟩ := h.b2 rfl
  refine ⟨rfl, hc.toBelow h.below h.below.size b1 b2, fun e => ?_, fun _ => ⟨t', s', by omega, by omega, by omega, by omega, hp'⟩, h.b1, h.b2, h.apart⟩
  subst e
  obtain ⟨x1, x2, x3, x4⟩ := h.apart rfl rfl
  obtain ⟨t, s, a, b, c, d, k⟩ := h.one rfl
  exact ⟨t, s, a, by omega, c, by omega, k.other hc x1 x2 x3 x4⟩
theorem runs_start12 {w w7 : World} (hT : Below w.heap.size w w7) {f1 f2 : Bool} {g1 g2 : Nat} {c1 c2 : Array Value} {p o : Int}
    (h1 : f1 = true → c1 = #[.pointer (some ⟨g1, 0, none⟩), .int .i64 p, .int .i64 0, .int .i64 0] ∧ Whl w7 g1 p 0 0 ∧ w.heap.size ≤ g1)
    (h2 : f2 = true → c2 = #[.pointer (some ⟨g2, 0, none⟩), .int .i64 o, .int .i64 0, .int .i64 0] ∧ Whl w7 g2 o 0 0 ∧ w.heap.size ≤ g2)
    (h3 : f1 = true → f2 = true → g1 ≠ g2) :
    Runs w ((w7.alloc (.cells c1 49)).alloc (.cells c2 49)).drew f1 f2 w7.heap.size g1 (w7.heap.size + 1) g2 p o 0 := by
  have hs := hT.size
  have hB := below_then (below_alloc w7 (.cells c1 49)) (below_alloc (w7.alloc (.cells c1 49)) (.cells c2 49)) (by simp)
  have k1 : Blk ((w7.alloc (.cells c1 49)).alloc (.cells c2 49)) w7.heap.size c1 _ := heap_alloc2_old _ _ _
  have k2 : Blk ((w7.alloc (.cells c1 49)).alloc (.cells c2 49)) (w7.heap.size + 1) c2 _ := heap_alloc2_new _ _ _
  generalize (w7.alloc (.cells c1 49)).alloc (.cells c2 49) = w8 at *
  refine ⟨(hT.trans (hB.mono hs)).drew, fun e => ?_, fun e => ?_, fun e => ⟨hs, (h1 e).2.2⟩, fun e => ⟨by omega, (h2 e).2.2⟩, fun e1 e2 => ?_⟩
  · obtain ⟨e1, e2, e3⟩ := h1 e
    have := e2.lt
    rw [e1] at k1
    exact ⟨0, 0, by omega, by omega, by omega, by omega, ⟨Blk.drew k1, (e2.below hB e2.lt : Whl _ _ _ _ _).drew, by omega⟩⟩
  · obtain ⟨e1, e2, e3⟩ := h2 e
    have := e2.lt
    rw [e1] at k2
    exact ⟨0, 0, by omega, by omega, by omega, by omega, ⟨Blk.drew k2, (e2.below hB e2.lt : Whl _ _ _ _ _).drew, by omega⟩⟩
  · have a1 := (h1 e1).2.1.lt
    have a2 := (h2 e2).2.1.lt
    have a3 := h3 e1 e2
    exact ⟨by omega, by omega, by omega, a3⟩
theorem runs_start21 {w w7 : World} (hT : Below w.heap.size w w7) {f1 f2 : Bool} {g1 g2 : Nat} {c1 c2 : Array Value} {p o : Int}
    (h1 : f1 = true → c1 = #[.pointer (some ⟨g1, 0, none⟩), .int .i64 p, .int .i64 0, .int .i64 0] ∧ Whl w7 g1 p 0 0 ∧ w.heap.size ≤ g1)
    (h2 : f2 = true → c2 = #[.pointer (some ⟨g2, 0, none⟩), .int .i64 o, .int .i64 0, .int .i64 0] ∧ Whl w7 g2 o 0 0 ∧ w.heap.size ≤ g2)
    (h3 : f1 = true → f2 = true → g1 ≠ g2) :
    Runs w ((w7.alloc (.cells c2 49)).alloc (.cells c1 49)).drew f1 f2 (w7.heap.size + 1) g1 w7.heap.size g2 p o 0 := by
  have h := runs_start12 hT h2 h1 (fun a b => (h3 b a).symm)
  exact ⟨h.below, h.two, h.one, h.b2, h.b1, fun a b => by obtain ⟨x1, x2, x3, x4⟩ := h.apart b a; exact ⟨x1.symm, x3.symm, x2.symm, x4.symm⟩⟩
theorem Bytes.same0 {w : World} {b q n : Nat} {bs : List UInt8} {v : World} {m : Int} (h : Bytes w (some ⟨b, q, none⟩) n bs) (k : Nat) (hk : k < n) (_hc : v.cell? ⟨b, q + k, none⟩ = some (.int .u8 m)) (hm : m = (((bs.getD k 0).toNat : Nat) : Int)) : w.cell? ⟨b, q + k, none⟩ = some (.int .u8 m) := by
  rcases h.2.2 with h0 | ⟨b', q', hA, hc⟩
  · omega
  · injection hA with hA
    injection hA with e1 e2
    subst e1; subst e2
    rw [hc k hk, hm]
set_option maxRecDepth 100000 in
set_option maxHeartbeats 4000000 in
theorem runs_yy (p o : Int) (A : Option Addr) (n c : Nat) (bs : List UInt8) (w : World) (hb : Bytes w A n bs) (hn : n ≤ 281474976710656) (p0 : 1 ≤ p) (p1 : p ≤ 16) (o0 : 1 ≤ o) (o1 : o ≤ 16) :
    Calls Try.prog 8 #[.int .i64 p, .int .i64 o, .slice A n c] w fun e w' => e = .returned (.bool true) ∧ Below w.heap.size w w' := by
  go_enter Try.func8, Try.ntmps8
  go_wp2_with fail
  refine (new_yes p _ p0 p1).mono ?_
  rintro e w1 ⟨rfl, hW1, hB1⟩
  have hT1 := hB1
  go_wp2_with fail
  refine (refNew_yes p _ p0 p1).mono ?_
  rintro e w2 ⟨rfl, hB2⟩
  unfold rwh
  have hW2 : Whl w2 _ _ _ _ := hW1.below hB2 hW1.lt
  have hT2 := below_then hT1 hB2 hT1.size
  obtain ⟨D1, hD1⟩ : ∃ D1, w2.heap.size = D1 := ⟨_, rfl⟩
  have hDn := heap_alloc_new w2 (.cells #[.int .i64 p, .int .i64 0, .int .i64 0] 44)
  have hB3 := below_alloc w2 (.cells #[.int .i64 p, .int .i64 0, .int .i64 0] 44)
  go_wp2_with fail
  rw [hD1] at hDn
  generalize w2.alloc (.cells #[.int .i64 p, .int .i64 0, .int .i64 0] 44) = w3 at *
  have hD3 : Blk w3 D1 _ _ := hDn
  have hW3 : Whl w3 _ _ _ _ := hW2.below hB3 hW2.lt
  have hT3 := below_then hT2 hB3 hT2.size
  refine (new_yes o _ o0 o1).mono ?_
  rintro e w4 ⟨rfl, hV4, hB4⟩
  have hW4 : Whl w4 _ _ _ _ := hW3.below hB4 hW3.lt
  have hD4 : Blk w4 _ _ _ := hD3.below hB4 hD3.lt
  have hT4 := below_then hT3 hB4 hT3.size
  go_wp2_with fail
  refine (refNew_yes o _ o0 o1).mono ?_
  rintro e w5 ⟨rfl, hB5⟩
  unfold rwh
  have hW5 : Whl w5 _ _ _ _ := hW4.below hB5 hW4.lt
  have hD5 : Blk w5 _ _ _ := hD4.below hB5 hD4.lt
  have hV5 : Whl w5 _ _ _ _ := hV4.below hB5 hV4.lt
  have hT5 := below_then hT4 hB5 hT4.size
  obtain ⟨D2, hD2⟩ : ∃ D2, w5.heap.size = D2 := ⟨_, rfl⟩
  have hEn := heap_alloc_new w5 (.cells #[.int .i64 o, .int .i64 0, .int .i64 0] 44)
  have hB6 := below_alloc w5 (.cells #[.int .i64 o, .int .i64 0, .int .i64 0] 44)
  go_wp2_with fail
  rw [hD2] at hEn
  generalize w5.alloc (.cells #[.int .i64 o, .int .i64 0, .int .i64 0] 44) = w6 at *
  have hE6 : Blk w6 D2 _ _ := hEn
  have hW6 : Whl w6 _ _ _ _ := hW5.below hB6 hW5.lt
  have hD6 : Blk w6 _ _ _ := hD5.below hB6 hD5.lt
  have hV6 : Whl w6 _ _ _ _ := hV5.below hB6 hV5.lt
  have hT6 := below_then hT5 hB6 hT5.size
  refine (awake_any _).mono ?_
  rintro e w7 ⟨rfl, hB7⟩
  have hW7 : Whl w7 _ _ _ _ := hW6.below hB7 hW6.lt
  have hD7 : Blk w7 _ _ _ := hD6.below hB7 hD6.lt
  have hV7 : Whl w7 _ _ _ _ := hV6.below hB7 hV6.lt
  have hE7 : Blk w7 _ _ _ := hE6.below hB7 hE6.lt
  have hT7 := below_then hT6 hB7 hT6.size
  have hne : w.heap.size ≠ w3.heap.size := by have := hW3.lt; omega
  have hg2 : w.heap.size ≤ w3.heap.size := hT3.size
  generalize w3.heap.size = g2 at *
  have d0 : w7.cell? ⟨D1, 0, none⟩ = some (.int .i64 p) := hD7.cell 0
  have d1 : w7.cell? ⟨D1, 1, none⟩ = some (.int .i64 0) := hD7.cell 1
  have d2 : w7.cell? ⟨D1, 2, none⟩ = some (.int .i64 0) := hD7.cell 2
  have e0 : w7.cell? ⟨D2, 0, none⟩ = some (.int .i64 o) := hE7.cell 0
  have e1 : w7.cell? ⟨D2, 1, none⟩ = some (.int .i64 0) := hE7.cell 1
  have e2 : w7.cell? ⟨D2, 2, none⟩ = some (.int .i64 0) := hE7.cell 2
  have hL1 := hD7.lt
  have hL2 := hE7.lt
  have hLW := hW7.lt
  have hLV := hV7.lt
  have hT7s := hT7.size
  clear hB1 hB2 hB3 hB4 hB5 hB6 hB7 hT1 hT2 hT3 hT4 hT5 hT6 hDn hEn hD1 hD2 hD3 hD4 hD5 hD6 hE6 hW1 hW2 hW3 hW4 hW5 hW6 hV4 hV5 hV6
  go_upto_region 7 with fail
  go_cut [15, 16] from 64 to 71 (fun a b wc => ∃ G1 G2 : Nat, a = .pointer (some ⟨G1, 0, none⟩) ∧ b = .pointer (some ⟨G2, 0, none⟩) ∧ Runs w wc true true G1 w.heap.size G2 g2 p o 0)
  case first =>
    go_region
    all_goals (go_wp2_with fail; go_meet)
    · exact ⟨_, _, rfl, rfl, runs_start12 hT7 (fun _ => ⟨rfl, hW7, Nat.le_refl _⟩) (fun _ => ⟨rfl, hV7, hg2⟩) (fun _ _ => hne)⟩
    · exact ⟨_, _, rfl, rfl, runs_start21 hT7 (fun _ => ⟨rfl, hW7, Nat.le_refl _⟩) (fun _ => ⟨rfl, hV7, hg2⟩) (fun _ _ => hne)⟩
  case rest =>
    obtain ⟨G1, G2, rfl, rfl, hR⟩ := hcut
    clear d0 d1 d2 e0 e1 e2 hL1 hL2 hT7s hT7 hD7 hE7 hW7 hLW hV7 hLV
    go_wp2
    go_loopw [17] (fun i wr => ∃ k : Nat, k ≤ n ∧ i = .int .i64 k ∧ Runs w wr true true G1 w.heap.size G2 g2 p o (2 * k)) (fun i _ => n - (intOf i).toNat)
    case atStart => exact ⟨0, by omega, rfl, hR⟩
    case round =>
      clear hR
      obtain ⟨k, hk, rfl, hR⟩ := hrel
      by_cases hlt : k < n
      · obtain ⟨b, q, m, hA, hc, hm⟩ := (hb.below hR.below).at_ k hlt
        subst hA
        have m0 : 0 ≤ m := by rw [hm]; omega
        have m1 : m ≤ 255 := by rw [hm]; have := (bs.getD k 0).toNat_lt; omega
        have HM := Lib.hid hm
        clear hm
        have hki : 2 * (k : Int) ≤ 1000000000000000 := by omega
        go_wp2_with fail
        refine (run_one hR (by omega) p0 p1 m m0 m1).mono ?_
        rintro e w8 ⟨rfl, hR8⟩
        have hc8 := (hb.below hR8.below).same0 k hlt hc HM.out
        clear hc
        by_cases h128 : 128 ≤ m
        · go_wp2_with fail
          refine (run_two hR8 (by omega) o0 o1 (m / 4) (by omega) (by omega)).mono ?_
          rintro e w9 ⟨rfl, hR9⟩
          go_wp2
          go_roundw
          case rel => exact ⟨k + 1, by omega, by go_num, hR9.mono (by omega)⟩
          case measure => simp [intOf]; omega
        · go_wp2
          go_roundw
          case rel => exact ⟨k + 1, by omega, by go_num, hR8.mono (by omega)⟩
          case measure => simp [intOf]; omega
      · obtain rfl : k = n := by omega
        go_wp2_with fail
        refine (run_one hR (by omega) p0 p1 2 (by omega) (by omega)).mono ?_
        rintro e x1 ⟨rfl, hS1⟩
        go_wp2_with fail
        refine (run_one hS1 (by omega) p0 p1 3 (by omega) (by omega)).mono ?_
        rintro e x2 ⟨rfl, hS2⟩
        go_wp2_with fail
        refine (run_two hS2 (by omega) o0 o1 2 (by omega) (by omega)).mono ?_
        rintro e x3 ⟨rfl, hS3⟩
        go_wp2_with fail
        refine (run_two hS3 (by omega) o0 o1 3 (by omega) (by omega)).mono ?_
        rintro e x4 ⟨rfl, hS4⟩
        go_wp2
        go_ret
        exact ⟨by simp, hS4.below⟩
set_option maxRecDepth 100000 in
set_option maxHeartbeats 4000000 in
theorem runs_yn (p o : Int) (A : Option Addr) (n c : Nat) (bs : List UInt8) (w : World) (hb : Bytes w A n bs) (hn : n ≤ 281474976710656) (p0 : 1 ≤ p) (p1 : p ≤ 16) (ho : o < 1 ∨ 16 < o) :
    Calls Try.prog 8 #[.int .i64 p, .int .i64 o, .slice A n c] w fun e w' => e = .returned (.bool true) ∧ Below w.heap.size w w' := by
  go_enter Try.func8, Try.ntmps8
  go_wp2_with fail
  refine (new_yes p _ p0 p1).mono ?_
  rintro e w1 ⟨rfl, hW1, hB1⟩
  have hT1 := hB1
  go_wp2_with fail
  refine (refNew_yes p _ p0 p1).mono ?_
  rintro e w2 ⟨rfl, hB2⟩
  unfold rwh
  have hW2 : Whl w2 _ _ _ _ := hW1.below hB2 hW1.lt
  have hT2 := below_then hT1 hB2 hT1.size
  obtain ⟨D1, hD1⟩ : ∃ D1, w2.heap.size = D1 := ⟨_, rfl⟩
  have hDn := heap_alloc_new w2 (.cells #[.int .i64 p, .int .i64 0, .int .i64 0] 44)
  have hB3 := below_alloc w2 (.cells #[.int .i64 p, .int .i64 0, .int .i64 0] 44)
  go_wp2_with fail
  rw [hD1] at hDn
  generalize w2.alloc (.cells #[.int .i64 p, .int .i64 0, .int .i64 0] 44) = w3 at *
  have hD3 : Blk w3 D1 _ _ := hDn
  have hW3 : Whl w3 _ _ _ _ := hW2.below hB3 hW2.lt
  have hT3 := below_then hT2 hB3 hT2.size
  refine (new_no o _ ho).mono ?_
  rintro e w4 ⟨rfl, hw4⟩
  have hB4 : Below w3.heap.size w3 w4 := by rw [hw4]; exact Below.refl _ _
  clear hw4
  have hW4 : Whl w4 _ _ _ _ := hW3.below hB4 hW3.lt
  have hD4 : Blk w4 _ _ _ := hD3.below hB4 hD3.lt
  have hT4 := below_then hT3 hB4 hT3.size
  go_wp2_with fail
  refine (refNew_no o _ ho).mono ?_
  rintro e w5 ⟨rfl, hB5⟩
  unfold rwh
  have hW5 : Whl w5 _ _ _ _ := hW4.below hB5 hW4.lt
  have hD5 : Blk w5 _ _ _ := hD4.below hB5 hD4.lt
  have hT5 := below_then hT4 hB5 hT4.size
  obtain ⟨D2, hD2⟩ : ∃ D2, w5.heap.size = D2 := ⟨_, rfl⟩
  have hEn := heap_alloc_new w5 (.cells #[.int .i64 0, .int .i64 0, .int .i64 0] 44)
  have hB6 := below_alloc w5 (.cells #[.int .i64 0, .int .i64 0, .int .i64 0] 44)
  go_wp2_with fail
  rw [hD2] at hEn
  generalize w5.alloc (.cells #[.int .i64 0, .int .i64 0, .int .i64 0] 44) = w6 at *
  have hE6 : Blk w6 D2 _ _ := hEn
  have hW6 : Whl w6 _ _ _ _ := hW5.below hB6 hW5.lt
  have hD6 : Blk w6 _ _ _ := hD5.below hB6 hD5.lt
  have hT6 := below_then hT5 hB6 hT5.size
  refine (awake_any _).mono ?_
  rintro e w7 ⟨rfl, hB7⟩
  have hW7 : Whl w7 _ _ _ _ := hW6.below hB7 hW6.lt
  have hD7 : Blk w7 _ _ _ := hD6.below hB7 hD6.lt
  have hE7 : Blk w7 _ _ _ := hE6.below hB7 hE6.lt
  have hT7 := below_then hT6 hB7 hT6.size
  have d0 : w7.cell? ⟨D1, 0, none⟩ = some (.int .i64 p) := hD7.cell 0
  have d1 : w7.cell? ⟨D1, 1, none⟩ = some (.int .i64 0) := hD7.cell 1
  have d2 : w7.cell? ⟨D1, 2, none⟩ = some (.int .i64 0) := hD7.cell 2
  have e0 : w7.cell? ⟨D2, 0, none⟩ = some (.int .i64 0) := hE7.cell 0
  have e1 : w7.cell? ⟨D2, 1, none⟩ = some (.int .i64 0) := hE7.cell 1
  have e2 : w7.cell? ⟨D2, 2, none⟩ = some (.int .i64 0) := hE7.cell 2
  have hL1 := hD7.lt
  have hL2 := hE7.lt
  have hLW := hW7.lt
  have hT7s := hT7.size
  clear hB1 hB2 hB3 hB4 hB5 hB6 hB7 hT1 hT2 hT3 hT4 hT5 hT6 hDn hEn hD1 hD2 hD3 hD4 hD5 hD6 hE6 hW1 hW2 hW3 hW4 hW5 hW6
  go_upto_region 7 with fail
  go_cut [15, 16] from 64 to 71 (fun a b wc => ∃ G1 G2 : Nat, a = .pointer (some ⟨G1, 0, none⟩) ∧ b = .pointer (some ⟨G2, 0, none⟩) ∧ Runs w wc true false G1 w.heap.size G2 0 p o 0)
  case first =>
    go_region
    all_goals (go_wp2_with fail; go_meet)
    · exact ⟨_, _, rfl, rfl, runs_start12 hT7 (fun _ => ⟨rfl, hW7, Nat.le_refl _⟩) (fun h => by cases h) (fun _ h => by cases h)⟩
    · exact ⟨_, _, rfl, rfl, runs_start21 hT7 (fun _ => ⟨rfl, hW7, Nat.le_refl _⟩) (fun h => by cases h) (fun _ h => by cases h)⟩
  case rest =>
    obtain ⟨G1, G2, rfl, rfl, hR⟩ := hcut
    clear d0 d1 d2 e0 e1 e2 hL1 hL2 hT7s hT7 hD7 hE7 hW7 hLW
    go_wp2
    go_loopw [17] (fun i wr => ∃ k : Nat, k ≤ n ∧ i = .int .i64 k ∧ Runs w wr true false G1 w.heap.size G2 0 p o (2 * k)) (fun i _ => n - (intOf i).toNat)
    case atStart => exact ⟨0, by omega, rfl, hR⟩
    case round =>
      clear hR
      obtain ⟨k, hk, rfl, hR⟩ := hrel
      by_cases hlt : k < n
      · obtain ⟨b, q, m, hA, hc, hm⟩ := (hb.below hR.below).at_ k hlt
        subst hA
        have m0 : 0 ≤ m := by rw [hm]; omega
        have m1 : m ≤ 255 := by rw [hm]; have := (bs.getD k 0).toNat_lt; omega
        have HM := Lib.hid hm
        clear hm
        have hki : 2 * (k : Int) ≤ 1000000000000000 := by omega
        go_wp2_with fail
        refine (run_one hR (by omega) p0 p1 m m0 m1).mono ?_
        rintro e w8 ⟨rfl, hR8⟩
        go_wp2
        go_roundw
        case rel => exact ⟨k + 1, by omega, by go_num, hR8.mono (by omega)⟩
        case measure => simp [intOf]; omega
      · obtain rfl : k = n := by omega
        go_wp2_with fail
        refine (run_one hR (by omega) p0 p1 2 (by omega) (by omega)).mono ?_
        rintro e x1 ⟨rfl, hS1⟩
        go_wp2_with fail
        refine (run_one hS1 (by omega) p0 p1 3 (by omega) (by omega)).mono ?_
        rintro e x2 ⟨rfl, hS2⟩
        go_wp2
        go_ret
        exact ⟨by simp, hS2.below⟩
set_option maxRecDepth 100000 in
set_option maxHeartbeats 4000000 in
theorem runs_ny (p o : Int) (A : Option Addr) (n c : Nat) (bs : List UInt8) (w : World) (hb : Bytes w A n bs) (hn : n ≤ 281474976710656) (hp : p < 1 ∨ 16 < p) (o0 : 1 ≤ o) (o1 : o ≤ 16) :
    Calls Try.prog 8 #[.int .i64 p, .int .i64 o, .slice A n c] w fun e w' => e = .returned (.bool true) ∧ Below w.heap.size w w' := by
  go_enter Try.func8, Try.ntmps8
  go_wp2_with fail
  refine (new_no p _ hp).mono ?_
  rintro e w1 ⟨rfl, hw1⟩
  have hB1 : Below w.heap.size w w1 := by rw [hw1]; exact Below.refl _ _
  clear hw1
  have hT1 := hB1
  go_wp2_with fail
  refine (refNew_no p _ hp).mono ?_
  rintro e w2 ⟨rfl, hB2⟩
  unfold rwh
  have hT2 := below_then hT1 hB2 hT1.size
  obtain ⟨D1, hD1⟩ : ∃ D1, w2.heap.size = D1 := ⟨_, rfl⟩
  have hDn := heap_alloc_new w2 (.cells #[.int .i64 0, .int .i64 0, .int .i64 0] 44)
  have hB3 := below_alloc w2 (.cells #[.int .i64 0, .int .i64 0, .int .i64 0] 44)
  go_wp2_with fail
  rw [hD1] at hDn
  generalize w2.alloc (.cells #[.int .i64 0, .int .i64 0, .int .i64 0] 44) = w3 at *
  have hD3 : Blk w3 D1 _ _ := hDn
  have hT3 := below_then hT2 hB3 hT2.size
  refine (new_yes o _ o0 o1).mono ?_
  rintro e w4 ⟨rfl, hV4, hB4⟩
  have hD4 : Blk w4 _ _ _ := hD3.below hB4 hD3.lt
  have hT4 := below_then hT3 hB4 hT3.size
  go_wp2_with fail
  refine (refNew_yes o _ o0 o1).mono ?_
  rintro e w5 ⟨rfl, hB5⟩
  unfold rwh
  have hD5 : Blk w5 _ _ _ := hD4.below hB5 hD4.lt
  have hV5 : Whl w5 _ _ _ _ := hV4.below hB5 hV4.lt
  have hT5 := below_then hT4 hB5 hT4.size
  obtain ⟨D2, hD2⟩ : ∃ D2, w5.heap.size = D2 := ⟨_, rfl⟩
  have hEn := heap_alloc_new w5 (.cells #[.int .i64 o, .int .i64 0, .int .i64 0] 44)
  have hB6 := below_alloc w5 (.cells #[.int .i64 o, .int .i64 0, .int .i64 0] 44)
  go_wp2_with fail
  rw [hD2] at hEn
  generalize w5.alloc (.cells #[.int .i64 o, .int .i64 0, .int .i64 0] 44) = w6 at *
  have hE6 : Blk w6 D2 _ _ := hEn
  have hD6 : Blk w6 _ _ _ := hD5.below hB6 hD5.lt
  have hV6 : Whl w6 _ _ _ _ := hV5.below hB6 hV5.lt
  have hT6 := below_then hT5 hB6 hT5.size
  refine (awake_any _).mono ?_
  rintro e w7 ⟨rfl, hB7⟩
  have hD7 : Blk w7 _ _ _ := hD6.below hB7 hD6.lt
  have hV7 : Whl w7 _ _ _ _ := hV6.below hB7 hV6.lt
  have hE7 : Blk w7 _ _ _ := hE6.below hB7 hE6.lt
  have hT7 := below_then hT6 hB7 hT6.size
  have hg2 : w.heap.size ≤ w3.heap.size := hT3.size
  generalize w3.heap.size = g2 at *
  have d0 : w7.cell? ⟨D1, 0, none⟩ = some (.int .i64 0) := hD7.cell 0
  have d1 : w7.cell? ⟨D1, 1, none⟩ = some (.int .i64 0) := hD7.cell 1
  have d2 : w7.cell? ⟨D1, 2, none⟩ = some (.int .i64 0) := hD7.cell 2
  have e0 : w7.cell? ⟨D2, 0, none⟩ = some (.int .i64 o) := hE7.cell 0
  have e1 : w7.cell? ⟨D2, 1, none⟩ = some (.int .i64 0) := hE7.cell 1
  have e2 : w7.cell? ⟨D2, 2, none⟩ = some (.int .i64 0) := hE7.cell 2
  have hL1 := hD7.lt
  have hL2 := hE7.lt
  have hLV := hV7.lt
  have hT7s := hT7.size
  clear hB1 hB2 hB3 hB4 hB5 hB6 hB7 hT1 hT2 hT3 hT4 hT5 hT6 hDn hEn hD1 hD2 hD3 hD4 hD5 hD6 hE6 hV4 hV5 hV6
  go_upto_region 7 with fail
  go_cut [15, 16] from 64 to 71 (fun a b wc => ∃ G1 G2 : Nat, a = .pointer (some ⟨G1, 0, none⟩) ∧ b = .pointer (some ⟨G2, 0, none⟩) ∧ Runs w wc false true G1 0 G2 g2 p o 0)
  case first =>
    go_region
    all_goals (go_wp2_with fail; go_meet)
    · exact ⟨_, _, rfl, rfl, runs_start12 hT7 (fun h => by cases h) (fun _ => ⟨rfl, hV7, hg2⟩) (fun h _ => by cases h)⟩
    · exact ⟨_, _, rfl, rfl, runs_start21 hT7 (fun h => by cases h) (fun _ => ⟨rfl, hV7, hg2⟩) (fun h _ => by cases h)⟩
  case rest =>
    obtain ⟨G1, G2, rfl, rfl, hR⟩ := hcut
    clear d0 d1 d2 e0 e1 e2 hL1 hL2 hT7s hT7 hD7 hE7 hV7 hLV
    go_wp2
    go_loopw [17] (fun i wr => ∃ k : Nat, k ≤ n ∧ i = .int .i64 k ∧ Runs w wr false true G1 0 G2 g2 p o (2 * k)) (fun i _ => n - (intOf i).toNat)
    case atStart => exact ⟨0, by omega, rfl, hR⟩
    case round =>
      clear hR
      obtain ⟨k, hk, rfl, hR⟩ := hrel
      by_cases hlt : k < n
      · obtain ⟨b, q, m, hA, hc, hm⟩ := (hb.below hR.below).at_ k hlt
        subst hA
        have m0 : 0 ≤ m := by rw [hm]; omega
        have m1 : m ≤ 255 := by rw [hm]; have := (bs.getD k 0).toNat_lt; omega
        have HM := Lib.hid hm
        clear hm
        have hki : 2 * (k : Int) ≤ 1000000000000000 := by omega
        by_cases h128 : 128 ≤ m
        · go_wp2_with fail
          refine (run_two hR (by omega) o0 o1 (m / 4) (by omega) (by omega)).mono ?_
          rintro e w9 ⟨rfl, hR9⟩
          go_wp2
          go_roundw
          case rel => exact ⟨k + 1, by omega, by go_num, hR9.mono (by omega)⟩
          case measure => simp [intOf]; omega
        · go_wp2
          go_roundw
          case rel => exact ⟨k + 1, by omega, by go_num, hR.mono (by omega)⟩
          case measure => simp [intOf]; omega
      · obtain rfl : k = n := by omega
        go_wp2_with fail
        refine (run_two hR (by omega) o0 o1 2 (by omega) (by omega)).mono ?_
        rintro e x1 ⟨rfl, hS1⟩
        go_wp2_with fail
        refine (run_two hS1 (by omega) o0 o1 3 (by omega) (by omega)).mono ?_
        rintro e x2 ⟨rfl, hS2⟩
        go_wp2
        go_ret
        exact ⟨by simp, hS2.below⟩
set_option maxRecDepth 100000 in
set_option maxHeartbeats 4000000 in
theorem runs_nn (p o : Int) (A : Option Addr) (n c : Nat) (bs : List UInt8) (w : World) (hb : Bytes w A n bs) (hn : n ≤ 281474976710656) (hp : p < 1 ∨ 16 < p) (ho : o < 1 ∨ 16 < o) :
    Calls Try.prog 8 #[.int .i64 p, .int .i64 o, .slice A n c] w fun e w' => e = .returned (.bool true) ∧ Below w.heap.size w w' := by
  go_enter Try.func8, Try.ntmps8
  go_wp2_with fail
  refine (new_no p _ hp).mono ?_
  rintro e w1 ⟨rfl, hw1⟩
  have hB1 : Below w.heap.size w w1 := by rw [hw1]; exact Below.refl _ _
  clear hw1
  have hT1 := hB1
  go_wp2_with fail
  refine (refNew_no p _ hp).mono ?_
  rintro e w2 ⟨rfl, hB2⟩
  unfold rwh
  have hT2 := below_then hT1 hB2 hT1.size
  obtain ⟨D1, hD1⟩ : ∃ D1, w2.heap.size = D1 := ⟨_, rfl⟩
  have hDn := heap_alloc_new w2 (.cells #[.int .i64 0, .int .i64 0, .int .i64 0] 44)
  have hB3 := below_alloc w2 (.cells #[.int .i64 0, .int .i64 0, .int .i64 0] 44)
  go_wp2_with fail
  rw [hD1] at hDn
  generalize w2.alloc (.cells #[.int .i64 0, .int .i64 0, .int .i64 0] 44) = w3 at *
  have hD3 : Blk w3 D1 _ _ := hDn
  have hT3 := below_then hT2 hB3 hT2.size
  refine (new_no o _ ho).mono ?_
  rintro e w4 ⟨rfl, hw4⟩
  have hB4 : Below w3.heap.size w3 w4 := by rw [hw4]; exact Below.refl _ _
  clear hw4
  have hD4 : Blk w4 _ _ _ := hD3.below hB4 hD3.lt
  have hT4 := below_then hT3 hB4 hT3.size
  go_wp2_with fail
  refine (refNew_no o _ ho).mono ?_
  rintro e w5 ⟨rfl, hB5⟩
  unfold rwh
  have hD5 : Blk w5 _ _ _ := hD4.below hB5 hD4.lt
  have hT5 := below_then hT4 hB5 hT4.size
  obtain ⟨D2, hD2⟩ : ∃ D2, w5.heap.size = D2 := ⟨_, rfl⟩
  have hEn := heap_alloc_new w5 (.cells #[.int .i64 0, .int .i64 0, .int .i64 0] 44)
  have hB6 := below_alloc w5 (.cells #[.int .i64 0, .int .i64 0, .int .i64 0] 44)
  go_wp2_with fail
  rw [hD2] at hEn
  generalize w5.alloc (.cells #[.int .i64 0, .int .i64 0, .int .i64 0] 44) = w6 at *
  have hE6 : Blk w6 D2 _ _ := hEn
  have hD6 : Blk w6 _ _ _ := hD5.below hB6 hD5.lt
  have hT6 := below_then hT5 hB6 hT5.size
  refine (awake_any _).mono ?_
  rintro e w7 ⟨rfl, hB7⟩
  have hD7 : Blk w7 _ _ _ := hD6.below hB7 hD6.lt
  have hE7 : Blk w7 _ _ _ := hE6.below hB7 hE6.lt
  have hT7 := below_then hT6 hB7 hT6.size
  have d0 : w7.cell? ⟨D1, 0, none⟩ = some (.int .i64 0) := hD7.cell 0
  have d1 : w7.cell? ⟨D1, 1, none⟩ = some (.int .i64 0) := hD7.cell 1
  have d2 : w7.cell? ⟨D1, 2, none⟩ = some (.int .i64 0) := hD7.cell 2
  have e0 : w7.cell? ⟨D2, 0, none⟩ = some (.int .i64 0) := hE7.cell 0
  have e1 : w7.cell? ⟨D2, 1, none⟩ = some (.int .i64 0) := hE7.cell 1
  have e2 : w7.cell? ⟨D2, 2, none⟩ = some (.int .i64 0) := hE7.cell 2
  have hL1 := hD7.lt
  have hL2 := hE7.lt
  have hT7s := hT7.size
  clear hB1 hB2 hB3 hB4 hB5 hB6 hB7 hT1 hT2 hT3 hT4 hT5 hT6 hDn hEn hD1 hD2 hD3 hD4 hD5 hD6 hE6
  go_upto_region 7 with fail
  go_cut [15, 16] from 64 to 71 (fun a b wc => ∃ G1 G2 : Nat, a = .pointer (some ⟨G1, 0, none⟩) ∧ b = .pointer (some ⟨G2, 0, none⟩) ∧ Runs w wc false false G1 0 G2 0 p o 0)
  case first =>
    go_region
    all_goals (go_wp2_with fail; go_meet)
    · exact ⟨_, _, rfl, rfl, runs_start12 hT7 (fun h => by cases h) (fun h => by cases h) (fun h _ => by cases h)⟩
    · exact ⟨_, _, rfl, rfl, runs_start21 hT7 (fun h => by cases h) (fun h => by cases h) (fun h _ => by cases h)⟩
  case rest =>
    obtain ⟨G1, G2, rfl, rfl, hR⟩ := hcut
    clear d0 d1 d2 e0 e1 e2 hL1 hL2 hT7s hT7 hD7 hE7
    go_wp2
    go_loopw [17] (fun i wr => ∃ k : Nat, k ≤ n ∧ i = .int .i64 k ∧ Runs w wr false false G1 0 G2 0 p o (2 * k)) (fun i _ => n - (intOf i).toNat)
    case atStart => exact ⟨0, by omega, rfl, hR⟩
    case round =>
      clear hR
      obtain ⟨k, hk, rfl, hR⟩ := hrel
      by_cases hlt : k < n
      · obtain ⟨b, q, m, hA, hc, hm⟩ := (hb.below hR.below).at_ k hlt
        subst hA
        have m0 : 0 ≤ m := by rw [hm]; omega
        have m1 : m ≤ 255 := by rw [hm]; have := (bs.getD k 0).toNat_lt; omega
        have HM := Lib.hid hm
        clear hm
        have hki : 2 * (k : Int) ≤ 1000000000000000 := by omega
        go_wp2
        go_roundw
        case rel => exact ⟨k + 1, by omega, by go_num, hR.mono (by omega)⟩
        case measure => simp [intOf]; omega
      · obtain rfl : k = n := by omega
        go_wp2
        go_ret
        exact ⟨by simp, hR.below⟩
theorem wheelRuns_any (p o : Int) (A : Option Addr) (n c : Nat) (bs : List UInt8) (w : World) (hb : Bytes w A n bs) :
    Calls Try.prog 8 #[.int .i64 p, .int .i64 o, .slice A n c] w fun e w' => e = .returned (.bool true) ∧ Below w.heap.size w w' := by
  have hp : (1 ≤ p ∧ p ≤ 16) ∨ (p < 1 ∨ 16 < p) := by omega
  have ho : (1 ≤ o ∧ o ≤ 16) ∨ (o < 1 ∨ 16 < o) := by omega
  rcases hp with ⟨p0, p1⟩ | hp
  · rcases ho with ⟨o0, o1⟩ | ho
    · exact runs_yy p o A n c bs w hb hb.2.1 p0 p1 o0 o1
    · exact runs_yn p o A n c bs w hb hb.2.1 p0 p1 ho
  · rcases ho with ⟨o0, o1⟩ | ho
    · exact runs_ny p o A n c bs w hb hb.2.1 hp o0 o1
    · exact runs_nn p o A n c bs w hb hb.2.1 hp ho
end Go.Proofs.Ytagfigjcoffklaa
