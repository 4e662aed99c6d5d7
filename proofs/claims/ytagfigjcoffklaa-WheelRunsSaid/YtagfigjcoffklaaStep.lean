/- A pair's step, walked. -/
import Derived.Test.YtagfigjcoffklaaRefWheel
namespace Go.Proofs.Ytagfigjcoffklaa
open Go.RowKit
/-- Two blocks alone change. -/
structure Chg2 (w w' : World) (G g : Nat) : Prop where
  os : w'.os = w.os
  tape : w'.tape = w.tape
  output : w'.output = w.output
  size : w.heap.size ≤ w'.heap.size
  block : ∀ k, k < w.heap.size → k ≠ G → k ≠ g → w'.heap[k]? = w.heap[k]?
theorem Chg2.trans {a b c : World} {G g : Nat} (h : Chg2 a b G g) (k : Chg2 b c G g) : Chg2 a c G g :=
  ⟨k.os.trans h.os, k.tape.trans h.tape, k.output.trans h.output, Nat.le_trans h.size k.size, fun i hi h1 h2 => (k.block i (Nat.lt_of_lt_of_le hi h.size) h1 h2).trans (h.block i hi h1 h2)⟩
theorem Chg2.refl (w : World) (G g : Nat) : Chg2 w w G g := ⟨rfl, rfl, rfl, Nat.le_refl _, fun _ _ _ _ => rfl⟩
theorem Chg2.below {w w' : World} (h : Below w.heap.size w w') (G g : Nat) : Chg2 w w' G g := ⟨h.os, h.tape, h.output, h.size, fun i hi _ _ => h.block i hi⟩
theorem Chg2.right {w w' : World} {g : Nat} (h : w.grownBy w' (some g)) (G : Nat) : Chg2 w w' G g := ⟨h.os, h.tape, h.output, h.size, fun i hi _ h2 => h.block i hi (fun e => h2 (by cases e; rfl))⟩
theorem Chg2.left {w w' : World} {G : Nat} (h : w.grownBy w' (some G)) (g : Nat) : Chg2 w w' G g := ⟨h.os, h.tape, h.output, h.size, fun i hi h1 _ => h.block i hi (fun e => h1 (by cases e; rfl))⟩
theorem Chg2.toBelow {a w w' : World} {B G g : Nat} (h : Below B a w) (k : Chg2 w w' G g) (hB : B ≤ w.heap.size) (hG : B ≤ G) (hg : B ≤ g) : Below B a w' :=
  ⟨k.os.trans h.os, k.tape.trans h.tape, k.output.trans h.output, Nat.le_trans h.size k.size, fun i hi => (k.block i (by omega) (by omega) (by omega)).trans (h.block i hi)⟩
/-- A pair: the program's wheel and the document's, at one and the same place. -/
structure Pair (w : World) (G g : Nat) (p t s : Int) : Prop where
  pair : Blk w G #[.pointer (some ⟨g, 0, none⟩), .int .i64 p, .int .i64 t, .int .i64 s] 49
  whl : Whl w g p t s
  ne : G ≠ g
theorem Pair.other {w w' : World} {G g G2 g2 : Nat} {p t s : Int} (h : Pair w G g p t s) (k : Chg2 w w' G2 g2) (h1 : G ≠ G2) (h2 : G ≠ g2) (h3 : g ≠ G2) (h4 : g ≠ g2) : Pair w' G g p t s :=
  ⟨(k.block G h.pair.lt h1 h2).trans h.pair, (k.block g h.whl.lt h3 h4).trans h.whl, h.ne⟩
theorem Pair.below {w w' : World} {G g : Nat} {p t s : Int} (h : Pair w G g p t s) (hb : Below w.heap.size w w') : Pair w' G g p t s :=
  ⟨h.pair.below hb h.pair.lt, h.whl.below hb h.whl.lt, h.ne⟩
/-- What a step leaves. -/
def StepRet (w : World) (G g : Nat) (p t s : Int) (e : Ending) (w' : World) : Prop :=
  e = .returned (.bool true) ∧ ∃ t' s' : Int, t ≤ t' ∧ t' ≤ t + 1 ∧ s ≤ s' ∧ s' ≤ s + 1 ∧ Pair w' G g p t' s' ∧ Chg2 w w' G g
set_option maxRecDepth 100000 in
set_option maxHeartbeats 4000000 in
theorem step_turn (G g : Nat) (p t s k : Int) (w : World) (h : Pair w G g p t s) (hk0 : 0 ≤ k) (hk1 : k ≤ 255) (hk : k % 4 = 0) (h0 : 1 ≤ p) (h1 : p ≤ 16) (t0 : 0 ≤ t) (t1 : t ≤ 4611686018427387904) (s0 : 0 ≤ s) (s1 : s ≤ 4611686018427387904) :
    Calls Try.prog 21 #[.pointer (some ⟨G, 0, none⟩), .int .u8 k] w (StepRet w G g p t s) := by
  have c0 : w.cell? ⟨G, 0, none⟩ = some (.pointer (some ⟨g, 0, none⟩)) := h.pair.cell 0
  go_enter Try.func21, Try.ntmps21
  go_wp2_with fail
  refine (turn_any g p t s _ h.whl h0 h1 t0 t1 s0 s1).mono ?_
  rintro e w1 ⟨rfl, hg1, hW1⟩
  have hP1 : Blk w1 G _ _ := h.pair.grown hg1 (fun e => h.ne (by cases e; rfl))
  have p1 : w1.cell? ⟨G, 1, none⟩ = some (.int .i64 p) := hP1.cell 1
  have p2 : w1.cell? ⟨G, 2, none⟩ = some (.int .i64 t) := hP1.cell 2
  have p3 : w1.cell? ⟨G, 3, none⟩ = some (.int .i64 s) := hP1.cell 3
  go_wp2_with fail
  refine (refTurn_any p t s _ h0 h1 t0 t1 s0 s1).mono ?_
  rintro e w2 ⟨rfl, hB2⟩
  unfold rwh
  clear p1 p2 p3 c0
  have hP2 : Blk w2 G _ _ := hP1.below hB2 hP1.lt
  have hW2 : Whl w2 g _ _ _ := hW1.below hB2 hW1.lt
  have hC2 := (Chg2.right hg1 G).trans (Chg2.below hB2 G g)
  have hgs := grown_trans (grown_trans (grown_set w2 G 1 (.int .i64 p)) (grown_set _ G 2 (.int .i64 (t + 1)))) (grown_set _ G 3 (.int .i64 (s + 1)))
  have hP3 := Blk.set (Blk.set (Blk.set hP2 1 (.int .i64 p)) 2 (.int .i64 (t + 1))) 3 (.int .i64 (s + 1))
  have hW3 : Whl _ g _ _ _ := hW2.grown hgs (fun e => h.ne (by cases e; rfl))
  have hC3 := hC2.trans (Chg2.left hgs g)
  have hal := fun v : World => (Below.refl v.heap.size v).alloc (Nat.le_refl _) (.cells #[.int .i64 p, .int .i64 (t + 1), .int .i64 (s + 1)] 44)
  have hP4 := hP3.below (hal _) hP3.lt
  have hW4 : Whl _ g _ _ _ := hW3.below (hal _) hW3.lt
  have hC4 := hC3.trans (Chg2.below (hal _) G g)
  clear hgs hP3 hW3 hC3 hal
  have p1 : w2.cell? ⟨G, 1, none⟩ = some (.int .i64 p) := hP2.cell 1
  have p2 : w2.cell? ⟨G, 2, none⟩ = some (.int .i64 t) := hP2.cell 2
  have p3 : w2.cell? ⟨G, 3, none⟩ = some (.int .i64 s) := hP2.cell 3
  have f1 := hP2.frozen 1
  have f2 := hP2.frozen 2
  have f3 := hP2.frozen 3
  have hG := hP2.lt
  go_wp2
  go_ret
  exact ⟨by simp, t + 1, s + 1, by omega, by omega, by omega, by omega, ⟨hP4, hW4, h.ne⟩, hC4⟩
set_option maxRecDepth 100000 in
set_option maxHeartbeats 4000000 in
theorem step_skip (G g : Nat) (p t s k : Int) (w : World) (h : Pair w G g p t s) (hk0 : 0 ≤ k) (hk1 : k ≤ 255) (hk : k % 4 = 1) (h0 : 1 ≤ p) (h1 : p ≤ 16) (t0 : 0 ≤ t) (t1 : t ≤ 4611686018427387904) (s0 : 0 ≤ s) (s1 : s ≤ 4611686018427387904) :
    Calls Try.prog 21 #[.pointer (some ⟨G, 0, none⟩), .int .u8 k] w (StepRet w G g p t s) := by
  have c0 : w.cell? ⟨G, 0, none⟩ = some (.pointer (some ⟨g, 0, none⟩)) := h.pair.cell 0
  go_enter Try.func21, Try.ntmps21
  go_wp2_with fail
  refine (skip_any g p t s _ h.whl s0 s1).mono ?_
  rintro e w1 ⟨rfl, hg1, hW1⟩
  have hP1 : Blk w1 G _ _ := h.pair.grown hg1 (fun e => h.ne (by cases e; rfl))
  have p1 : w1.cell? ⟨G, 1, none⟩ = some (.int .i64 p) := hP1.cell 1
  have p2 : w1.cell? ⟨G, 2, none⟩ = some (.int .i64 t) := hP1.cell 2
  have p3 : w1.cell? ⟨G, 3, none⟩ = some (.int .i64 s) := hP1.cell 3
  go_wp2_with fail
  refine (refSkip_any p t s _ s0 s1).mono ?_
  rintro e w2 ⟨rfl, hB2⟩
  unfold rwh
  clear p1 p2 p3 c0
  have hP2 : Blk w2 G _ _ := hP1.below hB2 hP1.lt
  have hW2 : Whl w2 g _ _ _ := hW1.below hB2 hW1.lt
  have hC2 := (Chg2.right hg1 G).trans (Chg2.below hB2 G g)
  have hgs := grown_trans (grown_trans (grown_set w2 G 1 (.int .i64 p)) (grown_set _ G 2 (.int .i64 t))) (grown_set _ G 3 (.int .i64 (s + 1)))
  have hP3 := Blk.set (Blk.set (Blk.set hP2 1 (.int .i64 p)) 2 (.int .i64 t)) 3 (.int .i64 (s + 1))
  have hW3 : Whl _ g _ _ _ := hW2.grown hgs (fun e => h.ne (by cases e; rfl))
  have hC3 := hC2.trans (Chg2.left hgs g)
  have hal := fun v : World => (Below.refl v.heap.size v).alloc (Nat.le_refl _) (.cells #[.int .i64 p, .int .i64 t, .int .i64 (s + 1)] 44)
  have hP4 := hP3.below (hal _) hP3.lt
  have hW4 : Whl _ g _ _ _ := hW3.below (hal _) hW3.lt
  have hC4 := hC3.trans (Chg2.below (hal _) G g)
  clear hgs hP3 hW3 hC3 hal
  have p1 : w2.cell? ⟨G, 1, none⟩ = some (.int .i64 p) := hP2.cell 1
  have p2 : w2.cell? ⟨G, 2, none⟩ = some (.int .i64 t) := hP2.cell 2
  have p3 : w2.cell? ⟨G, 3, none⟩ = some (.int .i64 s) := hP2.cell 3
  have f1 := hP2.frozen 1
  have f2 := hP2.frozen 2
  have f3 := hP2.frozen 3
  have hG := hP2.lt
  go_wp2
  go_ret
  exact ⟨by simp, t, s + 1, by omega, by omega, by omega, by omega, ⟨hP4, hW4, h.ne⟩, hC4⟩
theorem slot_val {g : Nat} {p t s : Int} {w : World} (h : Whl w g p t s) (m : Nat) :
    Calls Try.prog 22 #[.pointer (some ⟨g, 0, none⟩)] (w.drewN m) fun e w' => e = .returned (.int .i64 s) ∧ w' = w.drewN m :=
  (slot_any g p t s (w.drewN m) h).mono fun _ _ ⟨h1, h2⟩ => ⟨h1, h2.symm⟩
theorem next_any' (g : Nat) (p t s : Int) (w : World) (h : Whl w g p t s) (h0 : 1 ≤ p) (h1 : p ≤ 16) (t0 : 0 ≤ t) (t1 : t ≤ 4611686018427387904) :
    Calls Try.prog 18 #[.pointer (some ⟨g, 0, none⟩)] w fun e w' => e = .returned (.int .i64 (t % p)) ∧ ∃ m, w' = w.drewN m := by
  have c0 : w.cell? ⟨g, 0, none⟩ = some (.int .i64 p) := (Blk.cell h 0).trans rfl
  have c1 : w.cell? ⟨g, 1, none⟩ = some (.int .i64 t) := (Blk.cell h 1).trans rfl
  have z0 : (p == 0) = false := by rw [beq_eq_false_iff_ne]; omega
  go_enter Try.func18, Try.ntmps18
  go_wp2_with fail
  go_quiet (fail)
  go_wp2
  go_ret
  refine ⟨by simp, _, rfl⟩
set_option maxRecDepth 100000 in
set_option maxHeartbeats 4000000 in
theorem step_slot (G g : Nat) (p t s k : Int) (w : World) (h : Pair w G g p t s) (hk0 : 0 ≤ k) (hk1 : k ≤ 255) (hk : k % 4 = 2) :
    Calls Try.prog 21 #[.pointer (some ⟨G, 0, none⟩), .int .u8 k] w (StepRet w G g p t s) := by
  have c0 : w.cell? ⟨G, 0, none⟩ = some (.pointer (some ⟨g, 0, none⟩)) := h.pair.cell 0
  have c3 : w.cell? ⟨G, 3, none⟩ = some (.int .i64 s) := h.pair.cell 3
  have hslot := Lib.hid h.whl
  go_enter Try.func21, Try.ntmps21
  go_wp2_with fail
  go_quiet ((go_at_call 22; exact Calls.quiet_of_same (slot_val hslot.out _)))
  go_wp2
  go_ret
  refine ⟨by simp, t, s, by omega, by omega, by omega, by omega, h.below (below_drews _ _), Chg2.below (below_drews _ _) G g⟩
set_option maxRecDepth 100000 in
set_option maxHeartbeats 4000000 in
theorem step_next (G g : Nat) (p t s k : Int) (w : World) (h : Pair w G g p t s) (hk0 : 0 ≤ k) (hk1 : k ≤ 255) (hk : k % 4 = 3) (h0 : 1 ≤ p) (h1 : p ≤ 16) (t0 : 0 ≤ t) (t1 : t ≤ 4611686018427387904) (s0 : 0 ≤ s) (s1 : s ≤ 4611686018427387904) :
    Calls Try.prog 21 #[.pointer (some ⟨G, 0, none⟩), .int .u8 k] w (StepRet w G g p t s) := by
  have p1 : w.cell? ⟨G, 1, none⟩ = some (.int .i64 p) := h.pair.cell 1
  have p2 : w.cell? ⟨G, 2, none⟩ = some (.int .i64 t) := h.pair.cell 2
  have p3 : w.cell? ⟨G, 3, none⟩ = some (.int .i64 s) := h.pair.cell 3
  go_enter Try.func21, Try.ntmps21
  go_wp2_with fail
  refine (refTurn_any p t s _ h0 h1 t0 t1 s0 s1).mono ?_
  rintro e w2 ⟨rfl, hB2⟩
  unfold rwh
  clear p1 p2 p3
  have hP2 := h.below hB2
  have hC2 := Chg2.below hB2 G g
  have hal := fun v : World => (Below.refl v.heap.size v).alloc (Nat.le_refl _) (.cells #[.int .i64 p, .int .i64 (t + 1), .int .i64 (s + 1)] 44)
  have hP3 := hP2.below (hal _)
  have hC3 := hC2.trans (Chg2.below (hal _) G g)
  have c0 : w2.cell? ⟨G, 0, none⟩ = some (.pointer (some ⟨g, 0, none⟩)) := hP2.pair.cell 0
  have hG := hP2.pair.lt
  have hW3 := hP3.whl
  go_wp2_with fail
  refine (next_any g p t s _ hW3 h0 h1 t0 t1).mono ?_
  rintro e w4 ⟨rfl, hg4, hW4⟩
  have hC4 := hC3.trans (Chg2.right hg4 G)
  have hP4 : Blk w4 G _ _ := hP3.pair.grown hg4 (fun e => h.ne (by cases e; rfl))
  go_wp2
  go_ret
  exact ⟨by simp, t, s, by omega, by omega, by omega, by omega, ⟨hP4, hW4, h.ne⟩, hC4⟩
theorem step_any (G g : Nat) (p t s k : Int) (w : World) (h : Pair w G g p t s) (hk0 : 0 ≤ k) (hk1 : k ≤ 255) (h0 : 1 ≤ p) (h1 : p ≤ 16) (t0 : 0 ≤ t) (t1 : t ≤ 4611686018427387904) (s0 : 0 ≤ s) (s1 : s ≤ 4611686018427387904) :
    Calls Try.prog 21 #[.pointer (some ⟨G, 0, none⟩), .int .u8 k] w (StepRet w G g p t s) := by
  have hc : k % 4 = 0 ∨ k % 4 = 1 ∨ k % 4 = 2 ∨ k % 4 = 3 := by omega
  rcases hc with hc | hc | hc | hc
  · exact step_turn G g p t s k w h hk0 hk1 hc h0 h1 t0 t1 s0 s1
  · exact step_skip G g p t s k w h hk0 hk1 hc h0 h1 t0 t1 s0 s1
  · exact step_slot G g p t s k w h hk0 hk1 hc
  · exact step_next G g p t s k w h hk0 hk1 hc h0 h1 t0 t1 s0 s1
end Go.Proofs.Ytagfigjcoffklaa
