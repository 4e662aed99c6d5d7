/- spansAlike, alike. -/
import Derived.Test.YtodaplkijdjbpaaEqual
namespace Go.Proofs.Ytodaplkijdjbpaa
open Go.RowKit
set_option linter.unusedVariables false
set_option linter.unusedSimpArgs false
theorem equal_same (A B : Option Addr) (l c m d : Nat) (xs : List UInt8) (w : World) (ha : Bytes w A l xs) (hb : Bytes w B m xs) :
    Calls Try.prog 18 #[.slice A l c, .slice B m d] w fun e w' => e = .returned (.bool true) ∧ ∃ q, w' = w.drewN q := by
  refine (equal_any A B l c m d xs xs w ha hb).mono ?_
  rintro e w' ⟨rfl, hq⟩
  exact ⟨by simp, hq⟩
theorem equal_val {A B : Option Addr} {l c m d : Nat} {xs : List UInt8} {w : World} (ha : Bytes w A l xs) (hb : Bytes w B m xs) (q : Nat) :
    Calls Try.prog 18 #[.slice A l c, .slice B m d] (w.drewN q) fun e w' => e = .returned (.bool true) ∧ ∃ k, w' = (w.drewN q).drewN k :=
  equal_same A B l c m d xs (w.drewN q) (ha.below (below_drew7 w q)) (hb.below (below_drew7 w q))
theorem SpAt.draws {w : World} {A : Option Addr} {n : Nat} {l : List (Int × List UInt8)} (h : SpAt w A n l) (q : Nat) : SpAt (w.drewN q) A n l := h.below (below_drew7 w q)
set_option maxHeartbeats 1600000 in
theorem spansAlike_same (A B : Option Addr) (n c d : Nat) (l : List (Int × List UInt8)) (w : World) (ha : SpAt w A n l) (hb : SpAt w B n l) (hn : n ≤ 281474976710656) :
    Calls Try.prog 31 #[.slice A n c, .slice B n d] w fun e w' => e = .returned (.bool true) ∧ ∃ q, w' = w.drewN q := by
  go_enter Try.func31, Try.ntmps31
  go_wp2
  go_loopw [13] (fun i wr => ∃ k q : Nat, k ≤ n ∧ i = .int .i64 k ∧ Hid (wr = w.drewN q)) (fun i _ => n - (intOf i).toNat)
  case atStart => exact ⟨0, 0, Nat.zero_le _, rfl, Lib.hid rfl⟩
  case round =>
    obtain ⟨k, q, hk, rfl, HW⟩ := hrel
    by_cases hlt : k < n
    · have ha1 : SpAt wr A n l := by rw [HW.out]; exact ha.draws q
      have hb1 : SpAt wr B n l := by rw [HW.out]; exact hb.draws q
      obtain ⟨b1, o1, A1, m1, c1, rfl, p1, p2, p3, p4⟩ := ha1.at_ k hlt
      obtain ⟨b2, o2, A2, m2, c2, rfl, q1, q2, q3, q4⟩ := hb1.at_ k hlt
      generalize l.getD k (0, []) = s at *
      obtain ⟨base, bs⟩ := s
      simp only at p1 p3 p4 q1 q3 q4
      have j0 : (0 : Int) ≤ (k : Int) := by omega
      have j1 : (k : Int) < (n : Int) := by omega
      clear ha1 hb1 p4 q4
      go_wp2_with fail
      go_quiet ((go_at_call 18; exact Calls.quiet_of (equal_val p3 q3 _)))
      go_wp2_with fail
      go_roundw
      case rel => exact ⟨k + 1, q + nq, hlt, by go_num, Lib.hid (by rw [HW.out, World.drewN_drewN])⟩
      case measure => simp [intOf]; omega
    · obtain rfl : k = n := by omega
      go_wp2
      go_ret
      exact ⟨rfl, q, HW.out⟩
set_option maxHeartbeats 1600000 in
theorem alike_same (v v' : Value) (t : Td) (w : World) (ha : TdAt w v t) (hb : TdAt w v' t) (hl : t.s.length ≤ 281474976710656) :
    Calls Try.prog 35 #[v, v'] w fun e w' => e = .returned (.bool true) ∧ Below w.heap.size w w' := by
  obtain ⟨A, m, c, B, n, d, rfl, h1, h2⟩ := ha
  obtain ⟨A', m', c', B', n', d', rfl, h3, h4⟩ := hb
  obtain rfl : n = n' := h2.1.symm.trans h4.1
  have hn : n ≤ 281474976710656 := by rw [← h2.1]; exact hl
  obtain ⟨e, x, y, z, p, s⟩ := t
  simp only at h1 h2 h3 h4
  have x1 := below_alloc w (.cells #[.int .i64 e, .int .i64 x, .int .i64 y, .int .i64 z, .slice A m c, .slice B n d] 36)
  have x2 := below_then x1 (below_alloc (w.alloc (.cells #[.int .i64 e, .int .i64 x, .int .i64 y, .int .i64 z, .slice A m c, .slice B n d] 36)) (.cells #[.int .i64 e, .int .i64 x, .int .i64 y, .int .i64 z, .slice A' m' c', .slice B' n d'] 36)) x1.size
  have g1 := h1.below x2
  have g2 := h2.below x2
  have g3 := h3.below x2
  have g4 := h4.below x2
  have HX := Lib.hid x2
  clear x1 x2
  go_enter Try.func35, Try.ntmps35
  go_wp2_with fail
  refine (equal_same _ _ _ _ _ _ _ _ g1 g3).mono ?_
  rintro e1 w3 ⟨rfl, q3, rfl⟩
  have g5 := g2.draws q3
  have g6 := g4.draws q3
  go_wp2_with fail
  refine (spansAlike_same _ _ _ _ _ _ _ g5 g6 hn).mono ?_
  rintro e1 w4 ⟨rfl, q4, rfl⟩
  go_wp2_with fail
  go_ret
  exact ⟨rfl, below_then HX.out (below_drew7 _ _) HX.out.size⟩
end Go.Proofs.Ytodaplkijdjbpaa
