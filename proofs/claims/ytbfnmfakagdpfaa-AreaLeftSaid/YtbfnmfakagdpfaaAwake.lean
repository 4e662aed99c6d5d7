/- The law package's awake, walked. -/
import Derived.Test.YtbfnmfakagdpfaaAreaT
import Derived.Test.YtbfnmfakagdpfaaAreaR
import Derived.Test.YtbfnmfakagdpfaaAreaC
import Derived.Test.YtbfnmfakagdpfaaAreaI
import Derived.Lib.SlBytesConst
namespace Go.Proofs.Ytbfnmfakagdpfaa
open Go.RowKit
set_option linter.unusedVariables false
set_option linter.unusedSimpArgs false
theorem same_any (A1 A2 : Option Addr) (l1 c1 l2 c2 : Nat) (b1 b2 : List UInt8) (w : World) (ha : Bytes w A1 l1 b1) (hb : Bytes w A2 l2 b2) :
    Calls Try.prog 25 #[.slice A1 l1 c1, .slice A2 l2 c2] w fun e w' => e = .returned (.bool (b1 == b2)) ∧ w = w' := by
  have r1 := run_bytes_string ha c1 23 5 9 Try.underlying23 Try.underlying5 Try.underlying9
  have r2 := run_bytes_string hb c2 23 5 9 Try.underlying23 Try.underlying5 Try.underlying9
  go_enter Try.func25, Try.ntmps25
  go_wp2
  go_ret
  refine ⟨?_, rfl⟩
  show Ending.returned (.bool _) = _
  rw [strB_toList, strB_toList]
theorem areaTrim_at {g : Nat} {A : Option Addr} {c : Nat} {base : Int} {bs : List UInt8} {s : Nat} {w : World} (hA : Ar w g A c base bs s) (x : Int) (k : Nat) (hx : x = base + k) (hk : k ≤ s) :
    Calls Try.prog 17 #[.pointer (some ⟨g, 0, none⟩), .int .i64 x] w (ArTo w (arF g A) g x (bs.drop k) (s - k) 0) := by
  subst hx; exact areaTrim_any hA k hk
theorem areaCut_at {g : Nat} {A : Option Addr} {c : Nat} {base : Int} {bs : List UInt8} {s : Nat} {w : World} (hA : Ar w g A c base bs s) (x : Int) (k : Nat) (hx : x = base + k) (hk : k ≤ bs.length) :
    Calls Try.prog 16 #[.pointer (some ⟨g, 0, none⟩), .int .i64 x] w (ArTo w (arF g A) g base (bs.take k) (min s k) 0) := by
  subst hx; exact areaCut_any hA k hk
theorem areaRead_at {g : Nat} {A : Option Addr} {c : Nat} {base : Int} {bs : List UInt8} {s : Nat} {w : World} (hA : Ar w g A c base bs s) (x y : Int) (k n : Nat) (hx : x = base + k) (hy : y = n) (hk : k + n ≤ bs.length) :
    Calls Try.prog 11 #[.pointer (some ⟨g, 0, none⟩), .int .i64 x, .int .i64 y] w (ReadRet n ((bs.drop k).take n) w) := by
  subst hx; subst hy; exact areaRead_any hA k n hk
/-- A literal's bytes. -/
theorem bytes_lit (w : World) (bs : List UInt8) (cs : Array Value) (t : TypeId) (fr : Nat × Nat) (h : cs = (bvals bs).toArray) (hl : bs.length ≤ 281474976710656) : Bytes (w.alloc (.cells cs t fr)) (some ⟨w.heap.size, 0, none⟩) bs.length bs := by
  subst h
  refine ⟨rfl, hl, .inr ⟨w.heap.size, 0, rfl, fun j hj => ?_⟩⟩
  rw [cell_of_row _ _ _ _ _ _ (heap_alloc_new w _), Nat.zero_add]
  simpa using bvals_at bs j hj
/-- What an operation of an area keeps below B. -/
theorem ar_next {B : Nat} {w wp wn : World} {g : Nat} {A A' : Option Addr} (hB : Below B w wp) (hK : ∀ k, arF g A k → B ≤ k) (hs : B ≤ wp.heap.size) (hC : Chg (arF g A) wp wn) (hF : ∀ k, blkO A' = some k → arF g A k ∨ wp.heap.size ≤ k) :
    Below B w wn ∧ ∀ k, arF g A' k → B ≤ k := by
  refine ⟨hB.trans (hC.below hs hK), fun k e => ?_⟩
  rcases e with e | e
  · exact hK k (.inl e)
  · rcases hF k e with e2 | e2
    · exact hK k e2
    · omega
set_option maxHeartbeats 1600000 in
theorem awake_any (w : World) : Calls Try.prog 10 #[] w fun e w' => e = .returned (.bool true) ∧ Below w.heap.size w w' := by
  have kc := fun (w : World) (C : Array Value) (n c : Nat) => Lib.run_convert_bytes_const (P := Try.prog) w 23 5 C n c Try.underlying23 Try.underlying5
  go_enter Try.func10, Try.ntmps10
  go_wp2_with fail
  refine (areaNew_any _).mono ?_
  rintro e w1 ⟨rfl, hw1⟩
  have hA1 := ar_zero w
  have hB1 := below_alloc w (.cells #[.int .i64 0, .slice none 0 0, .int .i64 0] 50)
  rw [← hw1] at hA1 hB1
  have hK1 : ∀ k, arF w.heap.size none k → w.heap.size ≤ k := fun k e => by
    rcases e with e | e
    · omega
    · cases e
  clear hw1
  go_wp2_with fail
  have hL := bytes_lit w1 [104, 101, 108, 108, 111] _ 5 (5, 6) rfl (by decide)
  have hBl := below_alloc w1 (.cells (bvals [104, 101, 108, 108, 111]).toArray 5 (5, 6))
  have hA2 := hA1.below hBl
  have hB2 := below_then hB1 hBl hB1.size
  refine (areaAppend_any hA2 _ 5 _ [104, 101, 108, 108, 111] hL (by decide) (by decide)).mono ?_
  rintro e w3 ⟨rfl, A3, c3, hA3, hC3, hF3⟩
  obtain ⟨hB3, hK3⟩ := ar_next hB2 hK1 hB2.size hC3 hF3
  clear hL hBl hA2 hB2 hC3 hF3 hA1 hB1 hK1
  go_wp2_with fail
  refine (areaSync_any hA3).mono ?_
  rintro e w4 ⟨rfl, A4, c4, hA4, hC4, hF4⟩
  obtain ⟨hB4, hK4⟩ := ar_next hB3 hK3 hB3.size hC4 hF4
  clear hA3 hC4 hF4 hB3 hK3
  go_wp2_with fail
  have hL := bytes_lit w4 [32, 121, 111, 117] _ 5 (4, 5) rfl (by decide)
  have hBl := below_alloc w4 (.cells (bvals [32, 121, 111, 117]).toArray 5 (4, 5))
  have hA5 := hA4.below hBl
  have hB5 := below_then hB4 hBl hB4.size
  refine (areaAppend_any hA5 _ 4 _ [32, 121, 111, 117] hL (by decide) (by decide)).mono ?_
  rintro e w6 ⟨rfl, A6, c6, hA6, hC6, hF6⟩
  obtain ⟨hB6, hK6⟩ := ar_next hB5 hK4 hB5.size hC6 hF6
  clear hL hBl hA5 hB5 hC6 hF6 hA4 hB4 hK4
  go_wp2_with fail
  refine (areaTrim_at hA6 2 2 (by decide) (by decide)).mono ?_
  rintro e w7 ⟨rfl, A7, c7, hA7, hC7, hF7⟩
  obtain ⟨hB7, hK7⟩ := ar_next hB6 hK6 hB6.size hC7 hF7
  clear hA6 hC7 hF7 hB6 hK6
  go_wp2_with fail
  refine (areaCrash_any hA7 2 1 1 (by decide)).mono ?_
  rintro e w8 ⟨rfl, A8, c8, hA8, hC8, hF8⟩
  obtain ⟨hB8, hK8⟩ := ar_next hB7 hK7 hB7.size hC8 hF8
  clear hA7 hC8 hF8 hB7 hK7
  have hA9 : Ar w8 w.heap.size A8 c8 2 [108, 108, 111, 32, 120] 5 := by
    have e1 : crashB (List.drop 2 (([] ++ [104, 101, 108, 108, 111]) ++ [32, 121, 111, 117])) (([] ++ [104, 101, 108, 108, 111] : List UInt8).length - 2) (crashK (List.drop 2 (([] ++ [104, 101, 108, 108, 111]) ++ [32, 121, 111, 117] : List UInt8)).length (([] ++ [104, 101, 108, 108, 111] : List UInt8).length - 2) 2) 1 = [108, 108, 111, 32, 120] := by decide
    rw [e1] at hA8
    exact hA8
  clear hA8
  go_wp2_with fail
  refine (areaRead_at hA9 2 5 0 5 (by decide) (by decide) (by decide)).mono ?_
  rintro e w9 ⟨A9, c9, rfl, hO9, hb9⟩
  have hB9 := below_then hB8 hb9 hB8.size
  have hA10 := hA9.below hb9
  go_wp2_with fail
  refine (areaBounds_any hA10).mono ?_
  rintro e w10 ⟨rfl, hw10⟩
  have hb10 : Below w9.heap.size w9 w10 := by obtain ⟨n, rfl⟩ := hw10; exact below_drew7 w9 n
  have hB10 := below_then hB9 hb10 hB9.size
  have hy10 := (own_bytes' hO9 (by decide)).below hb10
  clear hw10
  clear hA9 hA10 hB8 hb9 hO9 hB9 hK8
  go_wp2_with fail
  have hL := bytes_lit w10 [108, 108, 111, 32, 120] _ 5 (5, 6) rfl (by decide)
  have hBl := below_alloc w10 (.cells (bvals [108, 108, 111, 32, 120]).toArray 5 (5, 6))
  have hB11 := below_then hB10 hBl hB10.size
  refine (same_any _ _ _ _ _ _ _ [108, 108, 111, 32, 120] _ (hy10.below hBl) hL).mono ?_
  rintro e w11 ⟨rfl, rfl⟩
  go_wp2
  go_ret
  exact ⟨rfl, hB11⟩
end Go.Proofs.Ytbfnmfakagdpfaa

