/- Package area, walked: Bounds, Read. -/
import Derived.Test.YtodaplkijdjbpaaProg
import Derived.Test.YtodaplkijdjbpaaArea
namespace Go.Proofs.Ytodaplkijdjbpaa
open Go.RowKit
set_option linter.unusedVariables false
set_option linter.unusedSimpArgs false
theorem areaBounds_any {g : Nat} {A : Option Addr} {c : Nat} {base : Int} {bs : List UInt8} {s : Nat} {w : World} (h : Ar w g A c base bs s) :
    Calls Try.prog 66 #[.pointer (some ⟨g, 0, none⟩)] w (fun e w' => e = .returned (.tuple #[.int .i64 base, .int .i64 (base + s), .int .i64 (base + bs.length)]) ∧ ∃ n, w' = w.drewN n) := by
  have c0 : w.cell? ⟨g, 0, none⟩ = _ := h.blk.cell 0
  have c1 : w.cell? ⟨g, 1, none⟩ = _ := h.blk.cell 1
  have c2 : w.cell? ⟨g, 2, none⟩ = _ := h.blk.cell 2
  simp at c0 c1 c2
  have hb0 := h.b0
  have hb1 := h.b1
  have hs := h.sle
  go_enter Try.func66, Try.ntmps66
  go_wp2_with fail
  go_quiet (fail)
  go_wp2_with fail
  go_ret3
  exact ⟨rfl, _, rfl⟩
/-- What Read answers, if there are so many bytes. -/
def ReadRet (n : Nat) (bs : List UInt8) (w : World) (e : Ending) (w' : World) : Prop :=
  ∃ A' c', e = .returned (.tuple #[.slice A' n c', .int .i64 0]) ∧ w'.ownsRow w.heap.size 5 1 (.slice A' n c') n (bvals bs) ∧ Below w.heap.size w w'
set_option maxHeartbeats 1600000 in
theorem areaRead_any {g : Nat} {A : Option Addr} {c : Nat} {base : Int} {bs : List UInt8} {s : Nat} {w : World} (hA : Ar w g A c base bs s) (k n : Nat) (hk : k + n ≤ bs.length) :
    Calls Try.prog 52 #[.pointer (some ⟨g, 0, none⟩), .int .i64 (base + k), .int .i64 n] w (ReadRet n ((bs.drop k).take n) w) := by
  have c0 : w.cell? ⟨g, 0, none⟩ = _ := hA.blk.cell 0
  have c1 : w.cell? ⟨g, 1, none⟩ = _ := hA.blk.cell 1
  simp at c0 c1
  have hb0 := hA.b0
  have hb1 := hA.b1
  have hn1 := hA.n1
  have hcap := hA.cap
  have hkl : k ≤ bs.length := by omega
  have hkl2 : (k : Int) ≤ (bs.length : Int) := by omega
  have hnl : n ≤ bs.length := by omega
  have hnk : n ≤ bs.length - k := by omega
  have hnc : n ≤ c - k := by omega
  have hn3 : n ≤ 214748364800000 := by omega
  have t1 : decide ((n : Int) < 0) = false := decide_eq_false (by omega)
  have t2 : decide ((bs.length : Int) < (n : Int)) = false := decide_eq_false (by omega)
  have t3 : decide (base + (k : Int) < base) = false := decide_eq_false (by omega)
  have t4 : decide (base + (bs.length : Int) - (n : Int) < base + (k : Int)) = false := decide_eq_false (by omega)
  have hX : (∃ X, X = n ∧ A = none ∧ c = 0 ∧ bs = []) ∨ (∃ b, A = some ⟨b, 0, none⟩ ∧ k = c) ∨ (∃ b, A = some ⟨b, 0, none⟩ ∧ k < c) := by
    rcases hA.addr with h | ⟨b, h⟩
    · exact .inl ⟨n, rfl, h⟩
    · exact .inr (if e : k = c then .inl ⟨b, h, e⟩ else .inr ⟨b, h, by omega⟩)
  have hy := hA.bytes
  have hk0 : base + (k : Int) ≤ base + (bs.length : Int) - (n : Int) := by omega
  have hw3 : IntKind.i64.wrap (base + (k : Int) - base) = (k : Int) := by rw [show base + (k : Int) - base = k by omega]; exact IntWalk.i64_in _ (by omega)
  have hw2 : IntKind.i64.wrap (base + (bs.length : Int) - (n : Int)) = base + (bs.length : Int) - (n : Int) := IntWalk.i64_in _ (by omega)
  have hw1 : IntKind.i64.wrap (base + (bs.length : Int)) = base + (bs.length : Int) := IntWalk.i64_in _ (by omega)
  go_enter Try.func52, Try.ntmps52
  go_wp2_with fail
  go_quiet (fail)
  go_wp2_with fail
  clear hw1 hw2
  rcases hX with ⟨X, rfl, rfl, rfl, rfl⟩ | ⟨b, rfl, rfl⟩ | ⟨b, rfl, hkc⟩
  · clear hw3
    obtain rfl : X = 0 := by simpa using hnl
    obtain rfl : k = 0 := by simpa using hkl
    have hw3 : IntKind.i64.wrap (base + ((0 : Nat) : Int) - base) = 0 := by rw [show base + ((0 : Nat) : Int) - base = 0 by omega]; exact IntWalk.i64_in _ (by omega)
    have hw2 : IntKind.i64.wrap (base - base) = 0 := by rw [show base - base = 0 by omega]; exact IntWalk.i64_in _ (by omega)
    have hY : Bytes (w.drewN (nq + 1)) none 0 [] := Bytes.empty _ none
    go_region_with ((go_at_call 67; (with_reducible refine (own7_any _ _ _ _ _ hY (Nat.zero_le _)).mono ?_); rintro e w3 ⟨A3, c3, rfl, ho3, hb3⟩))
    all_goals
      clear hw3 hw2
      go_wp2_with fail
      go_ret2
      exact ⟨A3, c3, rfl, ho3, (below_drew7 w (nq + 1)).trans hb3⟩
  · clear hw3
    obtain rfl : n = 0 := by omega
    have hw3 : IntKind.i64.wrap (base + (k : Int) - base) = (k : Int) := by rw [show base + (k : Int) - base = k by omega]; exact IntWalk.i64_in _ (by omega)
    have hY : Bytes (w.drewN (nq + 1)) (some ⟨b, 0, none⟩) 0 [] := Bytes.empty _ _
    go_region_with ((go_at_call 67; (with_reducible refine (own7_any _ _ _ _ _ hY (Nat.zero_le _)).mono ?_); rintro e w3 ⟨A3, c3, rfl, ho3, hb3⟩))
    all_goals
      clear hw3
      go_wp2_with fail
      go_ret2
      exact ⟨A3, c3, rfl, ho3, (below_drew7 w (nq + 1)).trans hb3⟩
  · have hne : ¬ c = k := by omega
    have hY : Bytes (w.drewN (nq + 1)) (some ⟨b, k, none⟩) n ((bs.drop k).take n) := by simpa using ((hy.below (below_drew7 w (nq + 1))).drop k hkl).take n hnk
    go_region_with ((go_at_call 67; (with_reducible refine (own7_any _ _ _ _ _ hY hn3).mono ?_); rintro e w3 ⟨A3, c3, rfl, ho3, hb3⟩))
    all_goals
      clear hw3
      go_wp2_with fail
      go_ret2
      exact ⟨A3, c3, rfl, ho3, (below_drew7 w (nq + 1)).trans hb3⟩
theorem areaRead_no {g : Nat} {A : Option Addr} {c : Nat} {base : Int} {bs : List UInt8} {s : Nat} {w : World} (hA : Ar w g A c base bs s) (at_ n : Int) (h1 : -9223372036854775808 ≤ n) (h2 : n ≤ 9223372036854775807) (hk : n < 0 ∨ bs.length < n ∨ at_ < base ∨ base + bs.length - n < at_) :
    Calls Try.prog 52 #[.pointer (some ⟨g, 0, none⟩), .int .i64 at_, .int .i64 n] w (fun e w' => e = .returned (.tuple #[.slice none 0 0, .int .i64 70]) ∧ Below w.heap.size w w') := by
  have c0 : w.cell? ⟨g, 0, none⟩ = _ := hA.blk.cell 0
  have c1 : w.cell? ⟨g, 1, none⟩ = _ := hA.blk.cell 1
  simp at c0 c1
  have hb0 := hA.b0
  have hb1 := hA.b1
  have hn1 := hA.n1
  by_cases t1 : n < 0
  · go_enter Try.func52, Try.ntmps52
    go_wp2_with fail
    go_quiet (fail)
    go_wp2_with fail
    go_ret2
    exact ⟨rfl, below_drew7 _ _⟩
  · by_cases t2 : (bs.length : Int) < n
    · have t1 : decide (n < 0) = false := decide_eq_false t1
      go_enter Try.func52, Try.ntmps52
      go_wp2_with fail
      go_quiet (fail)
      go_wp2_with fail
      go_ret2
      exact ⟨rfl, below_drew7 _ _⟩
    · by_cases t3 : at_ < base
      · have t1 : decide (n < 0) = false := decide_eq_false t1
        have t2 : decide ((bs.length : Int) < n) = false := decide_eq_false t2
        go_enter Try.func52, Try.ntmps52
        go_wp2_with fail
        go_quiet (fail)
        go_wp2_with fail
        go_ret2
        exact ⟨rfl, below_drew7 _ _⟩
      · have t4 : base + (bs.length : Int) - n < at_ := by omega
        have hw2 : IntKind.i64.wrap (base + (bs.length : Int) - n) = base + (bs.length : Int) - n := IntWalk.i64_in _ (by omega)
        have hw1 : IntKind.i64.wrap (base + (bs.length : Int)) = base + (bs.length : Int) := IntWalk.i64_in _ (by omega)
        clear hk
        have t1 : decide (n < 0) = false := decide_eq_false t1
        have t2 : decide ((bs.length : Int) < n) = false := decide_eq_false t2
        have t3 : decide (at_ < base) = false := decide_eq_false t3
        go_enter Try.func52, Try.ntmps52
        go_wp2_with fail
        go_quiet (fail)
        go_wp2_with fail
        go_ret2
        exact ⟨rfl, below_drew7 _ _⟩
end Go.Proofs.Ytodaplkijdjbpaa
