/- vast, of scripts. -/
import Derived.Test.YtodaplkijdjbpaaSteps8
namespace Go.Proofs.Ytodaplkijdjbpaa
open Go.RowKit
set_option linter.unusedVariables false
set_option linter.unusedSimpArgs false
def VastRet (T : Nat) (w : World) (e : Ending) (w' : World) : Prop := ∃ b, e = .returned (.bool b) ∧ Below w.heap.size w w' ∧ (b = false → T ≤ 1073741824)
/-- A script and where it lies. -/
structure Scr where
  A : Option Addr
  n : Nat
  c : Nat
  ss : List Ps
def tot (fs : Nat → Scr) : Nat → Nat
  | 0 => 0
  | j + 1 => tot fs j + wrN (fs j).ss (fs j).n
set_option maxHeartbeats 1600000 in
theorem vast_any (g N c1 : Nat) (fs : Nat → Scr) (w : World) (hc : ∀ j, j < N → w.cell? ⟨g, j, none⟩ = some (.slice (fs j).A (fs j).n (fs j).c) ∧ Script w (fs j).A (fs j).n (fs j).ss ∧ (fs j).n ≤ 140737488351232) (hN : N ≤ 16) :
    Calls Try.prog 13 #[.slice (some ⟨g, 0, none⟩) N c1] w (VastRet (tot fs N) w) := by
  go_enter Try.func13, Try.ntmps13
  go_wp2_with fail
  go_loopw [3, 10] (fun s i wr => ∃ j T : Nat, j ≤ N ∧ i = .int .i64 j ∧ s = .int .i64 T ∧ Hid (T = tot fs j) ∧ T ≤ 1073741824 ∧ Below w.heap.size w wr) (fun _ i _ => N - (intOf i).toNat)
  case atStart => exact ⟨0, 0, by omega, rfl, rfl, Lib.hid rfl, by omega, Below.refl _ _⟩
  case round =>
    obtain ⟨j, T0, hj, rfl, rfl, HT0, hT0, hB⟩ := hrel
    by_cases hlt : j < N
    · obtain ⟨e0, h, hn⟩ := hc j hlt
      have hTS : Hid (tot fs (j + 1) = tot fs j + wrN (fs j).ss (fs j).n) := Lib.hid rfl
      generalize (fs j).A = A at *
      generalize (fs j).n = n at *
      generalize (fs j).c = c at *
      generalize (fs j).ss = ss at *
      have e1 := (hB.cell (p := ⟨g, j, none⟩) (block_lt_of_cell e0)).trans e0
      have i0 : (0 : Int) ≤ (j : Int) := by omega
      have i1 : (j : Int) < (N : Int) := by omega
      go_wp2_with fail
      go_loopw [3, 16] (fun s i wx => ∃ k T : Nat, k ≤ n ∧ i = .int .i64 k ∧ s = .int .i64 T ∧ Hid (T = T0 + wrN ss k) ∧ T ≤ 1073741824 ∧ Below w.heap.size w wx) (fun _ i _ => n - (intOf i).toNat)
      case atStart => exact ⟨0, T0, Nat.zero_le _, rfl, rfl, Lib.hid (by rw [wrN_zero]; rfl), hT0, hB⟩
      case round =>
        clear hB e1
        obtain ⟨k, T, hk, rfl, rfl, HT, hT2, hB⟩ := hrel
        by_cases hlt2 : k < n
        · obtain ⟨b, o, s, C, m, cc, F, l, d, rfl, hs, q0, q1, q2, q3, q4, q5, -, hm, -, hml⟩ := Script.at_ h hB k hlt2
          have hsu := Lib.hid (wrN_succ ss k s hs)
          have j0 : (0 : Int) ≤ (k : Int) := by omega
          have j1 : (k : Int) < (n : Int) := by omega
          have HM := Lib.hid hm
          have hB2 := Lib.hid (hB.alloc hB.size (.cells #[.int .i64 s.k, .int .i64 s.i, .int .i64 s.a, .int .i64 s.b, .slice C m cc, .slice F l d] 33))
          clear hs hm hB
          go_wp2_with fail
          · go_ret
            exact ⟨true, rfl, hB2.out, fun h => by cases h⟩
          · go_roundw
            case rel => exact ⟨k + 1, T + (1 + m), hlt2, by go_num, by go_num, Lib.hid (by rw [hsu.out, HM.out, HT.out]; omega), by omega, hB2.out⟩
            case measure => simp [intOf]; omega
        · obtain rfl : k = n := by omega
          go_wp2_with fail
          go_roundw
          case rel => exact ⟨j + 1, T, hlt, by go_num, rfl, Lib.hid (by rw [hTS.out, HT.out, HT0.out]), hT2, hB⟩
          case measure => simp [intOf]; omega
    · obtain rfl : j = N := by omega
      go_wp2_with fail
      go_ret
      exact ⟨false, rfl, hB, fun _ => by rw [← HT0.out]; exact hT0⟩
end Go.Proofs.Ytodaplkijdjbpaa
