/- The law package's vast, walked. -/
import Derived.Test.YtbfnmfakagdpfaaSteps
namespace Go.Proofs.Ytbfnmfakagdpfaa
open Go.RowKit
set_option linter.unusedVariables false
set_option linter.unusedSimpArgs false
/-- Scripts in a list. -/
def Scr (w : World) (V : Option Addr) (nn : Nat) (xss : List (List StepR)) : Prop :=
  xss.length = nn ∧ (nn = 0 ∨ ∃ b o, V = some ⟨b, o, none⟩ ∧ ∀ i, i < nn → ∃ A n c, w.cell? ⟨b, o + i, none⟩ = some (.slice A n c) ∧ RecS IsStep w 4 A n (xss.getD i []) ∧ n ≤ 140737488351232)
theorem Scr.at_ {w w1 : World} {V : Option Addr} {nn : Nat} {xss : List (List StepR)} (h : Scr w V nn xss) (hb : Below w.heap.size w w1) (i : Nat) (hi : i < nn) :
    ∃ b o A n c, V = some ⟨b, o, none⟩ ∧ w1.cell? ⟨b, o + i, none⟩ = some (.slice A n c) ∧ RecS IsStep w1 4 A n (xss.getD i []) ∧ n ≤ 140737488351232 := by
  rcases h.2 with e | ⟨b, o, hV, hc⟩
  · omega
  · obtain ⟨A, n, c, h1, h2, h3⟩ := hc i hi
    exact ⟨b, o, A, n, c, hV, (hb.cell (p := ⟨b, o + i, none⟩) (block_lt_of_cell h1)).trans h1, h2.below hb (fun _ _ k => IsStep.below hb _ _ k), h3⟩
/-- How much the first k scripts come to. -/
def tot (xss : List (List StepR)) (k : Nat) : Nat := ((xss.take k).map fun xs => wrN xs xs.length).sum
theorem tot_succ (xss : List (List StepR)) (k : Nat) (h : k < xss.length) : tot xss (k + 1) = tot xss k + wrN (xss.getD k []) (xss.getD k []).length := by
  have e : xss.getD k [] = xss[k] := by simp [List.getD_eq_getElem?_getD, h]
  unfold tot
  rw [List.take_succ_eq_append_getElem h, List.map_append, List.sum_append, e]
  rfl
def VastRet (xss : List (List StepR)) (w : World) (e : Ending) (w' : World) : Prop := ∃ b, e = .returned (.bool b) ∧ Below w.heap.size w w' ∧ (b = false → tot xss xss.length ≤ 1073741824)
set_option maxHeartbeats 1600000 in
theorem vast_any (V : Option Addr) (nn c : Nat) (xss : List (List StepR)) (w : World) (h : Scr w V nn xss) (hn : nn ≤ 140737488351232) :
    Calls Try.prog 19 #[.slice V nn c] w (VastRet xss w) := by
  have hl := Lib.hid h.1
  go_enter Try.func19, Try.ntmps19
  go_wp2
  go_loopw [3, 10] (fun s i wr => ∃ k m : Nat, k ≤ nn ∧ i = .int .i64 k ∧ s = .int .i64 m ∧ m = tot xss k ∧ m ≤ 1073741824 ∧ Below w.heap.size w wr) (fun _ i _ => nn - (intOf i).toNat)
  case atStart => exact ⟨0, 0, by omega, rfl, rfl, rfl, by omega, Below.refl _ _⟩
  case round =>
    obtain ⟨k, m, hk, rfl, rfl, hm, hm2, hB⟩ := hrel
    have HM := Lib.hid hm
    clear hm
    by_cases hlt : k < nn
    · obtain ⟨b, o, A, n, c', rfl, hc, hS, hn2⟩ := h.at_ hB k hlt
      have HX := Lib.hid (tot_succ xss k (by rw [hl.out]; exact hlt))
      have HLn := Lib.hid hS.1
      generalize xss.getD k [] = xs at *
      have HS := Lib.hid hS
      clear hS
      go_wp2
      obtain ⟨wo, hwo⟩ : ∃ wo : World, wo = wr := ⟨_, rfl⟩
      rw [← hwo] at HS hB ⊢
      clear hwo hc
      go_loopw [3, 7, 16] (fun s _ i wi => ∃ j q : Nat, j ≤ n ∧ i = .int .i64 j ∧ s = .int .i64 q ∧ q = m + wrN xs j ∧ q ≤ 1073741824 ∧ Below wo.heap.size wo wi) (fun _ _ i _ => n - (intOf i).toNat)
      case atStart => exact ⟨0, m, by omega, rfl, rfl, by rw [wrN_zero]; omega, hm2, Below.refl _ _⟩
      case round =>
        obtain ⟨j, q, hj, rfl, rfl, hq, hq2, hBi⟩ := hrel
        have HQ := Lib.hid hq
        clear hq
        by_cases hlt2 : j < n
        · obtain ⟨b2, o2, cs, x, rfl, hx, _, ⟨A', l, c2, rfl, hlc, hcc, hb, k0, k1, w0, w1, v0, v1⟩, hcell⟩ := (HS.out.below hBi (fun _ _ k => IsStep.below hBi _ _ k)).at_ j hlt2
          have r0 := hcell 0 _ rfl
          have r1 := hcell 1 _ rfl
          have r2 := hcell 2 _ rfl
          have r3 := hcell 3 _ rfl
          rw [Nat.add_zero] at r0
          have HL := Lib.hid hb.1
          have HXX := Lib.hid hx
          clear hcell hx
          go_wp2
          · go_ret
            exact ⟨true, rfl, below_then hB (hBi.alloc hBi.size _) hB.size, fun h => by cases h⟩
          · go_roundw
            case rel => exact ⟨j + 1, q + (1 + l), by omega, by go_num, by go_num, by rw [wrN_succ _ _ _ HXX.out, HQ.out, HL.out]; omega, by omega, hBi.alloc hBi.size _⟩
            case measure => simp [intOf]; omega
        · obtain rfl : j = n := by omega
          have hB2 := below_then hB hBi hB.size
          go_wp2
          go_roundw
          case rel => exact ⟨k + 1, q, by omega, by go_num, rfl, by rw [HX.out, HQ.out, HM.out, HLn.out], by omega, hB2⟩
          case measure => simp [intOf]; omega
    · obtain rfl : k = nn := by omega
      go_wp2
      go_ret
      exact ⟨false, rfl, hB, fun _ => by rw [hl.out, ← HM.out]; exact hm2⟩
end Go.Proofs.Ytbfnmfakagdpfaa
