/- Lists of lists of bytes: vast, and the reference's Fits. -/
import Derived.Test.YtjgiiolamaimnaaHelp
import Derived.Test.YtjgiiolamaimnaaOpen
namespace Go.Proofs.Ytjgiiolamaimnaa
open Go.RowKit
set_option linter.unusedVariables false
set_option linter.unusedSimpArgs false
theorem BRows.at_ {w : World} {A : Option Addr} {n : Nat} {bss : List (List UInt8)} (h : BRows w A n bss) (k : Nat) (hk : k < n) :
    ∃ b o A' l c, A = some ⟨b, o, none⟩ ∧ w.cell? ⟨b, o + k, none⟩ = some (.slice A' l c) ∧ Bytes w A' l (bss.getD k []) ∧ l ≤ 140737488351232 ∧ l = (bss.getD k []).length := by
  rcases h.2.2 with h0 | ⟨b, o, hA, hc⟩
  · omega
  · obtain ⟨A', l, c, h1, h2, h3, h4⟩ := hc k hk
    exact ⟨b, o, A', l, c, hA, h1, h2, by omega, h2.1.symm⟩
/-- How much the first k pieces come to, each counted as one more. -/
def vastN (bss : List (List UInt8)) (k : Nat) : Nat := ((bss.take k).map fun b => b.length + 1).sum
theorem vastN_succ (bss : List (List UInt8)) (k : Nat) (h : k < bss.length) : vastN bss (k + 1) = vastN bss k + ((bss.getD k []).length + 1) := by
  have e : bss.getD k [] = bss[k] := by simp [List.getD_eq_getElem?_getD, h]
  unfold vastN
  rw [List.take_succ_eq_append_getElem h, List.map_append, List.sum_append, e]
  rfl
theorem vastN_zero (bss : List (List UInt8)) : vastN bss 0 = 0 := rfl
theorem vastN_mono (bss : List (List UInt8)) (k n : Nat) (hk : k ≤ n) (hn : n ≤ bss.length) : vastN bss k ≤ vastN bss n := by
  induction n with
  | zero => obtain rfl : k = 0 := by omega
            exact Nat.le_refl _
  | succ n ih =>
    by_cases e : k = n + 1
    · subst e; exact Nat.le_refl _
    · rw [vastN_succ bss n (by omega)]
      have := ih (by omega) (by omega)
      omega
/-- What vast tells. -/
def VastRet (bss : List (List UInt8)) (w : World) (e : Ending) (w' : World) : Prop := ∃ b, e = .returned (.bool b) ∧ w = w' ∧ (b = false → vastN bss bss.length ≤ 1073741824)
set_option maxHeartbeats 400000 in
theorem vast_any (A : Option Addr) (n c : Nat) (bss : List (List UInt8)) (w : World) (h : BRows w A n bss) :
    Calls Try.prog 25 #[.slice A n c] w (VastRet bss w) := by
  have hn := h.2.1
  have hl := Lib.hid h.1
  go_enter Try.func25, Try.ntmps25
  go_wp2
  go_loop [3, 8] (fun s i => ∃ k m : Nat, k ≤ n ∧ i = .int .i64 k ∧ s = .int .i64 m ∧ m = vastN bss k ∧ m ≤ 1073741824) (fun _ i => n - (intOf i).toNat)
  case atStart => exact ⟨0, 0, by omega, rfl, rfl, rfl, by omega⟩
  case round =>
    obtain ⟨k, m, hk, rfl, rfl, hm, hm2⟩ := hrel
    have HM := Lib.hid hm
    clear hm
    by_cases hlt : k < n
    · obtain ⟨b, o, A', l, c', rfl, hc, hb, hlb, hlen⟩ := h.at_ k hlt
      have HL := Lib.hid hlen
      clear hlen
      go_wp2
      · go_ret
        exact ⟨true, rfl, rfl, fun h => by cases h⟩
      · go_round
        case rel => exact ⟨k + 1, m + (1 + l), by omega, by go_num, by go_num, by rw [vastN_succ _ _ (by rw [hl.out]; exact hlt), ← HM.out, HL.out]; omega, by omega⟩
        case measure => simp [intOf]; omega
    · obtain rfl : k = n := by omega
      go_wp2
      go_ret
      exact ⟨false, rfl, rfl, fun _ => by rw [hl.out, ← HM.out]; exact hm2⟩
/-- What Fits tells. -/
def FitsRet (bss : List (List UInt8)) (w : World) (e : Ending) (w' : World) : Prop := ∃ b, e = .returned (.bool b) ∧ w = w' ∧ (b = true → ∀ k, k < bss.length → (bss.getD k []).length ≤ 65536)
set_option maxHeartbeats 400000 in
theorem fits_any (A : Option Addr) (n c : Nat) (bss : List (List UInt8)) (w : World) (h : BRows w A n bss) :
    Calls Try.prog 26 #[.slice A n c] w (FitsRet bss w) := by
  have hn := h.2.1
  have hl := Lib.hid h.1
  go_enter Try.func26, Try.ntmps26
  go_wp2
  go_loop [3] (fun i => ∃ k : Nat, k ≤ n ∧ i = .int .i64 k ∧ Hid (∀ j, j < k → (bss.getD j []).length ≤ 65536)) (fun i => n - (intOf i).toNat)
  case atStart => exact ⟨0, by omega, rfl, Lib.hid (fun j hj => by omega)⟩
  case round =>
    obtain ⟨k, hk, rfl, HJ⟩ := hrel
    by_cases hlt : k < n
    · obtain ⟨b, o, A', l, c', rfl, hc, hb, hlb, hlen⟩ := h.at_ k hlt
      have HL := Lib.hid hlen
      clear hlen
      by_cases h65 : 65536 < l
      · go_wp2
        go_ret
        exact ⟨false, rfl, rfl, fun h => by cases h⟩
      · go_wp2
        go_round
        case rel => exact ⟨k + 1, by omega, by go_num, Lib.hid (fun j hj => by
          by_cases e : j = k
          · subst e; have := HL.out; omega
          · exact HJ.out j (by omega))⟩
        case measure => simp [intOf]; omega
    · obtain rfl : n = k := by omega
      go_wp2
      go_ret
      exact ⟨true, rfl, rfl, fun _ j hj => HJ.out j (by rw [hl.out] at hj; exact hj)⟩
end Go.Proofs.Ytjgiiolamaimnaa
