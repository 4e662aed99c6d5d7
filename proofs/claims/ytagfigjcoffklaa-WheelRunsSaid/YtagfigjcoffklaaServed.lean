/- Package wheel and its reference, walked: Served. -/
import Derived.Test.YtagfigjcoffklaaUntil
import Derived.StillTactics
import Derived.RegionTactic
namespace Go.Proofs.Ytagfigjcoffklaa
open Go.RowKit
theorem info_int : (Try.prog.info? 3).map (fun i => (i.zero, i.size, i.bytes)) = some (some (.int .i64 0), 1, 8) := by kernel_rfl
/-- How often each place is served. -/
def servedL (p n t : Int) : List Int := (List.range p.toNat).map fun q : Nat => (t - wayN p n (q : Int) + p - 1) / p
theorem servedL_length (p n t : Int) : (servedL p n t).length = p.toNat := by simp [servedL]
theorem servedL_at (p n t : Int) (q : Nat) (h : q < p.toNat) : (servedL p n t).getD q 0 = (t - wayN p n q + p - 1) / p := by
  simp [servedL, List.getD_eq_getElem?_getD, h]
theorem served_bad (p n t : Int) (w : World) (h : ¬ Good p n ∨ t < 0) : Calls Try.prog 13 #[.int .i64 p, .int .i64 n, .int .i64 t] w fun e w' => e = .returned (.tuple #[.slice none 0 0, .int .i64 2]) ∧ w = w' := by
  have H' := Lib.hid h
  clear h
  go_enter Try.func13, Try.ntmps13
  go_wp2_with (go_at_call 23; (with_reducible refine (may_bad _ _ _ _ H'.out).mono ?_); rintro e w' ⟨rfl, rfl⟩)
  go_ret2
  exact ⟨rfl, rfl⟩
theorem served_large (p n t : Int) (w : World) (h : Good p n) (ht : 1099511627776 < t) : Calls Try.prog 13 #[.int .i64 p, .int .i64 n, .int .i64 t] w fun e w' => e = .returned (.tuple #[.slice none 0 0, .int .i64 3]) ∧ w = w' := by
  go_enter Try.func13, Try.ntmps13
  go_wp2_with (go_at_call 23; (with_reducible refine (may_large _ _ _ _ h ht).mono ?_); rintro e w' ⟨rfl, rfl⟩)
  go_ret2
  exact ⟨rfl, rfl⟩
/-- What a list that is made anew is. -/
def NewInts (w : World) (zs : List Int) (err : Int) (e : Ending) (w' : World) : Prop :=
  ∃ g c, e = .returned (.tuple #[.slice (some ⟨g, 0, none⟩) zs.length c, .int .i64 err]) ∧ w'.ownsRow w.heap.size 3 1 (.slice (some ⟨g, 0, none⟩) zs.length c) zs.length (ivals zs) ∧ Below w.heap.size w w'
theorem wayN_inj (p n j k : Int) (_h : 0 < p) (j0 : 0 ≤ j) (jk : j ≠ k) (jp : (0 ≤ k ∧ j < p ∧ k < p)) (e : (n + j) % p = (n + k) % p) : False := by
  have h1 : (n + j - (n + k)) % p = 0 := Int.emod_eq_emod_iff_emod_sub_eq_zero.1 e
  have h2 := Int.dvd_of_emod_eq_zero h1
  obtain ⟨c, hc⟩ := h2
  have h3 : j - k = p * c := by omega
  rcases Int.lt_trichotomy c 0 with h | h | h
  · have : p * c ≤ p * (-1) := Int.mul_le_mul_of_nonneg_left (by omega) (by omega)
    omega
  · subst h; omega
  · have : p * 1 ≤ p * c := Int.mul_le_mul_of_nonneg_left (by omega) (by omega)
    omega
set_option maxHeartbeats 800000 in
theorem served_ok (p n t : Int) (w : World) (h : Good p n) (t0 : 0 ≤ t) (ht : t ≤ 1099511627776) : Calls Try.prog 13 #[.int .i64 p, .int .i64 n, .int .i64 t] w (NewInts w (servedL p n t) 0) := by
  have HG := Lib.hid h
  obtain ⟨h1, h2, h3, h4⟩ := h
  obtain ⟨P, rfl⟩ := Int.eq_ofNat_of_zero_le (show 0 ≤ p by omega)
  obtain ⟨i0, hi, hz0, hz1, hz2⟩ := info_parts info_int
  go_enter Try.func13, Try.ntmps13
  go_wp2_with (first | (go_at_call 23; (with_reducible refine (may_ok _ _ _ _ HG.out t0 ht).mono ?_); rintro e w' ⟨rfl, rfl⟩) | (at_make; refine wpList_make_full _ rfl (.tmp 18) (.tmp 18) 29 rfl w.heap.size 3 i0 (.int .i64 0) 1 Try.underlying29 hi hz0 hz1 .i64 .i64 _ _ P rfl rfl rfl rfl (by rw [hz2]; omega) (by simp [maxLen]; omega) (Nat.le_refl _) ?_; intro w1 hown hgr; rw [Nat.mul_one] at hown))
  have hB1 := below_of_grown hgr (Nat.le_refl _) (fun k h => by cases h)
  have hz : (madeCells (Value.int .i64 0).cells P).toList = ivals (List.replicate P 0) := by
    rw [show (Value.int .i64 0).cells = #[Value.int .i64 0] from rfl, toList_madeCells_one]
    simp [ivals]
  rw [hz] at hown
  go_loopw [22] (fun i wr => ∃ k : Nat, ∃ zs : List Int, k ≤ P ∧ i = .int .i64 k ∧ zs.length = P ∧ wr.ownsRow w.heap.size 3 1 (.slice (some ⟨w.heap.size, 0, none⟩) P P) P (ivals zs) ∧ Below w.heap.size w wr ∧ ∀ j : Nat, j < k → zs.getD (((n + j) % P).toNat) 0 = (t - j + P - 1) / P) (fun i _ => P - (intOf i).toNat)
  case atStart => exact ⟨0, _, by omega, rfl, by simp, hown, hB1, fun j hj => by omega⟩
  case round =>
    obtain ⟨k, zs, hk, rfl, hzl, hor, hBr, hall⟩ := hrel
    have HL := Lib.hid hzl
    have HA := Lib.hid hall
    clear hzl hall
    by_cases hlt : k < P
    · have m0 : 0 ≤ (n + k) % (P : Int) := Int.emod_nonneg _ (by omega)
      have m1 : (n + k) % (P : Int) < P := Int.emod_lt_of_pos _ (by omega)
      obtain ⟨q, hq⟩ : ∃ q : Nat, q = ((n + k) % (P : Int)).toNat := ⟨_, rfl⟩
      have hqP : q < P := by omega
      have hc : wr.cell? ⟨w.heap.size, q, none⟩ = some (.int .i64 (zs.getD q 0)) := (hor.cellAt q (by omega)).trans (ivals_at zs q (by rw [HL.out]; exact hqP))
      have hf := hor.frozenAt q
      rw [hq] at hc hf
      have HQ := Lib.hid hq
      clear hq
      go_wp2_with fail
      go_region
      rw [← HQ.out]
      have hst := hor.stored q (.int .i64 ((t - k + P - 1) / P))
      rw [ivals_set] at hst
      have hall' : ∀ j : Nat, j < k + 1 → (zs.set q ((t - k + P - 1) / P)).getD (((n + j) % P).toNat) 0 = (t - j + P - 1) / P := by
        intro j hj
        by_cases e : j = k
        · subst e
          rw [← HQ.out, List.getD_eq_getElem?_getD, List.getElem?_set_self (by rw [HL.out]; exact hqP)]
          rfl
        · have hne : q ≠ ((n + j) % (P : Int)).toNat := by
            intro h5
            have a1 : (n + j) % (P : Int) = (n + k) % (P : Int) := by
              have b1 : 0 ≤ (n + j) % (P : Int) := Int.emod_nonneg _ (by omega)
              have := HQ.out
              omega
            exact wayN_inj P n j k (by omega) (by omega) (by omega) (by omega) a1
          rw [List.getD_eq_getElem?_getD, List.getElem?_set_ne hne, ← List.getD_eq_getElem?_getD]
          exact HA.out j (by omega)
      have hB2 : Below w.heap.size w (wr.drew.setCell ⟨w.heap.size, q, none⟩ (.int .i64 ((t - k + P - 1) / P))) := hBr.drew.setCell (Nat.le_refl _) _
      have hlen2 := Lib.hid (show (zs.set q ((t - k + P - 1) / P)).length = P by simpa using HL.out)
      clear hc hf
      go_wp2
      go_roundw
      case rel => exact ⟨k + 1, _, by omega, by go_num, hlen2.out, hst.1, hB2, hall'⟩
      case measure => simp [intOf]; omega
    · obtain rfl : k = P := by omega
      have hzs : zs = servedL k n t := by
        refine (list_eq_iff _ _ (by rw [servedL_length, HL.out]; omega)).2 fun q hq => ?_
        rw [HL.out] at hq
        rw [servedL_at _ _ _ _ (by omega)]
        have b0 := wayN_lo k n q (by omega)
        have b1 := wayN_hi k n q (by omega)
        obtain ⟨v, hv⟩ := Int.eq_ofNat_of_zero_le b0
        have b2 := HA.out v (by omega)
        have b3 := wayN_hits k n q (by omega) (by omega)
        rw [hv] at b3 ⊢
        rw [b3] at b2
        exact b2
      go_wp2
      go_ret2
      refine ⟨w.heap.size, k, ?_, ?_, hBr⟩
      · rw [servedL_length]; rfl
      · rw [servedL_length, ← hzs]; exact hor
end Go.Proofs.Ytagfigjcoffklaa
