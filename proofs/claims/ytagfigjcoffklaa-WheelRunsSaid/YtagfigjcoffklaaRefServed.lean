/- The reference's Served, walked; and its New, Turn, Skip. -/
import Derived.Test.YtagfigjcoffklaaServed
namespace Go.Proofs.Ytagfigjcoffklaa
open Go.RowKit
theorem served_eq (p w t : Int) (h : 0 < p) (w0 : 0 ≤ w) (w1 : w < p) (t0 : 0 ≤ t) : (t - w + p - 1) / p = t / p + (if w < t % p then 1 else 0) := by
  have e := Int.mul_ediv_add_emod t p
  have r0 := Int.emod_nonneg t (show p ≠ 0 by omega)
  have r1 := Int.emod_lt_of_pos t h
  generalize t / p = q at *
  generalize t % p = r at *
  subst e
  split
  · rw [show p * q + r - w + p - 1 = (r - w - 1) + p * (q + 1) by rw [Int.mul_add]; omega, Int.add_mul_ediv_left _ _ (by omega), Int.ediv_eq_zero_of_lt (by omega) (by omega)]
    omega
  · rw [show p * q + r - w + p - 1 = (r - w + p - 1) + p * q by omega, Int.add_mul_ediv_left _ _ (by omega), Int.ediv_eq_zero_of_lt (by omega) (by omega)]
    omega
theorem way_val (p n q : Int) (w : World) (h : Good p n) (q0 : 0 ≤ q) (q1 : q < p) (m : Nat) : Calls Try.prog 24 #[.int .i64 p, .int .i64 n, .int .i64 q] (w.drewN m) fun e w' => e = .returned (.int .i64 (wayN p n q)) ∧ w' = w.drewN m :=
  (way_any p n q (w.drewN m) h q0 q1).mono fun _ _ ⟨h1, h2⟩ => ⟨h1, h2.symm⟩
theorem refServed_bad (p n t : Int) (w : World) (h : ¬ Good p n ∨ t < 0) : Calls Try.prog 14 #[.int .i64 p, .int .i64 n, .int .i64 t] w fun e w' => e = .returned (.tuple #[.slice none 0 0, .int .i64 2]) ∧ w = w' := by
  have h' : p < 1 ∨ 16 < p ∨ n < 0 ∨ p ≤ n ∨ t < 0 := by unfold Good at h; omega
  clear h
  rcases h' with h | h | h | h | h
  all_goals
    go_enter Try.func14, Try.ntmps14
    go_wp2_with fail
    all_goals
      first
      | (go_ret2; exact ⟨rfl, rfl⟩)
      | (exfalso; simp only [Bool.or_eq_true, Bool.or_eq_false_iff, Bool.and_eq_true, Bool.and_eq_false_iff, decide_eq_true_eq, decide_eq_false_iff_not] at *; omega)
theorem refServed_large (p n t : Int) (w : World) (h : Good p n) (ht : 1099511627776 < t) : Calls Try.prog 14 #[.int .i64 p, .int .i64 n, .int .i64 t] w fun e w' => e = .returned (.tuple #[.slice none 0 0, .int .i64 3]) ∧ w = w' := by
  obtain ⟨h1, h2, h3, h4⟩ := h
  go_enter Try.func14, Try.ntmps14
  go_wp2_with fail
  all_goals (go_ret2; exact ⟨rfl, rfl⟩)
set_option maxHeartbeats 1600000 in
theorem refServed_ok (p n t : Int) (w : World) (h : Good p n) (t0 : 0 ≤ t) (ht : t ≤ 1099511627776) : Calls Try.prog 14 #[.int .i64 p, .int .i64 n, .int .i64 t] w (NewInts w (servedL p n t) 0) := by
  have HG := Lib.hid h
  obtain ⟨h1, h2, h3, h4⟩ := h
  obtain ⟨P, rfl⟩ := Int.eq_ofNat_of_zero_le (show 0 ≤ p by omega)
  obtain ⟨i0, hi, hz0, hz1, hz2⟩ := info_parts info_int
  go_enter Try.func14, Try.ntmps14
  go_wp2_with (first | (at_make; refine wpList_make_full _ rfl (.tmp 31) (.tmp 31) 29 rfl w.heap.size 3 i0 (.int .i64 0) 1 Try.underlying29 hi hz0 hz1 .i64 .i64 _ _ P rfl rfl rfl rfl (by rw [hz2]; omega) (by simp [maxLen]; omega) (Nat.le_refl _) ?_; intro w1 hown hgr; rw [Nat.mul_one] at hown))
  have hB1 := below_of_grown hgr (Nat.le_refl _) (fun k h => by cases h)
  have hz : (madeCells (Value.int .i64 0).cells P).toList = ivals (List.replicate P 0) := by
    rw [show (Value.int .i64 0).cells = #[Value.int .i64 0] from rfl, toList_madeCells_one]
    simp [ivals]
  rw [hz] at hown
  go_loopw [9] (fun i wr => ∃ k : Nat, ∃ zs : List Int, k ≤ P ∧ i = .int .i64 k ∧ zs.length = P ∧ wr.ownsRow w.heap.size 3 1 (.slice (some ⟨w.heap.size, 0, none⟩) P P) P (ivals zs) ∧ Below w.heap.size w wr ∧ ∀ j : Nat, j < k → zs.getD j 0 = (t - wayN P n j + P - 1) / P) (fun i _ => P - (intOf i).toNat)
  case atStart => exact ⟨0, _, by omega, rfl, by simp, hown, hB1, fun j hj => by omega⟩
  case round =>
    obtain ⟨k, zs, hk, rfl, hzl, hor, hBr, hall⟩ := hrel
    have HL := Lib.hid hzl
    have HA := Lib.hid hall
    clear hzl hall
    by_cases hlt : k < P
    · have hc : wr.cell? ⟨w.heap.size, k, none⟩ = some (.int .i64 (zs.getD k 0)) := (hor.cellAt k (by omega)).trans (ivals_at zs k (by rw [HL.out]; exact hlt))
      have hf := hor.frozenAt k
      have d0 : 0 ≤ t / (P : Int) := Int.ediv_nonneg t0 (by omega)
      have d1 : t / (P : Int) ≤ 1099511627776 := Int.le_trans (Int.ediv_le_self _ t0) ht
      have hst := hor.stored k (.int .i64 (t / P))
      rw [ivals_set] at hst
      have hc2 : (wr.setCell ⟨w.heap.size, k, none⟩ (.int .i64 (t / P))).cell? ⟨w.heap.size, k, none⟩ = some (.int .i64 (t / P)) := World.cell?_setCell_same _ _ _ hc
      have hst2 := hst.1.stored k (.int .i64 (t / P + 1))
      rw [ivals_set] at hst2
      have heq := served_eq P (wayN P n k) t (by omega) (wayN_lo _ _ _ (by omega)) (wayN_hi _ _ _ (by omega)) t0
      have hw0 := wayN_lo P n k (by omega)
      have hw1 := wayN_hi P n k (by omega)
      have HE := Lib.hid heq
      clear heq
      have hset : ∀ x, (zs.set k x).length = P := fun x => by simpa using HL.out
      have hnew : ∀ x, x = (t - wayN P n k + P - 1) / P → ∀ j : Nat, j < k + 1 → (zs.set k x).getD j 0 = (t - wayN P n j + P - 1) / P := by
        intro x hx j hj
        by_cases e : j = k
        · subst e
          rw [List.getD_eq_getElem?_getD, List.getElem?_set_self (by rw [HL.out]; exact hlt)]
          exact hx
        · rw [List.getD_eq_getElem?_getD, List.getElem?_set_ne (by omega), ← List.getD_eq_getElem?_getD]
          exact HA.out j (by omega)
      have HS := Lib.hid hset
      have HN := Lib.hid hnew
      clear hset hnew
      go_wp2_with fail
      generalize hwz : wr.setCell ⟨w.heap.size, k, none⟩ (.int .i64 (t / P)) = wz at *
      have hBz : Below w.heap.size w wz := by rw [← hwz]; exact hBr.setCell (Nat.le_refl _) _
      have hfz := hst.1.frozenAt k
      clear hwz hc hf hor hBr
      have k0 : (0 : Int) ≤ (k : Int) := by omega
      have k1 : (k : Int) < (P : Int) := by omega
      go_quiet ((go_at_call 24; exact Calls.quiet_of_same (way_val _ _ _ _ HG.out k0 k1 _)))
      go_wp2
      · have hlt2 : wayN P n k < t % (P : Int) := by assumption
        go_roundw
        case rel =>
          refine ⟨k + 1, _, by omega, by go_num, ?_, hst2.1, ?_, ?_⟩
          · simpa using HL.out
          · exact (hBz.trans ((below_drews _ _).mono hBz.size)).setCell (Nat.le_refl _) _
          · rw [List.set_set]
            exact HN.out _ (by rw [HE.out, if_pos hlt2])
        case measure => simp [intOf]; omega
      · have hlt2 : ¬ wayN P n k < t % (P : Int) := by omega
        go_roundw
        case rel =>
          refine ⟨k + 1, _, by omega, by go_num, HS.out _, hst.1, hBz.trans ((below_drews _ _).mono hBz.size), ?_⟩
          exact HN.out _ (by rw [HE.out, if_neg hlt2]; omega)
        case measure => simp [intOf]; omega
    · obtain rfl : k = P := by omega
      have hzs : zs = servedL k n t := by
        refine (list_eq_iff _ _ (by rw [servedL_length, HL.out]; omega)).2 fun q hq => ?_
        rw [HL.out] at hq
        rw [servedL_at _ _ _ _ (by omega)]
        exact HA.out q hq
      go_wp2
      go_ret2
      refine ⟨w.heap.size, k, ?_, ?_, hBr⟩
      · rw [servedL_length]; rfl
      · rw [servedL_length, ← hzs]; exact hor
end Go.Proofs.Ytagfigjcoffklaa
