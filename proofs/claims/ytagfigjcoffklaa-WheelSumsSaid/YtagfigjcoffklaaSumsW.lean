/- The law WheelSums, walked. -/
import Derived.Test.YtagfigjcoffklaaShares
namespace Go.Proofs.Ytagfigjcoffklaa
open Go.RowKit
theorem served_not (p n t : Int) (h : ¬ (Good p n ∧ 0 ≤ t ∧ t ≤ 1099511627776)) : ∃ c : Int, (c = 2 ∨ c = 3) ∧ ∀ w, Calls Try.prog 13 #[.int .i64 p, .int .i64 n, .int .i64 t] w fun e w' => e = .returned (.tuple #[.slice none 0 0, .int .i64 c]) ∧ w = w' := by
  have hc : (¬ Good p n ∨ t < 0) ∨ (Good p n ∧ 1099511627776 < t) := by unfold Good at *; omega
  rcases hc with h | ⟨h, ht⟩
  · exact ⟨2, .inl rfl, fun w => served_bad p n t w h⟩
  · exact ⟨3, .inr rfl, fun w => served_large p n t w h ht⟩
theorem served_new (p n t : Int) (w : World) (h : Good p n) (t0 : 0 ≤ t) (ht : t ≤ 1099511627776) : Calls Try.prog 13 #[.int .i64 p, .int .i64 n, .int .i64 t] w fun e w' =>
    ∃ b c, e = .returned (.tuple #[.slice (some ⟨b, 0, none⟩) p.toNat c, .int .i64 0]) ∧ Ints w' (some ⟨b, 0, none⟩) p.toNat (servedL p n t) ∧ Below w.heap.size w w' := by
  refine (served_ok p n t w h t0 ht).mono ?_
  rintro e w' ⟨g, c, rfl, ho, hb⟩
  have hl := servedL_length p n t
  unfold Good at h
  rw [hl] at ho
  refine ⟨g, c, by rw [hl], own_ints ho (by omega), hb⟩
theorem Ints.cell {w : World} {b o n : Nat} {zs : List Int} (h : Ints w (some ⟨b, o, none⟩) n zs) (k : Nat) (hk : k < n) : w.cell? ⟨b, o + k, none⟩ = some (.int .i64 (zs.getD k 0)) := by
  obtain ⟨b', o', e, hc⟩ := h.at_ k hk
  injection e with e
  injection e with e1 e2
  subst e1; subst e2
  exact hc
theorem servedL_share (p n t : Int) (q : Nat) (h : q < p.toNat) : (servedL p n t).getD q 0 = shareN p n t q := servedL_at p n t q h
theorem share_adds' (p n a b q : Int) (hp : 0 < p) : shareN p n (a + b) q = shareN p n a q + shareN p ((n + a) % p) b q := by
  rw [share_adds p n a b q hp]
  congr 2
  simp
set_option maxRecDepth 100000 in
set_option maxHeartbeats 1600000 in
theorem wheelSums_any (p n a b : Int) (w : World) : Calls Try.prog 7 #[.int .i64 p, .int .i64 n, .int .i64 a, .int .i64 b] w fun e w' => e = .returned (.bool true) ∧ Below w.heap.size w w' := by
  by_cases h : Good p n ∧ 0 ≤ a ∧ a ≤ 1099511627776
  · obtain ⟨hg, a0, a1⟩ := h
    have HG := Lib.hid hg
    obtain ⟨p1, p2, n0, n1⟩ := hg
    obtain ⟨P, rfl⟩ := Int.eq_ofNat_of_zero_le (show 0 ≤ p by omega)
    go_enter Try.func7, Try.ntmps7
    go_wp2_with fail
    refine (awake_any _).mono ?_
    rintro e w1 ⟨rfl, hB1⟩
    go_wp2_with fail
    refine (served_new P n a _ HG.out a0 a1).mono ?_
    rintro e w2 ⟨X, xc, rfl, hX2, hB2⟩
    rw [Int.toNat_natCast] at hX2 ⊢
    have hB2' := below_then hB1 hB2 hB1.size
    by_cases hb : 0 ≤ b ∧ a + b ≤ 1099511627776
    · obtain ⟨b0, b1⟩ := hb
      have z0 : ((P : Int) == 0) = false := by rw [beq_eq_false_iff_ne]; omega
      have m0 : 0 ≤ a % (P : Int) := Int.emod_nonneg _ (by omega)
      have m1 : a % (P : Int) < P := Int.emod_lt_of_pos _ (by omega)
      have k0 : 0 ≤ (n + a) % (P : Int) := Int.emod_nonneg _ (by omega)
      have k1 : (n + a) % (P : Int) < P := Int.emod_lt_of_pos _ (by omega)
      have HG2 : Hid (Good P ((n + a) % (P : Int))) := ⟨p1, p2, k0, k1⟩
      go_wp2_with fail
      with_reducible refine (served_new P ((n + a) % (P : Int)) b _ HG2.out b0 (by omega)).mono ?_
      rintro e w3 ⟨Y, yc, rfl, hY3, hB3⟩
      rw [Int.toNat_natCast] at hY3 ⊢
      have hB3' := below_then hB2' hB3 hB2'.size
      have hX3 := hX2.below hB3
      go_wp2_with fail
      with_reducible refine (served_new P n (a + b) _ HG.out (by omega) b1).mono ?_
      rintro e w4 ⟨Z, zc, rfl, hZ4, hB4⟩
      rw [Int.toNat_natCast] at hZ4 ⊢
      have hB4' := below_then hB3' hB4 hB3'.size
      have hX4 := hX3.below hB4
      have hY4 := hY3.below hB4
      clear hX2 hX3 hY3 hB1 hB2 hB3 hB4 hB3' hB2'
      go_wp2
      go_loopw [15, 16, 17, 18] (fun su i _ _ wr => ∃ k : Nat, ∃ S : Int, k ≤ P ∧ i = .int .i64 k ∧ su = .int .i64 S ∧ Hid (S = shareSum P n (a + b) k) ∧ 0 ≤ S ∧ S ≤ k * 1099511627777 ∧ Below w4.heap.size w4 wr) (fun _ i _ _ _ => P - (intOf i).toNat)
      case atStart => exact ⟨0, 0, by omega, rfl, rfl, Lib.hid rfl, by omega, by omega, Below.refl _ _⟩
      case round =>
        obtain ⟨k, S, hk, rfl, rfl, hS, S0, S1, hBr⟩ := hrel
        by_cases hlt : k < P
        · have cx := (hX4.below hBr).cell k hlt
          have cy := (hY4.below hBr).cell k hlt
          have cz := (hZ4.below hBr).cell k hlt
          have c0 := (hZ4.below hBr).cell 0 (by omega)
          rw [servedL_share _ _ _ _ (by omega), Nat.zero_add] at cx cy cz
          rw [servedL_share _ _ _ _ (by omega), Nat.zero_add] at c0
          have s1 := share_adds' P n a b k (by omega)
          have s2 := share_near P n (a + b) k (0 : Nat) (by omega)
          have s3 := share_near P n (a + b) (0 : Nat) k (by omega)
          have s4 := share_lo P n (a + b) k (by omega) (by omega)
          have s5 := share_hi P n (a + b) k (by omega) (by omega)
          have s6 := share_lo P n (a + b) (0 : Nat) (by omega) (by omega)
          have s7 := share_hi P n (a + b) (0 : Nat) (by omega) (by omega)
          have x1 := share_lo P n a k (by omega) (by omega)
          have y1 := share_lo P ((n + a) % (P : Int)) b k (by omega) (by omega)
          have su := share_until P n (a + b) k (by omega)
          have hS' : S + shareN P n (a + b) k = shareSum P n (a + b) (k + 1) := by rw [hS.out]; rfl
          have HS := Lib.hid hS'
          clear hS'
          obtain ⟨vz, hvz⟩ : ∃ vz, shareN P n (a + b) k = vz := ⟨_, rfl⟩
          have HS' : Hid (S + vz = shareSum P n (a + b) (k + 1)) := by rw [← hvz]; exact HS
          have HVZ := Lib.hid hvz
          rw [hvz] at s1 s2 s3 s4 s5 cz
          clear hvz HS
          generalize shareN P n a k = vx at *
          generalize shareN P ((n + a) % (P : Int)) b k = vy at *
          generalize shareN P n (a + b) (0 : Nat) = v0 at *
          have d1 : (vz == vx + vy) = true := by rw [s1]; simp
          have d2 : (vz != vx + vy) = false := by rw [s1]; simp
          have d3 : decide (1 < vz - v0) = false := decide_eq_false (by omega)
          have d4 : decide (1 < v0 - vz) = false := decide_eq_false (by omega)
          have HZ := Lib.hid s1
          have v1 : 0 ≤ vx + vy := by omega
          have v2 : vx + vy ≤ 1099511627777 := by omega
          have v3 : vx ≤ 1099511627777 := by omega
          have v4 : vy ≤ 1099511627777 := by omega
          clear s1
          have SU := Lib.hid su
          clear su
          have hlt' : (k : Int) < P := by omega
          go_wp2_with fail
          go_quiet (fail)
          have hBr2 : Below w4.heap.size w4 (wr.drewN nq) := hBr.trans ((below_drews wr nq).mono hBr.size)
          clear hBr cx cy cz c0
          generalize wr.drewN nq = wq at *
          have cz := (hZ4.below hBr2).cell k hlt
          rw [servedL_share _ _ _ _ (by omega), Nat.zero_add, HVZ.out] at cz
          have HW := Lib.hid (show wayN P n k + 1 + (vz - 1) * P ≤ a + b ∧ a + b < wayN P n k + 1 + (vz - 1) * P + P by rw [← HVZ.out]; exact SU.out)
          by_cases hpos : 0 < vz
          · go_wp2_with fail
            with_reducible refine (until_ok P n k (vz - 1) _ HG.out (by omega) hlt' (by omega) (by omega)).mono ?_
            rintro e w5 ⟨rfl, rfl⟩
            obtain ⟨u1, u2⟩ := HW.out
            have u3 : 0 ≤ (vz - 1) * (P : Int) := Int.mul_nonneg (by omega) (by omega)
            have u4 : 0 ≤ wayN P n k + 1 + (vz - 1) * (P : Int) := by have := wayN_lo P n k (by omega); omega
            clear u3
            generalize wayN P n k + 1 + (vz - 1) * (P : Int) = un at *
            have hS2 : S + vz ≤ ((k + 1 : Nat) : Int) * 1099511627777 := by omega
            go_wp2
            go_roundw
            case rel => exact ⟨k + 1, S + vz, by omega, by go_num, by go_num, HS', by omega, hS2, hBr2⟩
            case measure => simp [intOf]; omega
          · have hz : vz = 0 := by omega
            go_wp2
            go_roundw
            case rel => exact ⟨k + 1, S + vz, by omega, by go_num, by go_num, HS', by omega, by omega, hBr2⟩
            case measure => simp [intOf]; omega
        · obtain rfl : k = P := by omega
          have hSe : S = a + b := by
            rw [hS.out]
            obtain ⟨C, hC⟩ := Int.eq_ofNat_of_zero_le (show 0 ≤ a + b by omega)
            rw [hC]
            exact shareSum_all k n (by omega) C
          subst hSe
          go_wp2
          go_ret
          exact ⟨by simp, hB4'.trans (hBr.mono (hB4'.size))⟩
    · have hb' : b < 0 ∨ 1099511627776 - a < b := by omega
      clear hb
      go_wp2_with fail
      all_goals
        first
        | (go_ret; exact ⟨by simp, hB2'⟩)
        | (exfalso; simp only [beq_iff_eq, Bool.or_eq_true, decide_eq_true_eq] at *; omega)
  · obtain ⟨c, hc, hn⟩ := served_not p n a h
    clear h
    have HN := Lib.hid hn
    clear hn
    go_enter Try.func7, Try.ntmps7
    go_wp2_with fail
    refine (awake_any _).mono ?_
    rintro e w1 ⟨rfl, hB1⟩
    go_wp2_with fail
    refine (HN.out _).mono ?_
    rintro e w2 ⟨rfl, rfl⟩
    rcases hc with rfl | rfl
    · go_wp2
      go_ret
      exact ⟨rfl, hB1⟩
    · go_wp2
      go_ret
      exact ⟨rfl, hB1⟩
end Go.Proofs.Ytagfigjcoffklaa
