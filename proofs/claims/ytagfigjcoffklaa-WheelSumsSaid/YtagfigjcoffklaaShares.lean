/- How often each place is served: plain laws. -/
import Derived.Test.YtagfigjcoffklaaUntilsW
namespace Go.Proofs.Ytagfigjcoffklaa
/-- The share of a place. -/
def shareN (p n c q : Int) : Int := (c - wayN p n q + p - 1) / p
theorem share_bounds (p n c q : Int) (hp : 0 < p) : shareN p n c q * p ≤ c - wayN p n q + p - 1 ∧ c - wayN p n q + p - 1 < shareN p n c q * p + p := by
  have h1 := Int.ediv_mul_le (c - wayN p n q + p - 1) (b := p) (by omega)
  have h2 := Int.lt_ediv_add_one_mul_self (c - wayN p n q + p - 1) hp
  rw [Int.add_mul, Int.one_mul] at h2
  exact ⟨h1, h2⟩
theorem share_unique (p x t : Int) (hp : 0 < p) (h1 : t * p ≤ x) (h2 : x < t * p + p) : x / p = t := by
  have e1 := Int.ediv_mul_le x (b := p) (by omega)
  have e2 := Int.lt_ediv_add_one_mul_self x hp
  rw [Int.add_mul, Int.one_mul] at e2
  rcases Int.lt_trichotomy (x / p) t with h | h | h
  · have := Int.mul_le_mul_of_nonneg_right (show x / p + 1 ≤ t by omega) (show 0 ≤ p by omega)
    rw [Int.add_mul, Int.one_mul] at this
    omega
  · exact h
  · have := Int.mul_le_mul_of_nonneg_right (show t + 1 ≤ x / p by omega) (show 0 ≤ p by omega)
    rw [Int.add_mul, Int.one_mul] at this
    omega
theorem share_lo (p n c q : Int) (hp : 0 < p) (c0 : 0 ≤ c) : 0 ≤ shareN p n c q := by
  have := wayN_hi p n q hp
  exact Int.ediv_nonneg (by omega) (by omega)
theorem share_hi (p n c q : Int) (hp : 0 < p) (c0 : 0 ≤ c) : shareN p n c q ≤ c + 1 := by
  obtain ⟨h1, h2⟩ := share_bounds p n c q hp
  have h0 := wayN_lo p n q hp
  by_cases h : shareN p n c q ≤ c + 1
  · exact h
  · have h3 := Int.mul_le_mul_of_nonneg_right (show c + 2 ≤ shareN p n c q by omega) (show 0 ≤ p by omega)
    have h4 : c * 1 ≤ c * p := Int.mul_le_mul_of_nonneg_left (by omega) c0
    rw [Int.add_mul] at h3
    omega
theorem share_near (p n c q r : Int) (hp : 0 < p) : shareN p n c q - shareN p n c r ≤ 1 := by
  obtain ⟨h1, h2⟩ := share_bounds p n c q hp
  obtain ⟨h3, h4⟩ := share_bounds p n c r hp
  have a0 := wayN_lo p n q hp
  have a1 := wayN_hi p n q hp
  have b0 := wayN_lo p n r hp
  have b1 := wayN_hi p n r hp
  by_cases h : shareN p n c q - shareN p n c r ≤ 1
  · exact h
  · have := Int.mul_le_mul_of_nonneg_right (show shareN p n c r + 2 ≤ shareN p n c q by omega) (show 0 ≤ p by omega)
    rw [Int.add_mul] at this
    omega
theorem share_until (p n c q : Int) (hp : 0 < p) : wayN p n q + 1 + (shareN p n c q - 1) * p ≤ c ∧ c < wayN p n q + 1 + (shareN p n c q - 1) * p + p := by
  obtain ⟨h1, h2⟩ := share_bounds p n c q hp
  rw [Int.sub_mul, Int.one_mul]
  omega
theorem share_adds (p n a b q : Int) (hp : 0 < p) : shareN p n (a + b) q = shareN p n a q + shareN p ((n + a % p) % p) b q := by
  obtain ⟨h1, h2⟩ := share_bounds p n a q hp
  obtain ⟨h3, h4⟩ := share_bounds p ((n + a % p) % p) b q hp
  have a0 := wayN_lo p n q hp
  have a1 := wayN_hi p n q hp
  have e : wayN p ((n + a % p) % p) q = wayN p n q - a + shareN p n a q * p := by
    have e1 : wayN p ((n + a % p) % p) q = (wayN p n q - a) % p := by
      unfold wayN
      rw [Int.sub_emod, Int.emod_emod, Int.add_emod, Int.emod_emod, ← Int.add_emod, ← Int.sub_emod]
      conv => rhs; rw [Int.sub_emod, Int.emod_emod, ← Int.sub_emod]
      rw [show q - (n + a) = q - n - a by omega]
    rw [e1, ← Int.add_mul_emod_self_right (b := shareN p n a q)]
    exact Int.emod_eq_of_lt (by omega) (by omega)
  rw [e] at h3 h4
  refine share_unique p _ _ hp ?_ ?_
  · rw [Int.add_mul]; omega
  · rw [Int.add_mul]; omega
/-- The first k shares' sum. -/
def shareSum (p n c : Int) : Nat → Int
  | 0 => 0
  | k + 1 => shareSum p n c k + shareN p n c k
theorem share_next (p n c q : Int) (hp : 0 < p) (q0 : 0 ≤ q) (q1 : q < p) : shareN p n (c + 1) q = shareN p n c q + if (n + c) % p = q then 1 else 0 := by
  obtain ⟨h1, h2⟩ := share_bounds p n c q hp
  have hw := wayN_hits p n q q0 q1
  have a0 := wayN_lo p n q hp
  have a1 := wayN_hi p n q hp
  refine share_unique p _ _ hp ?_ ?_
  · split
    · rename_i hh
      rw [← hw] at hh
      have h3 : (n + c - (n + wayN p n q)) % p = 0 := Int.emod_eq_emod_iff_emod_sub_eq_zero.1 hh
      obtain ⟨d, hd⟩ := Int.dvd_of_emod_eq_zero h3
      rw [Int.mul_comm] at hd
      rw [Int.add_mul, Int.one_mul]
      rcases Int.lt_trichotomy d (shareN p n c q) with h | h | h
      · have := Int.mul_le_mul_of_nonneg_right (show d ≤ shareN p n c q - 1 by omega) (show 0 ≤ p by omega)
        rw [Int.sub_mul, Int.one_mul] at this
        omega
      · subst h; omega
      · have := Int.mul_le_mul_of_nonneg_right (show shareN p n c q + 1 ≤ d by omega) (show 0 ≤ p by omega)
        rw [Int.add_mul, Int.one_mul] at this
        omega
    · rw [Int.add_mul]; omega
  · split
    · rw [Int.add_mul, Int.one_mul]; omega
    · rename_i hh
      rw [Int.add_mul, Int.zero_mul]
      by_cases e : c - wayN p n q = shareN p n c q * p
      · exfalso
        apply hh
        rw [show n + c = n + wayN p n q + shareN p n c q * p by omega, Int.add_mul_emod_self_right]
        exact hw
      · omega
theorem shareSum_next (p n c : Int) (hp : 0 < p) (k : Nat) (hk : k ≤ p.toNat) : shareSum p n (c + 1) k = shareSum p n c k + if (n + c) % p < k then 1 else 0 := by
  have m0 : 0 ≤ (n + c) % p := Int.emod_nonneg _ (by omega)
  induction k with
  | zero => simp [shareSum]; omega
  | succ k ih =>
    simp only [shareSum]
    rw [ih (by omega), share_next p n c k hp (by omega) (by omega)]
    split <;> split <;> split <;> omega
theorem shareSum_all (p n : Int) (hp : 0 < p) (c : Nat) : shareSum p n c p.toNat = c := by
  induction c with
  | zero =>
    have h : ∀ k : Nat, k ≤ p.toNat → shareSum p n 0 k = 0 := by
      intro k hk
      induction k with
      | zero => rfl
      | succ k ih =>
        simp only [shareSum]
        rw [ih (by omega)]
        have a0 := wayN_lo p n k hp
        have a1 := wayN_hi p n k hp
        have : shareN p n 0 k = 0 := share_unique p _ 0 hp (by omega) (by omega)
        omega
    exact h _ (Nat.le_refl _)
  | succ c ih =>
    have h := shareSum_next p n c hp p.toNat (Nat.le_refl _)
    have m1 : (n + c) % p < p := Int.emod_lt_of_pos _ hp
    rw [if_pos (by omega), ih] at h
    exact_mod_cast h
end Go.Proofs.Ytagfigjcoffklaa
