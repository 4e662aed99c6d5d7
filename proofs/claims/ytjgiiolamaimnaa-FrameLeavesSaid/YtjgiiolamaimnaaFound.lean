/- The frames that stand one behind the other, as a plain list. -/
import Derived.Test.YtjgiiolamaimnaaPureG
namespace Go.Proofs.Ytjgiiolamaimnaa
set_option linter.unusedVariables false
set_option linter.unusedSimpArgs false
/-- The frame at a place: its payload, and the place behind it. -/
def nxt (b : List UInt8) (at_ : Nat) : Option (Nat × List UInt8) := if (rd (b.drop at_)).2.2 = 0 then some (at_ + (rd (b.drop at_)).1.length + 9, (rd (b.drop at_)).1) else none
def found (b : List UInt8) : Nat → Nat → List (Nat × List UInt8)
  | 0, _ => []
  | f + 1, at_ => match nxt b at_ with
    | none => []
    | some x => x :: found b f x.1
/-- All frames of some bytes: the place behind each, its payload. -/
def allF (b : List UInt8) : List (Nat × List UInt8) := found b (b.length + 1) 0
/-- The place behind the first k. -/
def posL (at_ : Nat) (l : List (Nat × List UInt8)) : Nat → Nat
  | 0 => at_
  | k + 1 => (l.getD k (0, [])).1
theorem rd_fits {b : List UInt8} (h : (rd b).2.2 = 0) : (rd b).1.length + 9 ≤ b.length := (frame_form h).2.2.1
theorem nxt_le {b : List UInt8} {at_ : Nat} {x : Nat × List UInt8} (h : nxt b at_ = some x) : at_ + 9 ≤ x.1 ∧ x.1 = at_ + x.2.length + 9 ∧ x.1 ≤ b.length := by
  unfold nxt at h
  split at h
  · rename_i h0
    have := rd_fits h0
    rw [List.length_drop] at this
    injection h with h
    subst h
    refine ⟨?_, rfl, ?_⟩ <;> simp only <;> omega
  · cases h
theorem found_spec (b : List UInt8) : ∀ (f at_ : Nat), at_ ≤ b.length → b.length < at_ + f → ∀ k, k ≤ (found b f at_).length →
    posL at_ (found b f at_) k ≤ b.length ∧ at_ + 9 * k ≤ posL at_ (found b f at_) k ∧ (k < (found b f at_).length → nxt b (posL at_ (found b f at_) k) = some ((found b f at_).getD k (0, []))) ∧ (k = (found b f at_).length → nxt b (posL at_ (found b f at_) k) = none)
  | 0, at_, h1, h2, k, hk => by omega
  | f + 1, at_, h1, h2, k, hk => by
    cases hn : nxt b at_ with
    | none =>
      have e : found b (f + 1) at_ = [] := by simp [found, hn]
      rw [e] at hk ⊢
      obtain rfl : k = 0 := by simpa using hk
      exact ⟨h1, by simp [posL], fun h => by simp at h, fun _ => hn⟩
    | some x =>
      have e : found b (f + 1) at_ = x :: found b f x.1 := by simp [found, hn]
      obtain ⟨l1, l2, l3⟩ := nxt_le hn
      rw [e] at hk ⊢
      cases k with
      | zero => exact ⟨h1, by simp [posL], fun _ => by simpa [posL] using hn, fun h => by simp at h⟩
      | succ k =>
        have hk' : k ≤ (found b f x.1).length := by simpa using hk
        have ih := found_spec b f x.1 l3 (by omega) k hk'
        have hp : posL at_ (x :: found b f x.1) (k + 1) = posL x.1 (found b f x.1) k := by cases k <;> simp [posL]
        rw [hp]
        refine ⟨ih.1, by have := ih.2.1; omega, fun h => ?_, fun h => ?_⟩
        · rw [List.getD_cons_succ]
          exact ih.2.2.1 (by simpa using h)
        · exact ih.2.2.2 (by simpa using h)
theorem allF_spec (b : List UInt8) (k : Nat) (hk : k ≤ (allF b).length) :
    posL 0 (allF b) k ≤ b.length ∧ 9 * k ≤ posL 0 (allF b) k ∧ (k < (allF b).length → nxt b (posL 0 (allF b) k) = some ((allF b).getD k (0, []))) ∧ (k = (allF b).length → nxt b (posL 0 (allF b) k) = none) := by
  have := found_spec b (b.length + 1) 0 (Nat.zero_le _) (by omega) k hk
  rw [Nat.zero_add] at this
  exact this
/-- What Read answers at the place of frame k, and behind the last one. -/
theorem allF_rd {b : List UInt8} {k : Nat} (hk : k < (allF b).length) : rd (b.drop (posL 0 (allF b) k)) = (((allF b).getD k (0, [])).2, (((allF b).getD k (0, [])).2.length : Int) + 9, 0) ∧ posL 0 (allF b) (k + 1) = posL 0 (allF b) k + ((allF b).getD k (0, [])).2.length + 9 := by
  have h := (allF_spec b k (Nat.le_of_lt hk)).2.2.1 hk
  unfold nxt at h
  split at h
  · rename_i h0
    injection h with h
    have h2 := (frame_form h0).2.1
    refine ⟨?_, ?_⟩
    · rw [← h]
      refine Prod.ext rfl (Prod.ext ?_ h0)
      exact h2
    · show ((allF b).getD k (0, [])).1 = _
      rw [← h]
  · cases h
theorem allF_end (b : List UInt8) : (rd (b.drop (posL 0 (allF b) (allF b).length))).2.2 ≠ 0 ∧ (rd (b.drop (posL 0 (allF b) (allF b).length))).1 = [] ∧ (rd (b.drop (posL 0 (allF b) (allF b).length))).2.1 = 0 := by
  have h := (allF_spec b (allF b).length (Nat.le_refl _)).2.2.2 rfl
  unfold nxt at h
  split at h
  · cases h
  · rename_i h0
    refine ⟨h0, ?_⟩
    rcases rd_cases (b.drop (posL 0 (allF b) (allF b).length)) with ⟨h1, h2, _⟩ | ⟨_, L, _, _, _, _, hr⟩
    · exact ⟨h1, h2⟩
    · rw [hr] at h0; exact absurd rfl h0
end Go.Proofs.Ytjgiiolamaimnaa
