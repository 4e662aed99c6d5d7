/- A row of frames, cut somewhere: which frames lie in it. -/
import Derived.Test.YtjgiiolamaimnaaFound
namespace Go.Proofs.Ytjgiiolamaimnaa
set_option linter.unusedVariables false
set_option linter.unusedSimpArgs false
/-- If a walk from frame to frame is known, it is the list of all frames. -/
theorem allF_unique {b : List UInt8} (N : Nat) (pos : Nat → Nat) (pay : Nat → List UInt8) (h0 : pos 0 = 0) (hs : ∀ k, k < N → nxt b (pos k) = some (pos (k + 1), pay k)) (he : nxt b (pos N) = none) :
    (allF b).length = N ∧ (∀ k, k ≤ N → posL 0 (allF b) k = pos k) ∧ ∀ k, k < N → (allF b).getD k (0, []) = (pos (k + 1), pay k) := by
  have hp : ∀ k, k ≤ N → k ≤ (allF b).length → posL 0 (allF b) k = pos k := by
    intro k
    induction k with
    | zero => intro _ _; rw [h0]; rfl
    | succ k ih =>
      intro h1 h2
      have e := ih (by omega) (by omega)
      have s := (allF_spec b k (by omega)).2.2.1 (by omega)
      rw [e, hs k (by omega)] at s
      injection s with s
      show ((allF b).getD k (0, [])).1 = _
      rw [← s]
  have hN : (allF b).length = N := by
    rcases Nat.lt_trichotomy (allF b).length N with h | h | h
    · have s := (allF_spec b _ (Nat.le_refl _)).2.2.2 rfl
      rw [hp _ (by omega) (Nat.le_refl _), hs _ h] at s
      cases s
    · exact h
    · have s := (allF_spec b N (by omega)).2.2.1 h
      rw [hp N (Nat.le_refl _) (by omega), he] at s
      cases s
  refine ⟨hN, fun k hk => hp k hk (by omega), fun k hk => ?_⟩
  have s := (allF_spec b k (by omega)).2.2.1 (by omega)
  rw [hp k (by omega) (by omega), hs k hk] at s
  injection s with s
  exact s.symm
/-- The frames of the first k payloads. -/
def rowB (bss : List (List UInt8)) (k : Nat) : List UInt8 := ((bss.take k).map frameB).flatten
def endB (bss : List (List UInt8)) (k : Nat) : Nat := (rowB bss k).length
theorem rowB_zero (bss : List (List UInt8)) : rowB bss 0 = [] := rfl
theorem rowB_succ (bss : List (List UInt8)) (k : Nat) (h : k < bss.length) : rowB bss (k + 1) = rowB bss k ++ frameB (bss.getD k []) := by
  have e : bss.getD k [] = bss[k] := by simp [List.getD_eq_getElem?_getD, h]
  unfold rowB
  rw [List.take_succ_eq_append_getElem h, e, List.map_append, List.flatten_append]
  simp
theorem endB_succ (bss : List (List UInt8)) (k : Nat) (h : k < bss.length) : endB bss (k + 1) = endB bss k + ((bss.getD k []).length + 9) := by
  unfold endB
  rw [rowB_succ bss k h, List.length_append, frameB_length]
theorem rowB_split (bss : List (List UInt8)) (n k : Nat) (hk : k ≤ n) (hn : n ≤ bss.length) : ∃ T, rowB bss n = rowB bss k ++ T := by
  induction n with
  | zero => obtain rfl : k = 0 := by omega
            exact ⟨[], by simp [rowB_zero]⟩
  | succ n ih =>
    by_cases e : k = n + 1
    · subst e; exact ⟨[], by simp⟩
    · obtain ⟨T, hT⟩ := ih (by omega) (by omega)
      exact ⟨T ++ frameB (bss.getD n []), by rw [rowB_succ bss n (by omega), hT, List.append_assoc]⟩
theorem endB_mono (bss : List (List UInt8)) (n k : Nat) (hk : k ≤ n) (hn : n ≤ bss.length) : endB bss k ≤ endB bss n := by
  obtain ⟨T, hT⟩ := rowB_split bss n k hk hn
  unfold endB
  rw [hT, List.length_append]
  omega
theorem rowB_drop (bss : List (List UInt8)) (k : Nat) (hk : k < bss.length) : ∃ T, (rowB bss bss.length).drop (endB bss k) = frameB (bss.getD k []) ++ T := by
  obtain ⟨T, hT⟩ := rowB_split bss bss.length (k + 1) hk (Nat.le_refl _)
  refine ⟨T, ?_⟩
  rw [hT, rowB_succ bss k hk, List.append_assoc]
  exact List.drop_left
/-- Which frames lie whole in the first 'left' bytes of the row. -/
theorem allF_row (bss : List (List UInt8)) (h65 : ∀ k, k < bss.length → (bss.getD k []).length ≤ 65536) (left W : Nat) (hl : left ≤ endB bss bss.length) (hW : W ≤ bss.length)
    (hw : ∀ k, k < W → endB bss (k + 1) ≤ left) (hx : W = bss.length ∨ left < endB bss (W + 1)) :
    (allF ((rowB bss bss.length).take left)).length = W ∧ (∀ k, k ≤ W → posL 0 (allF ((rowB bss bss.length).take left)) k = endB bss k) ∧
      ∀ k, k < W → (allF ((rowB bss bss.length).take left)).getD k (0, []) = (endB bss (k + 1), bss.getD k []) := by
  refine allF_unique W (endB bss) (fun k => bss.getD k []) rfl (fun k hk => ?_) ?_
  · obtain ⟨T, hT⟩ := rowB_drop bss k (by omega)
    have h1 := hw k hk
    have h2 := endB_succ bss k (by omega)
    have e : ((rowB bss bss.length).take left).drop (endB bss k) = frameB (bss.getD k []) ++ T.take (left - endB bss (k + 1)) := by
      rw [List.drop_take, hT, List.take_append, frameB_length]
      congr 1
      · exact List.take_of_length_le (by rw [frameB_length]; omega)
      · congr 1; omega
    unfold nxt
    rw [e, frame_back _ _ (h65 k (by omega))]
    simp only [if_true]
    rw [h2, Nat.add_assoc]
  · have herr : (rd (((rowB bss bss.length).take left).drop (endB bss W))).2.2 ≠ 0 := by
      by_cases hWn : W = bss.length
      · have e : (((rowB bss bss.length).take left).drop (endB bss W)).length = 0 := by
          rw [List.length_drop, List.length_take, hWn]
          unfold endB at hl ⊢
          omega
        rw [rd_0 e]
        decide
      · have hx := hx.resolve_left hWn
        have h2 := endB_succ bss W (by omega)
        obtain ⟨T, hT⟩ := rowB_drop bss W (by omega)
        have e : ((rowB bss bss.length).take left).drop (endB bss W) = (frameB (bss.getD W [])).take (left - endB bss W) := by
          rw [List.drop_take, hT, List.take_append_of_le_length (by rw [frameB_length]; omega)]
        rw [e, frame_cut _ _ (h65 W (by omega)) (by omega)]
        decide
    unfold nxt
    rw [if_neg herr]
theorem whole_ex (bss : List (List UInt8)) (left m : Nat) : ∃ W, W ≤ m ∧ (∀ k, k < W → endB bss (k + 1) ≤ left) ∧ (W = m ∨ left < endB bss (W + 1)) := by
  induction m with
  | zero => exact ⟨0, Nat.le_refl _, fun k hk => by omega, .inl rfl⟩
  | succ m ih =>
    obtain ⟨W, h1, h2, h3⟩ := ih
    rcases h3 with rfl | h3
    · by_cases e : endB bss (W + 1) ≤ left
      · refine ⟨W + 1, Nat.le_refl _, fun k hk => ?_, .inl rfl⟩
        by_cases hk' : k < W
        · exact h2 k hk'
        · obtain rfl : k = W := by omega
          exact e
      · exact ⟨W, by omega, h2, .inr (by omega)⟩
    · exact ⟨W, by omega, h2, .inr h3⟩
/-- The ends of the first k frames. -/
def endsL (bss : List (List UInt8)) (k : Nat) : List Int := (List.range k).map fun j => ((endB bss (j + 1) : Nat) : Int)
theorem endsL_succ (bss : List (List UInt8)) (k : Nat) : endsL bss (k + 1) = endsL bss k ++ [((endB bss (k + 1) : Nat) : Int)] := by
  unfold endsL
  rw [List.range_succ, List.map_append]
  rfl
theorem endsL_length (bss : List (List UInt8)) (k : Nat) : (endsL bss k).length = k := by simp [endsL]
theorem endsL_at (bss : List (List UInt8)) (k j : Nat) (h : j < k) : (endsL bss k).getD j 0 = ((endB bss (j + 1) : Nat) : Int) := by
  simp [endsL, List.getD_eq_getElem?_getD, h]
end Go.Proofs.Ytjgiiolamaimnaa
