/- Words for the document's list of which bytes are safe: the first s of n. -/
import Derived.Test.YtbfnmfakagdpfaaFoot
namespace Go.Proofs.Ytbfnmfakagdpfaa
open Go.RowKit
set_option linter.unusedVariables false
set_option linter.unusedSimpArgs false
/-- Of n bytes the first s are safe. -/
def sv (n s : Nat) : List Value := (List.range n).map fun j => Value.bool (decide (j < s))
theorem sv_length (n s : Nat) : (sv n s).length = n := by simp [sv]
theorem sv_at (n s j : Nat) (h : j < n) : (sv n s)[j]? = some (.bool (decide (j < s))) := by simp [sv, h]
theorem sv_one (n s : Nat) : ∀ u ∈ sv n s, u.oneCell' = true := by
  intro u hu
  obtain ⟨b, _, rfl⟩ := List.mem_map.1 hu
  rfl
theorem sv_push (n s : Nat) (h : s ≤ n) : sv n s ++ [.bool false] = sv (n + 1) s := by
  unfold sv
  rw [List.range_succ, List.map_append]
  simp [show ¬ n < s by omega]
theorem sv_set (n s : Nat) : (sv n s).set s (.bool true) = sv n (s + 1) := by
  refine List.ext_getElem? fun j => ?_
  by_cases hj : j < n
  · rw [sv_at _ _ _ hj]
    by_cases e : j = s
    · subst e
      rw [List.getElem?_set_self (by rw [sv_length]; exact hj)]
      simp
    · rw [List.getElem?_set_ne (by omega), sv_at _ _ _ hj]
      congr 2
      rw [decide_eq_decide]
      omega
  · rw [List.getElem?_eq_none (by simp [sv]; omega), List.getElem?_eq_none (by simp [sv]; omega)]
theorem sv_set_low (n s i : Nat) (h : i < s) : (sv n s).set i (.bool true) = sv n s := by
  refine List.ext_getElem? fun j => ?_
  by_cases hj : j < n
  · rw [sv_at _ _ _ hj]
    by_cases e : j = i
    · subst e
      rw [List.getElem?_set_self (by rw [sv_length]; exact hj)]
      simp [h]
    · rw [List.getElem?_set_ne (by omega), sv_at _ _ _ hj]
  · rw [List.getElem?_eq_none (by simp [sv]; omega), List.getElem?_eq_none (by simp [sv]; omega)]
/-- Setting one by one. -/
theorem sv_step (n s i : Nat) : (sv n (max i s)).set i (.bool true) = sv n (max (i + 1) s) := by
  by_cases h : i < s
  · rw [show max i s = s by omega, show max (i + 1) s = s by omega, sv_set_low n s i h]
  · rw [show max i s = i by omega, show max (i + 1) s = i + 1 by omega, sv_set]
theorem sv_take (n s k : Nat) (h : k ≤ n) : (sv n s).take k = sv k s := by
  unfold sv
  rw [← List.map_take, List.take_range, Nat.min_eq_left h]
theorem sv_min (n s : Nat) : sv n (min s n) = sv n s := by
  unfold sv
  refine List.map_congr_left fun j hj => ?_
  have := List.mem_range.1 hj
  congr 1
  rw [decide_eq_decide]
  omega
def Safes (w : World) (A : Option Addr) (n s : Nat) : Prop :=
  n ≤ 281474976710656 ∧ (n = 0 ∨ ∃ b o, A = some ⟨b, o, none⟩ ∧ ∀ j, j < n → w.cell? ⟨b, o + j, none⟩ = some (.bool (decide (j < s))))
theorem Safes.at_ {w : World} {A : Option Addr} {n s : Nat} (h : Safes w A n s) (k : Nat) (hk : k < n) : ∃ b o, A = some ⟨b, o, none⟩ ∧ w.cell? ⟨b, o + k, none⟩ = some (.bool (decide (k < s))) := by
  rcases h.2 with h0 | ⟨b, o, hA, hc⟩
  · omega
  · exact ⟨b, o, hA, hc k hk⟩
theorem Safes.chg {F : Nat → Prop} {w w' : World} {A : Option Addr} {n s : Nat} (h : Safes w A n s) (hc : Chg F w w') (hn : ∀ k, blkO A = some k → ¬ F k) : Safes w' A n s := by
  refine ⟨h.1, ?_⟩
  rcases h.2 with h0 | ⟨b, o, rfl, hcell⟩
  · exact .inl h0
  · exact .inr ⟨b, o, rfl, fun j hj => hc.cell (hcell j hj) (hn b rfl)⟩
theorem Safes.below {w w' : World} {A : Option Addr} {n s : Nat} (h : Safes w A n s) (hb : Below w.heap.size w w') : Safes w' A n s := h.chg (chg_below hb (fun _ => False)) (fun _ _ e => e)
theorem Safes.rdc {w : World} {A : Option Addr} {n s : Nat} (h : Safes w A n s) : RdC w A (n * 1) (sv n s) := by
  refine ⟨by rw [sv_length, Nat.mul_one], fun j u hj => ?_⟩
  have hlt : j < n := by have := (List.getElem?_eq_some_iff.1 hj).1; rwa [sv_length] at this
  rw [sv_at n s j hlt] at hj
  obtain ⟨b, o, hA, hc⟩ := h.at_ j hlt
  exact ⟨_, hA, by rw [add_plain, hc]; exact hj⟩
theorem own_safes {w : World} {B : Nat} {e : TypeId} {n c : Nat} {A : Option Addr} {s : Nat} (h : w.ownsRow B e 1 (.slice A n c) n (sv n s)) (hn : n ≤ 281474976710656) : Safes w A n s := by
  refine ⟨hn, ?_⟩
  rcases h.2 with ⟨h0, rfl⟩ | ⟨g, cap, cur, h0, _⟩
  · exact .inl rfl
  · injection h0 with h0 h1 h2
    subst h0
    refine .inr ⟨g, 0, rfl, fun j hj => ?_⟩
    have := h.cells (g := g) rfl j _ (sv_at n s j hj)
    rwa [add_plain] at this
theorem Safes.take {w : World} {A : Option Addr} {n s : Nat} (h : Safes w A n s) (k : Nat) (hk : k ≤ n) : Safes w A k s := by
  refine ⟨by have := h.1; omega, ?_⟩
  rcases h.2 with h0 | ⟨b, o, hA, hc⟩
  · exact .inl (by omega)
  · exact .inr ⟨b, o, hA, fun j hj => hc j (by omega)⟩
theorem Safes.drop {w : World} {b o n s : Nat} (h : Safes w (some ⟨b, o, none⟩) n s) (k : Nat) (hk : k ≤ n) : Safes w (some ⟨b, o + k, none⟩) (n - k) (s - k) := by
  refine ⟨by have := h.1; omega, ?_⟩
  rcases h.2 with h0 | ⟨b', o', hA, hc⟩
  · exact .inl (by omega)
  · injection hA with hA
    injection hA with h1 h2
    subst h1; subst h2
    refine .inr ⟨b, o + k, rfl, fun j hj => ?_⟩
    rw [Nat.add_assoc, hc (k + j) (by omega)]
    congr 2
    rw [decide_eq_decide]
    omega
theorem Safes.empty (w : World) (A : Option Addr) (s : Nat) : Safes w A 0 s := ⟨by omega, .inl rfl⟩
theorem Safes.min {w : World} {A : Option Addr} {n s : Nat} (h : Safes w A n s) : Safes w A n (min s n) := by
  refine ⟨h.1, ?_⟩
  rcases h.2 with h0 | ⟨b, o, hA, hc⟩
  · exact .inl h0
  · refine .inr ⟨b, o, hA, fun j hj => ?_⟩
    rw [hc j hj]
    congr 2
    rw [decide_eq_decide]
    omega
end Go.Proofs.Ytbfnmfakagdpfaa
