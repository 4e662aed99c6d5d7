/- What is safe stays: the plain law. -/
import Derived.Test.YtodaplkijdjbpaaApt
namespace Go.Proofs.Ytodaplkijdjbpaa
open Go.RowKit
set_option linter.unusedVariables false
set_option linter.unusedSimpArgs false
/-- What was safe of each area is still in front of what is. -/
def SInv (P : Pd) (S : Nat → List UInt8) : Prop := ∀ i, i < P.n → ∃ t, (P.p i).bs.take (P.p i).safe = S i ++ t
theorem inv_op {P : Pd} {S : Nat → List UInt8} (h : SInv P S) (i : Int) (f : Pa → Option Pa) (hf : ∀ j, j < P.n → ∀ a, f (P.p j) = some a → ∃ t, a.bs.take a.safe = (P.p j).bs.take (P.p j).safe ++ t) : SInv (P.op i f).1 S := by
  unfold Pd.op
  split
  · exact h
  · rename_i hi
    split
    · exact h
    · split
      · exact h
      · rename_i a ha
        intro j hj
        have hj' : j < P.n := hj
        by_cases e : j = i.toNat
        · subst e
          simp only [Pd.set, upd_same]
          obtain ⟨t, ht⟩ := hf _ hj' a ha
          obtain ⟨t2, ht2⟩ := h _ hj'
          exact ⟨t2 ++ t, by rw [ht, ht2, List.append_assoc]⟩
        · simp only [Pd.set, upd_other _ _ _ _ e]
          exact h j hj'
theorem crash_safe (a : Pa) (f : Ft) (hs : a.safe ≤ a.bs.length) : (a.crash f).safe = (a.crash f).bs.length ∧ ∃ t, (a.crash f).bs = a.bs.take a.safe ++ t := by
  have hk := crashK_le a.bs.length a.safe f.k hs
  have hl := crashB_length a.bs a.safe (crashK a.bs.length a.safe f.k) f.t hk
  refine ⟨by simp only [Pa.crash]; rw [hl], ?_⟩
  simp only [Pa.crash]
  generalize crashK a.bs.length a.safe f.k = kp at *
  have e : (crashB a.bs a.safe kp f.t).take a.safe = a.bs.take a.safe := by
    unfold crashB
    split
    · rw [List.take_take, Nat.min_self]
    · rw [List.take_set_of_le (by omega), List.take_take, Nat.min_eq_left (by omega)]
  exact ⟨(crashB a.bs a.safe kp f.t).drop a.safe, by rw [← e, List.take_append_drop]⟩
theorem inv_strike {P : Pd} {S : Nat → List UInt8} {K : Nat} (h : SInv P S) (hl : P.lim K) : SInv P.strike S ∧ ∀ j, j < P.n → (P.strike.p j).safe = (P.strike.p j).bs.length := by
  refine ⟨fun j hj => ?_, fun j hj => ?_⟩
  · have hj' : j < P.n := hj
    obtain ⟨h1, t, h2⟩ := crash_safe (P.p j) (P.fate (P.p j)) (hl.a j hj').s
    obtain ⟨t2, h3⟩ := h j hj'
    simp only [Pd.strike, Pa.arm]
    rw [h1, List.take_length, h2, h3]
    exact ⟨t2 ++ t, by rw [List.append_assoc]⟩
  · simp only [Pd.strike, Pa.arm]
    exact (crash_safe (P.p j) (P.fate (P.p j)) (hl.a j hj).s).1
theorem inv_arm {P : Pd} {S : Nat → List UInt8} (h : SInv P S) (fs : List Ft) (b : Bool) : SInv (P.arm fs b) S := h
theorem inv_step {P : Pd} {S : Nat → List UInt8} {K : Nat} (h : SInv P S) (hl : P.lim K) (s : Ps) (h2 : s.k ≠ 2) (h3 : s.k ≠ 3) : SInv (P.step s) S := by
  unfold Pd.step
  split
  · refine inv_op h _ _ (fun j hj a ha => ?_)
    unfold Pa.append at ha
    injection ha with ha
    subst ha
    have := (hl.a j hj).s
    exact ⟨[], by simp only [List.append_nil]; rw [List.take_append_of_le_length this]⟩
  · split
    · refine inv_op h _ _ (fun j hj a ha => ?_)
      unfold Pa.sync at ha
      injection ha with ha
      subst ha
      exact ⟨(P.p j).bs.drop (P.p j).safe, by simp only [List.take_length]; rw [List.take_append_drop]⟩
    · split
      · exact inv_arm h _ _
      · split
        · exact (inv_strike h hl).1
        · exact h
/-- What was safe is replaced by all there is. -/
theorem inv_set {P : Pd} {S : Nat → List UInt8} (h : SInv P S) (i : Nat) (hs : (P.p i).safe = (P.p i).bs.length) : SInv P (upd S i (P.p i).bs) := by
  intro j hj
  by_cases e : j = i
  · subst e; rw [upd_same, hs, List.take_length]; exact ⟨[], by simp⟩
  · rw [upd_other _ _ _ _ e]; exact h j hj
/-- A sync that was done. -/
theorem sync_done {P : Pd} {s : Ps} (hk : s.k = 1) (he : (P.told s).e = 0) : ∃ j : Nat, s.i = j ∧ j < P.n ∧ ((P.step s).p j).safe = ((P.step s).p j).bs.length := by
  unfold Pd.told at he
  rw [if_neg (by omega), if_pos hk] at he
  unfold Pd.step
  rw [if_neg (by omega), if_pos hk]
  simp only at he
  unfold Pd.op at he ⊢
  split at he
  · simp at he
  · rename_i hi
    rw [if_neg hi]
    split at he
    · simp at he
    · rename_i hd
      rw [if_neg hd]
      refine ⟨s.i.toNat, by omega, by omega, ?_⟩
      simp only [Pa.sync, Pd.set, upd_same]
theorem pre_take {xs S t : List UInt8} {n : Nat} (h : xs.take n = S ++ t) : S.length ≤ xs.length ∧ xs.take S.length = S := by
  have hl : S.length ≤ n := by
    have := congrArg List.length h
    rw [List.length_take, List.length_append] at this
    omega
  have hl2 : S.length ≤ xs.length := by
    have := congrArg List.length h
    rw [List.length_take, List.length_append] at this
    omega
  refine ⟨hl2, ?_⟩
  have := congrArg (List.take S.length) h
  rwa [List.take_take, Nat.min_eq_left hl, List.take_left' rfl] at this
end Go.Proofs.Ytodaplkijdjbpaa
