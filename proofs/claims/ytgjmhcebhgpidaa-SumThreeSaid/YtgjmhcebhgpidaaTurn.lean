/- Bytes with some bits turned, as plain mathematics. -/
import Derived.Test.YtgjmhcebhgpidaaCrc
namespace Go.Proofs.Ytgjmhcebhgpidaa.Crc
/-- os is bs with those bits of the first k places behind a turned that s names; t: whether any was. -/
def Turned (bs : List UInt8) (a : Int) (s : R) (k : Nat) (os : List UInt8) (t : Bool) : Prop :=
  os.length = bs.length ∧
  (∀ p : Nat, p < 8 * bs.length → bitOf os p = (bitOf bs p ^^ (decide (0 ≤ a ∧ a ≤ p ∧ (p : Int) < a + k) && s.getLsbD ((p : Int) - a).toNat))) ∧
  (t = true ↔ ∃ i : Nat, i < k ∧ s.getLsbD i = true ∧ 0 ≤ a ∧ a + i < 8 * bs.length)
theorem Turned.start (bs : List UInt8) (a : Int) (s : R) : Turned bs a s 0 bs false := by
  refine ⟨rfl, fun p hp => ?_, by simp⟩
  have : ¬ (0 ≤ a ∧ a ≤ p ∧ (p : Int) < a + (0 : Nat)) := by omega
  simp only [this, decide_false, Bool.false_and, Bool.xor_false]
theorem Turned.skip {bs : List UInt8} {a : Int} {s : R} {k : Nat} {os : List UInt8} {t : Bool} (h : Turned bs a s k os t) (hs : s.getLsbD k = false ∨ a < 0 ∨ ¬ (a + k < 8 * bs.length)) : Turned bs a s (k + 1) os t := by
  obtain ⟨h1, h2, h3⟩ := h
  refine ⟨h1, fun p hp => ?_, ?_⟩
  · rw [h2 p hp]
    congr 1
    by_cases e : (p : Int) = a + k
    · have e1 : ((p : Int) - a).toNat = k := by omega
      rw [e1]
      rcases hs with hs | hs | hs
      · rw [hs]; simp
      · have n1 : ¬ (0 ≤ a ∧ a ≤ p ∧ (p : Int) < a + k) := by omega
        have n2 : ¬ (0 ≤ a ∧ a ≤ p ∧ (p : Int) < a + (k + 1 : Nat)) := by omega
        simp only [n1, n2]
      · omega
    · have : (0 ≤ a ∧ a ≤ p ∧ (p : Int) < a + k) ↔ (0 ≤ a ∧ a ≤ p ∧ (p : Int) < a + (k + 1 : Nat)) := by omega
      simp only [this]
  · rw [h3]
    constructor
    · rintro ⟨i, hi, x⟩
      exact ⟨i, by omega, x⟩
    · rintro ⟨i, hi, x, y, z⟩
      refine ⟨i, ?_, x, y, z⟩
      by_cases e : i = k
      · subst e
        rcases hs with hs | hs | hs
        · rw [hs] at x; cases x
        · omega
        · omega
      · omega
theorem flip_bit (x : UInt8) (j i : Nat) (hj : j < 8) : (UInt8.ofNat (x.toNat ^^^ 2 ^ j)).toNat.testBit i = (x.toNat.testBit i ^^ decide (i = j)) := by
  have hx := x.toNat_lt
  have h2 : (2 : Nat) ^ j < 2 ^ 8 := Nat.pow_lt_pow_right (by omega) hj
  have hlt : x.toNat ^^^ 2 ^ j < 2 ^ 8 := Nat.xor_lt_two_pow hx h2
  rw [UInt8.toNat_ofNat', Nat.mod_eq_of_lt hlt, Nat.testBit_xor, Nat.testBit_two_pow]
  congr 1
  simp [eq_comm]
theorem Turned.turn {bs : List UInt8} {a : Nat} {s : R} {k : Nat} {os : List UInt8} {t : Bool} (h : Turned bs (a : Int) s k os t) (hs : s.getLsbD k = true) (ha : a + k < 8 * bs.length) :
    Turned bs (a : Int) s (k + 1) (os.set ((a + k) / 8) (UInt8.ofNat ((os.getD ((a + k) / 8) 0).toNat ^^^ 2 ^ ((a + k) % 8)))) true := by
  obtain ⟨h1, h2, h3⟩ := h
  have hlt : (a + k) / 8 < os.length := by omega
  refine ⟨by simpa using h1, fun p hp => ?_, ?_⟩
  · have hb : bitOf (os.set ((a + k) / 8) (UInt8.ofNat ((os.getD ((a + k) / 8) 0).toNat ^^^ 2 ^ ((a + k) % 8)))) p = (bitOf os p ^^ decide (p = a + k)) := by
      unfold bitOf
      by_cases e : p / 8 = (a + k) / 8
      · rw [e]
        have : (os.set ((a + k) / 8) (UInt8.ofNat ((os.getD ((a + k) / 8) 0).toNat ^^^ 2 ^ ((a + k) % 8)))).getD ((a + k) / 8) 0 = UInt8.ofNat ((os.getD ((a + k) / 8) 0).toNat ^^^ 2 ^ ((a + k) % 8)) := by
          rw [List.getD_eq_getElem?_getD, List.getElem?_set_self hlt]; rfl
        rw [this, flip_bit _ _ _ (Nat.mod_lt _ (by omega))]
        congr 1
        rw [decide_eq_decide]
        omega
      · have : (os.set ((a + k) / 8) (UInt8.ofNat ((os.getD ((a + k) / 8) 0).toNat ^^^ 2 ^ ((a + k) % 8)))).getD (p / 8) 0 = os.getD (p / 8) 0 := by
          rw [List.getD_eq_getElem?_getD, List.getElem?_set_ne (fun h => e h.symm), List.getD_eq_getElem?_getD]
        rw [this]
        have : decide (p = a + k) = false := by simp; rintro rfl; exact e rfl
        rw [this]; simp
    rw [hb, h2 p hp]
    by_cases e : p = a + k
    · subst e
      have n2 : (0 ≤ (a : Int) ∧ (a : Int) ≤ (a + k : Nat) ∧ ((a + k : Nat) : Int) < a + (k + 1 : Nat)) := by omega
      have e1 : (((a + k : Nat) : Int) - a).toNat = k := by omega
      simp only [n2, e1, hs]
      simp
    · have : (0 ≤ (a : Int) ∧ (a : Int) ≤ p ∧ (p : Int) < a + k) ↔ (0 ≤ (a : Int) ∧ (a : Int) ≤ p ∧ (p : Int) < a + (k + 1 : Nat)) := by omega
      simp only [this, e, decide_false, Bool.xor_false]
  · simp only [true_iff]
    exact ⟨k, by omega, hs, by omega, by omega⟩
theorem Turned.unlike {bs : List UInt8} {a : Int} {s : R} {os : List UInt8} (h : Turned bs a s 32 os true) : more 0 bs ≠ more 0 os := by
  obtain ⟨h1, h2, h3⟩ := h
  obtain ⟨i, hi, hsi, ha, hai⟩ := h3.1 rfl
  obtain ⟨n, rfl⟩ := Int.eq_ofNat_of_zero_le ha
  obtain ⟨k, hk, hk2, hk3⟩ : ∃ k, k ≤ 32 ∧ n + k ≤ 8 * bs.length ∧ (k = 32 ∨ n + k = 8 * bs.length) := by
    by_cases h : n + 32 ≤ 8 * bs.length
    · exact ⟨32, by omega, h, .inl rfl⟩
    · exact ⟨8 * bs.length - n, by omega, by omega, .inr (by omega)⟩
  refine tells bs os n k h1.symm hk hk2 s ?_ i (by omega) hsi 0
  intro p hp
  rw [h2 p hp]
  have e1 : ((p : Int) - (n : Nat)).toNat = p - n := by omega
  rw [e1, ← Bool.xor_assoc, Bool.xor_self, Bool.false_xor]
  congr 1
  rw [← Bool.decide_and]
  rw [decide_eq_decide]
  omega
end Go.Proofs.Ytgjmhcebhgpidaa.Crc
