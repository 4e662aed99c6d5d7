/- The sum CRC-32 as plain mathematics: registers, steps, bursts. -/
namespace Go.Proofs.Ytgjmhcebhgpidaa
set_option linter.unusedVariables false
set_option linter.unusedSimpArgs false
namespace Crc
abbrev R := BitVec 32
def poly : R := 0xEDB88320#32
def step (v : R) : R := if v.getLsbD 0 then (v >>> 1) ^^^ poly else v >>> 1
def steps : Nat → R → R
  | 0, v => v
  | n + 1, v => step (steps n v)
theorem step_xor (a b : R) : step (a ^^^ b) = step a ^^^ step b := by
  unfold step
  have h : (a ^^^ b) >>> 1 = a >>> 1 ^^^ b >>> 1 := BitVec.ushiftRight_xor_distrib ..
  rw [h, BitVec.getLsbD_xor]
  have e : a >>> 1 ^^^ poly ^^^ (b >>> 1 ^^^ poly) = a >>> 1 ^^^ b >>> 1 ^^^ (poly ^^^ poly) := by ac_rfl
  cases a.getLsbD 0 <;> cases b.getLsbD 0
  · simp
  · simp; ac_rfl
  · simp; ac_rfl
  · simp; rw [e]; simp
theorem steps_xor (n : Nat) (a b : R) : steps n (a ^^^ b) = steps n a ^^^ steps n b := by
  induction n with
  | zero => rfl
  | succ n ih => simp only [steps, ih, step_xor]
theorem steps_add (m n : Nat) (v : R) : steps (m + n) v = steps m (steps n v) := by
  induction m with
  | zero => simp [steps]
  | succ m ih => rw [Nat.succ_add]; simp only [steps, ih]
theorem step_zero : step 0 = 0 := by decide
theorem steps_zero (n : Nat) : steps n 0 = 0 := by
  induction n with
  | zero => rfl
  | succ n ih => simp only [steps, ih, step_zero]
theorem step_ne (v : R) (h : v ≠ 0) : step v ≠ 0 := by
  intro hs
  unfold step at hs
  split at hs
  · have h1 : ((v >>> 1) ^^^ poly).getLsbD 31 = false := by rw [hs]; rfl
    simp [poly] at h1
  · rename_i h0
    apply h
    ext i hi
    by_cases e : i = 0
    · subst e; simpa using h0
    · have h1 : (v >>> 1).getLsbD (i - 1) = false := by rw [hs]; simp
      simp only [BitVec.getLsbD_ushiftRight] at h1
      rw [show 1 + (i - 1) = i by omega] at h1
      simpa [← BitVec.getLsbD_eq_getElem] using h1
theorem steps_ne (n : Nat) (v : R) (h : v ≠ 0) : steps n v ≠ 0 := by
  induction n with
  | zero => exact h
  | succ n ih => exact step_ne _ ih

/-- one bit goes in -/
def bstep (v : R) (b : Bool) : R := step (v ^^^ if b then 1#32 else 0#32)
def reg (v : R) (f : Nat → Bool) : Nat → R
  | 0 => v
  | n + 1 => bstep (reg v f n) (f n)
theorem bstep_xor (v w : R) (b c : Bool) : bstep (v ^^^ w) (b ^^ c) = bstep v b ^^^ bstep w c := by
  unfold bstep
  rw [← step_xor]
  congr 1
  cases b <;> cases c <;> simp <;> try ac_rfl
  have e : (v ^^^ 1#32) ^^^ (w ^^^ 1#32) = v ^^^ w ^^^ (1#32 ^^^ 1#32) := by ac_rfl
  rw [e]; simp
theorem reg_xor (v w : R) (f g : Nat → Bool) (n : Nat) : reg (v ^^^ w) (fun i => f i ^^ g i) n = reg v f n ^^^ reg w g n := by
  induction n with
  | zero => rfl
  | succ n ih => simp only [reg, ih, bstep_xor]
theorem reg_congr (v : R) (f g : Nat → Bool) (n : Nat) (h : ∀ i, i < n → f i = g i) : reg v f n = reg v g n := by
  induction n with
  | zero => rfl
  | succ n ih => simp only [reg]; rw [ih (fun i hi => h i (by omega)), h n (by omega)]
theorem reg_add (v : R) (f : Nat → Bool) (m n : Nat) : reg v f (m + n) = reg (reg v f m) (fun i => f (m + i)) n := by
  induction n with
  | zero => rfl
  | succ n ih => rw [← Nat.add_assoc]; simp only [reg, ih]
theorem reg_quiet (v : R) (f : Nat → Bool) (n : Nat) (h : ∀ i, i < n → f i = false) : reg v f n = steps n v := by
  induction n with
  | zero => rfl
  | succ n ih => simp only [reg, steps]; rw [ih (fun i hi => h i (by omega)), h n (by omega)]; simp [bstep]
theorem one_through : ∀ k, k < 32 → steps k (1#32 <<< k) = 1#32 := by decide +kernel
/-- the lowest k bits of m -/
def low (m : R) : Nat → R
  | 0 => 0
  | k + 1 => low m k ^^^ (if m.getLsbD k then 1#32 <<< k else 0#32)
theorem reg_low (v m : R) (k : Nat) (hk : k ≤ 32) : reg v (fun i => m.getLsbD i) k = steps k (v ^^^ low m k) := by
  induction k with
  | zero => simp [reg, steps, low]
  | succ k ih =>
    simp only [reg, low, steps, bstep]
    rw [ih (by omega), ← BitVec.xor_assoc, steps_xor k (v ^^^ low m k)]
    congr 2
    by_cases h : m.getLsbD k = true
    · rw [if_pos h, if_pos h]; exact (one_through k (by omega)).symm
    · rw [if_neg h, if_neg h]; exact (steps_zero k).symm
theorem low_bit (m : R) (k i : Nat) (hk : k ≤ 32) : (low m k).getLsbD i = (decide (i < k) && m.getLsbD i) := by
  induction k with
  | zero => simp [low]
  | succ k ih =>
    simp only [low, BitVec.getLsbD_xor, ih (by omega)]
    by_cases e : i = k
    · subst e
      cases h : m.getLsbD i <;> simp
      omega
    · cases h : m.getLsbD k
      · have : decide (i < k + 1) = decide (i < k) := by simp; omega
        simp [this]
      · have : decide (i < k + 1) = decide (i < k) := by simp; omega
        simp only [this, if_true, BitVec.getLsbD_shiftLeft]
        by_cases h2 : i < k
        · simp [h2]
        · have : i - k ≠ 0 := by omega
          simp [h2]
          omega
/-- a burst of at most 32 bits is seen -/
theorem burst (e : Nat → Bool) (at_ k m : Nat) (hk : k ≤ 32) (mask : R) (h0 : ∀ i, i < at_ → e i = false) (h1 : ∀ i, i < k → e (at_ + i) = mask.getLsbD i) (h2 : ∀ i, i < m → e (at_ + k + i) = false)
    (j : Nat) (hj : j < k) (hjm : mask.getLsbD j = true) : reg 0 e (at_ + k + m) ≠ 0 := by
  rw [reg_add, reg_add, reg_quiet _ e at_ h0, steps_zero, reg_quiet _ _ m h2]
  apply steps_ne
  rw [reg_congr _ _ (fun i => mask.getLsbD i) k h1, reg_low _ _ k hk]
  apply steps_ne
  intro h
  have := congrArg (fun x => x.getLsbD j) h
  simp [low_bit mask k j hk, hj, hjm] at this

theorem steps_shift (v : R) (k : Nat) (h : ∀ i, i < k → v.getLsbD i = false) : steps k v = v >>> k := by
  induction k with
  | zero => simp [steps]
  | succ k ih =>
    simp only [steps]
    rw [ih (fun i hi => h i (by omega))]
    unfold step
    rw [if_neg (by simp [h k (by omega)]), ← BitVec.shiftRight_add]
theorem nib (r : R) : steps 4 r = r >>> 4 ^^^ steps 4 (r &&& 15#32) := by
  have e : r = (r &&& ~~~ 15#32) ^^^ (r &&& 15#32) := by
    ext i hi
    have : (r &&& ~~~ 15#32)[i] = (r[i] && !(15#32)[i]) := by simp only [BitVec.getElem_and, BitVec.getElem_not]
    rw [BitVec.getElem_xor, this, BitVec.getElem_and]
    cases r[i] <;> cases (15#32)[i] <;> rfl
  conv => lhs; rw [e]
  rw [steps_xor, steps_shift _ 4 (by
    intro i hi
    have : i = 0 ∨ i = 1 ∨ i = 2 ∨ i = 3 := by omega
    rcases this with rfl | rfl | rfl | rfl <;> simp)]
  congr 1
  ext i hi
  have f15 : ∀ j, j < 28 → (15#32).getLsbD (4 + j) = false := by decide
  rw [← BitVec.getLsbD_eq_getElem hi, ← BitVec.getLsbD_eq_getElem hi, BitVec.getLsbD_ushiftRight, BitVec.getLsbD_ushiftRight, BitVec.getLsbD_and]
  by_cases h : 4 + i < 32
  · rw [BitVec.getLsbD_not, f15 i (by omega)]; simp [h]
  · simp [BitVec.getLsbD_of_ge _ _ (show 32 ≤ 4 + i by omega)]

def ofByte (b : UInt8) : R := BitVec.ofNat 32 b.toNat
def take (v : R) (b : UInt8) : R := steps 8 (v ^^^ ofByte b)
def crcR (v : R) (xs : List UInt8) : R := xs.foldl take v
def more (s : R) (xs : List UInt8) : R := ~~~ crcR (~~~ s) xs
def bitOf (xs : List UInt8) (i : Nat) : Bool := (xs.getD (i / 8) 0).toNat.testBit (i % 8)
theorem take_nib (v : R) (b : UInt8) : take v b = steps 4 (steps 4 (v ^^^ ofByte b)) := (steps_add 4 4 _)
theorem ofByte_bit (b : UInt8) (i : Nat) : (ofByte b).getLsbD i = b.toNat.testBit i := by
  have := b.toNat_lt
  rw [ofByte, BitVec.getLsbD_ofNat]
  by_cases h : i < 32
  · simp [h]
  · simp [h]
    rw [Nat.testBit_lt_two_pow]
    exact Nat.lt_of_lt_of_le this (Nat.pow_le_pow_right (by omega) (by omega))
theorem bitOf_snoc (xs : List UInt8) (b : UInt8) (i : Nat) (h : i < 8 * xs.length) : bitOf (xs ++ [b]) i = bitOf xs i := by
  have : i / 8 < xs.length := by omega
  simp [bitOf, List.getD_eq_getElem?_getD, List.getElem?_append_left this]
theorem bitOf_last (xs : List UInt8) (b : UInt8) (i : Nat) (h : i < 8) : bitOf (xs ++ [b]) (8 * xs.length + i) = b.toNat.testBit i := by
  have e : (8 * xs.length + i) / 8 = xs.length := by omega
  have e2 : (8 * xs.length + i) % 8 = i := by omega
  simp [bitOf, e, e2]
theorem low_byte (b : UInt8) : low (ofByte b) 8 = ofByte b := by
  ext i hi
  rw [← BitVec.getLsbD_eq_getElem hi, ← BitVec.getLsbD_eq_getElem hi, low_bit _ _ _ (by omega), ofByte_bit]
  by_cases h : i < 8
  · simp [h]
  · have := b.toNat_lt
    simp [h]
    rw [Nat.testBit_lt_two_pow]
    exact Nat.lt_of_lt_of_le this (Nat.pow_le_pow_right (by omega) (by omega))
theorem crcR_reg (v : R) (n : Nat) : ∀ xs : List UInt8, xs.length = n → crcR v xs = reg v (bitOf xs) (8 * xs.length) := by
  induction n with
  | zero => intro xs h; obtain rfl := List.eq_nil_of_length_eq_zero h; rfl
  | succ n ih =>
    intro xs h
    obtain ⟨ys, b, rfl⟩ : ∃ ys b, xs = ys ++ [b] := by
      rcases List.eq_nil_or_concat xs with rfl | ⟨ys, b, rfl⟩
      · simp at h
      · exact ⟨ys, b, by simp⟩
    have hy : ys.length = n := by simpa using h
    rw [show 8 * (ys ++ [b]).length = 8 * ys.length + 8 by simp; omega, reg_add, reg_congr _ _ (bitOf ys) _ (fun i hi => bitOf_snoc ys b i hi), ← ih ys hy]
    rw [reg_congr _ _ (fun i => (ofByte b).getLsbD i) 8 (fun i hi => by rw [bitOf_last _ _ _ hi, ofByte_bit]), reg_low _ _ _ (by omega), low_byte]
    simp [crcR, take]
theorem crcR_append (v : R) (xs ys : List UInt8) : crcR v (xs ++ ys) = crcR (crcR v xs) ys := by simp [crcR]
theorem more_append (s : R) (xs ys : List UInt8) : more s (xs ++ ys) = more (more s xs) ys := by simp [more, crcR_append]
theorem more_nil (s : R) : more s [] = s := by simp [more, crcR]

/-- two texts of one length, unlike only within 32 bits -/
theorem tells (xs ys : List UInt8) (at_ k : Nat) (hl : xs.length = ys.length) (hk : k ≤ 32) (hat : at_ + k ≤ 8 * xs.length) (mask : R)
    (he : ∀ i, i < 8 * xs.length → (bitOf xs i ^^ bitOf ys i) = (decide (at_ ≤ i) && decide (i < at_ + k) && mask.getLsbD (i - at_)))
    (j : Nat) (hj : j < k) (hjm : mask.getLsbD j = true) (s : R) : more s xs ≠ more s ys := by
  intro h
  have h1 : crcR (~~~ s) xs = crcR (~~~ s) ys := by
    have := congrArg (fun x => ~~~ x) h
    simpa [more] using this
  rw [crcR_reg _ _ xs rfl, crcR_reg _ _ ys rfl, ← hl] at h1
  have h2 : reg 0 (fun i => bitOf xs i ^^ bitOf ys i) (8 * xs.length) = 0 := by
    have := reg_xor (~~~ s) (~~~ s) (bitOf xs) (bitOf ys) (8 * xs.length)
    rw [h1] at this
    simpa using this
  obtain ⟨m, hm⟩ : ∃ m, 8 * xs.length = at_ + k + m := ⟨8 * xs.length - (at_ + k), by omega⟩
  rw [hm] at h2 he
  refine burst _ at_ k m hk mask ?_ ?_ ?_ j hj hjm h2
  · intro i hi
    rw [he i (by omega)]; simp; omega
  · intro i hi
    rw [he _ (by omega)]; simp [hi]
  · intro i hi
    rw [he _ (by omega)]; simp; omega
/-- what three of one length make -/
def zip3 : List UInt8 → List UInt8 → List UInt8 → List UInt8
  | a :: as, b :: bs, c :: cs => (a ^^^ b ^^^ c) :: zip3 as bs cs
  | _, _, _ => []
theorem take_three (u v w : R) (a b c : UInt8) : take (u ^^^ v ^^^ w) (a ^^^ b ^^^ c) = take u a ^^^ take v b ^^^ take w c := by
  unfold take
  rw [← steps_xor, ← steps_xor]
  congr 1
  have e : ofByte (a ^^^ b ^^^ c) = ofByte a ^^^ ofByte b ^^^ ofByte c := by
    ext i hi
    rw [BitVec.getElem_xor, BitVec.getElem_xor, ← BitVec.getLsbD_eq_getElem hi, ← BitVec.getLsbD_eq_getElem hi, ← BitVec.getLsbD_eq_getElem hi, ← BitVec.getLsbD_eq_getElem hi]
    simp [ofByte_bit]
  rw [e]; ac_rfl
theorem crcR_three (u v w : R) : ∀ as bs cs : List UInt8, as.length = bs.length → as.length = cs.length → crcR (u ^^^ v ^^^ w) (zip3 as bs cs) = crcR u as ^^^ crcR v bs ^^^ crcR w cs := by
  intro as
  induction as generalizing u v w with
  | nil =>
    intro bs cs h1 h2
    obtain rfl := List.eq_nil_of_length_eq_zero h1.symm
    obtain rfl := List.eq_nil_of_length_eq_zero h2.symm
    rfl
  | cons a as ih =>
    intro bs cs h1 h2
    match bs, cs, h1, h2 with
    | b :: bs, c :: cs, h1, h2 =>
      simp only [zip3, crcR, List.foldl_cons]
      have := ih (take u a) (take v b) (take w c) bs cs (by simpa using h1) (by simpa using h2)
      rw [← take_three] at this
      exact this
theorem more_three (as bs cs : List UInt8) (h1 : as.length = bs.length) (h2 : as.length = cs.length) : more 0 (zip3 as bs cs) = more 0 as ^^^ more 0 bs ^^^ more 0 cs := by
  have e : (~~~ (0 : R)) = ~~~ (0 : R) ^^^ ~~~ (0 : R) ^^^ ~~~ (0 : R) := by decide
  unfold more
  conv => lhs; rw [e]
  rw [crcR_three _ _ _ as bs cs h1 h2]
  ext i hi
  simp
end Crc
end Go.Proofs.Ytgjmhcebhgpidaa
