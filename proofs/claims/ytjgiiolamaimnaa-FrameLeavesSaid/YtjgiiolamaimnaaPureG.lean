/- What follows of frames: there and back, one form, cut, turned. No program in sight. -/
import Derived.Test.YtjgiiolamaimnaaRefRd
namespace Go.Proofs.Ytjgiiolamaimnaa
set_option linter.unusedVariables false
set_option linter.unusedSimpArgs false
theorem frame_0 (p tl : List UInt8) : (frameB p ++ tl).getD 0 0 = 197 := rfl
theorem frame_drop1 (p tl : List UInt8) : (frameB p ++ tl).drop 1 = four p.length ++ (p ++ four (sumI (headB p)) ++ tl) := by
  simp [frameB, headB]
theorem frame_num1 (p tl : List UInt8) (h : p.length ≤ 65536) : num ((frameB p ++ tl).drop 1) 4 = p.length := by
  rw [frame_drop1, num_four _ (by omega) (by omega)]
theorem frame_drop (p tl : List UInt8) : (frameB p ++ tl).drop (5 + p.length) = four (sumI (headB p)) ++ tl := by
  have : 5 + p.length = (headB p).length := by rw [headB_length]; omega
  rw [frameB, this, List.append_assoc, List.drop_left]
theorem frame_take (p tl : List UInt8) : (frameB p ++ tl).take (5 + p.length) = headB p := by
  have : 5 + p.length = (headB p).length := by rw [headB_length]; omega
  rw [frameB, this, List.append_assoc, List.take_left]
theorem frame_pay (p tl : List UInt8) : ((frameB p ++ tl).drop 5).take p.length = p := by
  have e : (frameB p ++ tl).drop 5 = p ++ (four (sumI (headB p)) ++ tl) := by
    rw [frameB, headB, show (197 :: (four p.length ++ p)) = (197 :: four p.length) ++ p from rfl, List.append_assoc, List.append_assoc, show (5 : Nat) = (197 :: four (p.length : Int)).length by simp [four_length], List.drop_left]
  rw [e, List.take_left]
theorem frame_back (p tl : List UInt8) (h : p.length ≤ 65536) : rd (frameB p ++ tl) = (p, (p.length : Int) + 9, 0) := by
  have hr := rd_6 (b := frameB p ++ tl) (frame_0 p tl) (frame_num1 p tl h) h (by rw [List.length_append, frameB_length]; omega) (by rw [frame_drop, frame_take, num_four _ (sumI_lo _) (sumI_hi _)])
  rw [hr, frame_pay]
theorem rd_cases (b : List UInt8) : ((rd b).1 = [] ∧ (rd b).2.1 = 0 ∧ (rd b).2.2 ≠ 0) ∨ (b.getD 0 0 = 197 ∧ ∃ L : Nat, num (b.drop 1) 4 = L ∧ L ≤ 65536 ∧ L + 9 ≤ b.length ∧ num (b.drop (5 + L)) 4 = sumI (b.take (5 + L)) ∧ rd b = ((b.drop 5).take L, (L : Int) + 9, 0)) := by
  by_cases h0 : b.length = 0
  · rw [rd_0 h0]; exact .inl ⟨rfl, rfl, by simp⟩
  by_cases h1 : b.getD 0 0 = 197
  · by_cases h2 : b.length < 5
    · rw [rd_2 h0 h1 h2]; exact .inl ⟨rfl, rfl, by simp⟩
    by_cases h3 : 65536 < num (b.drop 1) 4
    · rw [rd_3 h1 h2 h3]; exact .inl ⟨rfl, rfl, by simp⟩
    have y0 := num_nonneg (b.drop 1) 4
    obtain ⟨L, hL⟩ : ∃ L : Nat, num (b.drop 1) 4 = L := ⟨(num (b.drop 1) 4).toNat, by omega⟩
    by_cases h5 : b.length < L + 9
    · rw [rd_4 h1 h2 hL (by omega) h5]; exact .inl ⟨rfl, rfl, by simp⟩
    by_cases h6 : num (b.drop (5 + L)) 4 = sumI (b.take (5 + L))
    · exact .inr ⟨h1, L, hL, by omega, by omega, h6, rd_6 h1 hL (by omega) h5 h6⟩
    · rw [rd_5 h1 hL (by omega) h5 h6]; exact .inl ⟨rfl, rfl, by simp⟩
  · rw [rd_1 h0 h1]; exact .inl ⟨rfl, rfl, by simp⟩
/-- One form. -/
theorem frame_form {b : List UInt8} (h : (rd b).2.2 = 0) : (rd b).1.length ≤ 65536 ∧ (rd b).2.1 = ((rd b).1.length : Int) + 9 ∧ (rd b).1.length + 9 ≤ b.length ∧ frameB (rd b).1 = b.take ((rd b).1.length + 9) := by
  rcases rd_cases b with ⟨_, _, h2⟩ | ⟨h1, L, hL, h3, h5, h6, hr⟩
  · exact absurd h h2
  · rw [hr]
    have hl : ((b.drop 5).take L).length = L := by rw [List.length_take, List.length_drop]; omega
    simp only [hl]
    exact ⟨h3, by simp, h5, (frame_of h1 hL h5).2 h6⟩
theorem num_congr {xs ys : List UInt8} (h : ∀ j, j < 4 → xs.getD j 0 = ys.getD j 0) : num xs 4 = num ys 4 := by
  simp only [num, h 0 (by omega), h 1 (by omega), h 2 (by omega), h 3 (by omega)]
theorem getD_drop {xs : List UInt8} {k j : Nat} : (xs.drop k).getD j 0 = xs.getD (k + j) 0 := by
  rw [List.getD_eq_getElem?_getD, List.getElem?_drop, ← List.getD_eq_getElem?_getD]
/-- Cut. -/
theorem frame_cut (p : List UInt8) (k : Nat) (h : p.length ≤ 65536) (hk : k < p.length + 9) : rd ((frameB p).take k) = ([], 0, 20) := by
  have hl : ((frameB p).take k).length = k := by rw [List.length_take, frameB_length]; omega
  by_cases h0 : k = 0
  · exact rd_0 (by rw [hl]; exact h0)
  have e0 : ((frameB p).take k).getD 0 0 = 197 := by rw [getD_take (by omega)]; rfl
  by_cases h5 : k < 5
  · exact rd_2 (by rw [hl]; exact h0) e0 (by rw [hl]; exact h5)
  have e1 : num (((frameB p).take k).drop 1) 4 = p.length := by
    rw [← frame_num1 p [] h]
    refine num_congr fun j hj => ?_
    rw [getD_drop, getD_take (by omega), getD_drop, List.append_nil]
  exact rd_4 e0 (by rw [hl]; exact h5) e1 h (by rw [hl]; exact hk)
theorem getD_set {xs : List UInt8} {k j : Nat} {v : UInt8} (h : k < xs.length) : (xs.set k v).getD j 0 = if j = k then v else xs.getD j 0 := by
  rw [List.getD_eq_getElem?_getD, List.getElem?_set]
  by_cases e : k = j
  · subst e
    simp [h]
  · rw [if_neg e, if_neg (fun e2 => e e2.symm), List.getD_eq_getElem?_getD]
theorem xor_ne {x y : UInt8} (h : y ≠ 0) : x ^^^ y ≠ x := fun e => h (by
  have := congrArg (fun t => x ^^^ t) e
  simpa [← UInt8.xor_assoc] using this)
/-- The sum tells another byte in the place of one. -/
theorem sum_set {xs : List UInt8} {k : Nat} {y : UInt8} (hk : k < xs.length) (hy : y ≠ 0) : sumI (xs.set k (xs.getD k 0 ^^^ y)) ≠ sumI xs := by
  have hy2 : y.toNat ≠ 0 := fun e => hy (UInt8.toNat_inj.1 e)
  obtain ⟨j, hj⟩ := Nat.exists_testBit_of_ne_zero hy2
  have hj8 : j < 8 := by
    refine Nat.lt_of_not_le fun hge => ?_
    rw [Nat.testBit_lt_two_pow] at hj
    · exact Bool.noConfusion hj
    · exact Nat.lt_of_lt_of_le y.toNat_lt (Nat.pow_le_pow_right (by omega) hge)
  intro he
  have h2 : Crc.more 0 (xs.set k (xs.getD k 0 ^^^ y)) = Crc.more 0 xs := by
    apply BitVec.eq_of_toNat_eq
    unfold sumI at he
    omega
  refine Crc.tells xs (xs.set k (xs.getD k 0 ^^^ y)) (8 * k) 8 (by simp) (by omega) (by omega) (Crc.ofByte y) ?_ j hj8 (by rw [Crc.ofByte_bit]; exact hj) 0 h2.symm
  intro i hi
  unfold Crc.bitOf
  rw [getD_set hk]
  by_cases e : i / 8 = k
  · rw [if_pos e, e, UInt8.toNat_xor, Nat.testBit_xor, Crc.ofByte_bit]
    have h1 : 8 * k ≤ i := by omega
    have h3 : i < 8 * k + 8 := by omega
    have h4 : i - 8 * k = i % 8 := by omega
    simp [h1, h3, h4]
  · rw [if_neg e]
    have : ¬ (8 * k ≤ i ∧ i < 8 * k + 8) := by omega
    by_cases h1 : 8 * k ≤ i
    · have h3 : ¬ i < 8 * k + 8 := fun h => this ⟨h1, h⟩
      simp [h3]
    · simp [h1]
theorem four_inj {xs ys : List UInt8} (hx : 4 ≤ xs.length) (hy : 4 ≤ ys.length) (h : num xs 4 = num ys 4) : xs.take 4 = ys.take 4 := by
  rw [← four_num xs hx, ← four_num ys hy, h]
/-- Another byte in the place of one. -/
theorem frame_turned (p tl : List UInt8) (k : Nat) (y : UInt8) (h : p.length ≤ 65536) (hk : k < p.length + 9) (hy : y ≠ 0) :
    (k = 0 → (rd ((frameB p ++ tl).set k ((frameB p ++ tl).getD k 0 ^^^ y))).2.2 = 90) ∧ (5 ≤ k → (rd ((frameB p ++ tl).set k ((frameB p ++ tl).getD k 0 ^^^ y))).2.2 = 91) ∧ (k ≠ 0 → k < 5 → (rd ((frameB p ++ tl).set k ((frameB p ++ tl).getD k 0 ^^^ y))).2.1 ≠ (p.length : Int) + 9) := by
  have hlen : p.length + 9 ≤ (frameB p ++ tl).length := by rw [List.length_append, frameB_length]; omega
  have n1 := frame_num1 p tl h
  have d1 := frame_drop p tl
  have t1 := frame_take p tl
  have f0 := frame_0 p tl
  generalize frameB p ++ tl = b at *
  have hkb : k < b.length := by omega
  have hl : (b.set k (b.getD k 0 ^^^ y)).length = b.length := by simp
  refine ⟨fun e => ?_, fun h5 => ?_, fun h0 h5 => ?_⟩
  · subst e
    rw [rd_1 (by rw [hl]; omega) (by rw [getD_set hkb, if_pos rfl, f0]; exact xor_ne hy)]
  · have e0 : (b.set k (b.getD k 0 ^^^ y)).getD 0 0 = 197 := by rw [getD_set hkb, if_neg (by omega), f0]
    have e1 : num ((b.set k (b.getD k 0 ^^^ y)).drop 1) 4 = p.length := by
      rw [← n1]
      refine num_congr fun j hj => ?_
      rw [getD_drop, getD_drop, getD_set hkb, if_neg (by omega)]
    rw [rd_5 e0 e1 h (by rw [hl]; omega)]
    by_cases hp : k < 5 + p.length
    · rw [List.drop_set_of_lt hp, d1, num_four _ (sumI_lo _) (sumI_hi _), List.take_set, t1]
      have hx : (headB p).getD k 0 = b.getD k 0 := by rw [← t1, getD_take hp]
      rw [← hx]
      exact fun e => sum_set (xs := headB p) (k := k) (y := y) (by rw [headB_length]; omega) hy e.symm
    · rw [List.take_set_of_le (by omega), t1]
      intro e
      have h4 : 4 ≤ (b.drop (5 + p.length)).length := by rw [List.length_drop]; omega
      have h4' : 4 ≤ ((b.set k (b.getD k 0 ^^^ y)).drop (5 + p.length)).length := by rw [List.length_drop, hl]; omega
      have hn : num (b.drop (5 + p.length)) 4 = sumI (headB p) := by rw [d1, num_four _ (sumI_lo _) (sumI_hi _)]
      have hi := four_inj h4' h4 (e.trans hn.symm)
      have hg : ((b.set k (b.getD k 0 ^^^ y)).drop (5 + p.length)).getD (k - (5 + p.length)) 0 = (b.drop (5 + p.length)).getD (k - (5 + p.length)) 0 := by
        rw [← getD_take (n := 4) (by omega), hi, getD_take (by omega)]
      rw [getD_drop, getD_drop, getD_set hkb, if_pos (by omega), show 5 + p.length + (k - (5 + p.length)) = k by omega] at hg
      exact xor_ne hy hg
  · intro e
    rcases rd_cases (b.set k (b.getD k 0 ^^^ y)) with ⟨_, h2, _⟩ | ⟨_, L, hL, _, _, _, hr⟩
    · rw [h2] at e; omega
    · rw [hr] at e
      have e2 : L = p.length := by simp only at e; omega
      subst e2
      have h4 : 4 ≤ (b.drop 1).length := by rw [List.length_drop]; omega
      have h4' : 4 ≤ ((b.set k (b.getD k 0 ^^^ y)).drop 1).length := by rw [List.length_drop, hl]; omega
      have hi := four_inj h4' h4 (hL.trans n1.symm)
      have hg : ((b.set k (b.getD k 0 ^^^ y)).drop 1).getD (k - 1) 0 = (b.drop 1).getD (k - 1) 0 := by
        rw [← getD_take (n := 4) (by omega), hi, getD_take (by omega)]
      rw [getD_drop, getD_drop, getD_set hkb, if_pos (by omega), show 1 + (k - 1) = k by omega] at hg
      exact xor_ne hy hg
end Go.Proofs.Ytjgiiolamaimnaa
