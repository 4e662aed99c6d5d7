/- Frames as plain lists of bytes: what Make makes, what Read reads. -/
import Derived.Test.YtjgiiolamaimnaaTake
namespace Go.Proofs.Ytjgiiolamaimnaa
open Go.RowKit
set_option linter.unusedVariables false
set_option linter.unusedSimpArgs false
/-- The sum's number. -/
def sumI (bs : List UInt8) : Int := ((Crc.more 0 bs).toNat : Int)
theorem sumI_lo (bs : List UInt8) : 0 ≤ sumI bs := by unfold sumI; omega
theorem sumI_hi (bs : List UInt8) : sumI bs ≤ 4294967295 := by unfold sumI; have := (Crc.more 0 bs).isLt; omega
/-- What stands ahead of the sum. -/
def headB (p : List UInt8) : List UInt8 := 197 :: (four p.length ++ p)
theorem headB_length (p : List UInt8) : (headB p).length = p.length + 5 := by simp [headB, four_length]; omega
/-- The frame of a payload. -/
def frameB (p : List UInt8) : List UInt8 := headB p ++ four (sumI (headB p))
theorem frameB_length (p : List UInt8) : (frameB p).length = p.length + 9 := by simp [frameB, headB_length, four_length]
theorem byte_of (v : Int) (h : 0 ≤ v) : (((UInt8.ofNat v.toNat).toNat : Nat) : Int) = v % 256 := by rw [UInt8.toNat_ofNat']; omega
theorem num_four (v : Int) (h0 : 0 ≤ v) (h1 : v ≤ 4294967295) (tl : List UInt8) : num (four v ++ tl) 4 = v := by
  simp only [num, four, List.cons_append, List.getD_cons_zero, List.getD_cons_succ]
  rw [byte_of _ (by omega), byte_of _ (by omega), byte_of _ (by omega), byte_of _ h0]
  omega
theorem four_num (bs : List UInt8) (h : 4 ≤ bs.length) : four (num bs 4) = bs.take 4 := by
  match bs, h with
  | a :: b :: c :: d :: tl, _ =>
    have ha := byte_lt a
    have hb := byte_lt b
    have hc := byte_lt c
    have hd := byte_lt d
    have e : ∀ (x : UInt8) (v : Int), v = ((x.toNat : Nat) : Int) → UInt8.ofNat v.toNat = x := fun x v hv => by subst hv; simp
    have e2 : ∀ (x : UInt8) (v q : Int), 0 ≤ q → v = q * 256 + ((x.toNat : Nat) : Int) → UInt8.ofNat v.toNat = x := fun x v q hq hv => by
      apply UInt8.toNat_inj.1
      have := byte_lt x
      rw [UInt8.toNat_ofNat']
      omega
    simp only [num, four, List.getD_cons_zero, List.getD_cons_succ, List.take_succ_cons, List.take_zero]
    rw [e2 a _ 0 (by omega) (by omega), e2 b _ (((a.toNat : Nat) : Int)) (by omega) (by omega), e2 c _ (((a.toNat : Nat) : Int) * 256 + ((b.toNat : Nat) : Int)) (by omega) (by omega), e2 d _ ((((a.toNat : Nat) : Int) * 256 + ((b.toNat : Nat) : Int)) * 256 + ((c.toNat : Nat) : Int)) (by omega) (by omega)]
/-- What Read answers: the payload, the size, the error. -/
def rd (b : List UInt8) : List UInt8 × Int × Int :=
  if b.length = 0 then ([], 0, 20)
  else if b.getD 0 0 ≠ 197 then ([], 0, 90)
  else if b.length < 5 then ([], 0, 20)
  else if 65536 < num (b.drop 1) 4 then ([], 0, 3)
  else if (b.length : Int) < num (b.drop 1) 4 + 9 then ([], 0, 20)
  else if num (b.drop (5 + (num (b.drop 1) 4).toNat)) 4 ≠ sumI (b.take (5 + (num (b.drop 1) 4).toNat)) then ([], 0, 91)
  else ((b.drop 5).take (num (b.drop 1) 4).toNat, num (b.drop 1) 4 + 9, 0)
theorem rd_0 {b : List UInt8} (h : b.length = 0) : rd b = ([], 0, 20) := if_pos h
theorem rd_1 {b : List UInt8} (h : b.length ≠ 0) (h1 : b.getD 0 0 ≠ 197) : rd b = ([], 0, 90) := by unfold rd; rw [if_neg h, if_pos h1]
theorem rd_2 {b : List UInt8} (h : b.length ≠ 0) (h1 : b.getD 0 0 = 197) (h2 : b.length < 5) : rd b = ([], 0, 20) := by unfold rd; rw [if_neg h, if_neg (fun e => e h1), if_pos h2]
theorem rd_3 {b : List UInt8} (h1 : b.getD 0 0 = 197) (h2 : ¬ b.length < 5) (h3 : 65536 < num (b.drop 1) 4) : rd b = ([], 0, 3) := by unfold rd; rw [if_neg (by omega), if_neg (fun e => e h1), if_neg h2, if_pos h3]
theorem rd_4 {b : List UInt8} {l : Nat} (h1 : b.getD 0 0 = 197) (h2 : ¬ b.length < 5) (h3 : num (b.drop 1) 4 = l) (h4 : l ≤ 65536) (h5 : b.length < l + 9) : rd b = ([], 0, 20) := by unfold rd; rw [if_neg (by omega), if_neg (fun e => e h1), if_neg h2, if_neg (by omega), if_pos (by omega)]
theorem rd_5 {b : List UInt8} {l : Nat} (h1 : b.getD 0 0 = 197) (h3 : num (b.drop 1) 4 = l) (h4 : l ≤ 65536) (h5 : ¬ b.length < l + 9) (h6 : num (b.drop (5 + l)) 4 ≠ sumI (b.take (5 + l))) : rd b = ([], 0, 91) := by
  unfold rd; rw [if_neg (by omega), if_neg (fun e => e h1), if_neg (by omega), if_neg (by omega), if_neg (by omega), h3, Int.toNat_natCast, if_pos h6]
theorem rd_6 {b : List UInt8} {l : Nat} (h1 : b.getD 0 0 = 197) (h3 : num (b.drop 1) 4 = l) (h4 : l ≤ 65536) (h5 : ¬ b.length < l + 9) (h6 : num (b.drop (5 + l)) 4 = sumI (b.take (5 + l))) : rd b = ((b.drop 5).take l, (l : Int) + 9, 0) := by
  unfold rd; rw [if_neg (by omega), if_neg (fun e => e h1), if_neg (by omega), if_neg (by omega), if_neg (by omega), h3, Int.toNat_natCast, if_neg (fun e => e h6)]
theorem rd_len (b : List UInt8) : (rd b).1.length ≤ b.length := by
  unfold rd
  split
  · simp
  split
  · simp
  split
  · simp
  split
  · simp
  split
  · simp
  split
  · simp
  · simp only [List.length_take, List.length_drop]
    omega
end Go.Proofs.Ytjgiiolamaimnaa
