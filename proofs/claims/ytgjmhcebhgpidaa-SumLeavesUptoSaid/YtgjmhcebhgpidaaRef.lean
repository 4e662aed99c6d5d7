/- The reference of layer 3, walked: Step, Take, More, Of. -/
import Derived.Test.YtgjmhcebhgpidaaProg
import Derived.Test.YtgjmhcebhgpidaaCrc
import Derived.Test.YtgjmhcebhgpidaaWords
namespace Go.Proofs.Ytgjmhcebhgpidaa
open Go.RowKit
set_option linter.unusedVariables false
set_option linter.unusedSimpArgs false

/-! ### words -/
/-- The number n is the register v. -/
def U (n : Int) (v : Crc.R) : Prop := n = (v.toNat : Int)
theorem U.lo {n : Int} {v : Crc.R} (h : U n v) : 0 ≤ n := by unfold U at h; omega
theorem U.hi {n : Int} {v : Crc.R} (h : U n v) : n ≤ 4294967295 := by unfold U at h; have := v.isLt; omega
theorem U.xor {m n : Int} {a b : Crc.R} (h : U m a) (k : U n b) : U (bits .xor .u32 m n) (a ^^^ b) := by
  unfold U at *
  rw [h, k, u32_xor_nat _ _ a.isLt b.isLt, BitVec.toNat_xor]
theorem U.and {m n : Int} {a b : Crc.R} (h : U m a) (k : U n b) : U (bits .and .u32 m n) (a &&& b) := by
  unfold U at *
  rw [h, k, u32_and_nat _ _ a.isLt b.isLt, BitVec.toNat_and]
theorem U.shr {n : Int} {a : Crc.R} (h : U n a) (j : Nat) : U (n / ((2 ^ j : Nat) : Int)) (a >>> j) := by
  unfold U at *
  rw [h, BitVec.toNat_ushiftRight, Nat.shiftRight_eq_div_pow]; rfl
theorem U.half {n : Int} {a : Crc.R} (h : U n a) : U (n / 2) (a >>> 1) := h.shr 1
theorem U.odd {n : Int} {a : Crc.R} (h : U n a) : (n % 2 == 1) = a.getLsbD 0 := by
  unfold U at h
  rw [BitVec.getLsbD, Nat.testBit_zero]
  rcases Nat.mod_two_eq_zero_or_one a.toNat with k | k
  · have : n % 2 = 0 := by omega
    rw [this, k]; rfl
  · have : n % 2 = 1 := by omega
    rw [this, k]; rfl
theorem U.poly : U 3988292384 Crc.poly := by unfold U; decide
theorem U.full : U 4294967295 (~~~ (0 : Crc.R)) := by unfold U; decide
theorem xor_full (v : Crc.R) : v ^^^ ~~~ (0 : Crc.R) = ~~~ v := by
  have e : (~~~ (0 : Crc.R)) = BitVec.allOnes 32 := by decide
  rw [e, BitVec.xor_allOnes]
theorem U.not {n : Int} {v : Crc.R} (h : U n v) : U (bits .xor .u32 n 4294967295) (~~~ v) := by
  rw [← xor_full]; exact h.xor U.full
theorem U.not' {n : Int} {v : Crc.R} (h : U n v) : U (bits .xor .u32 4294967295 n) (~~~ v) := by
  rw [← xor_full, BitVec.xor_comm]; exact U.full.xor h
theorem U.zero : U 0 (0 : Crc.R) := by unfold U; decide
theorem U.zero' : U 0 (Crc.more 0 []) := by rw [Crc.more_nil]; exact U.zero
theorem U.step_yes {n : Int} {v : Crc.R} (u : U n v) (h : (n % 2 == 1) = true) : U (bits .xor .u32 (n / 2) 3988292384) (Crc.step v) := by
  rw [u.odd] at h
  rw [Crc.step, if_pos h]
  exact u.half.xor U.poly
theorem U.step_no {n : Int} {v : Crc.R} (u : U n v) (h : (n % 2 == 1) = false) : U (n / 2) (Crc.step v) := by
  rw [u.odd] at h
  rw [Crc.step, if_neg (by rw [h]; exact Bool.false_ne_true)]
  exact u.half
theorem U.byte (b : UInt8) : U ((b.toNat : Nat) : Int) (Crc.ofByte b) := by
  have := b.toNat_lt
  unfold U
  rw [Crc.ofByte, BitVec.toNat_ofNat, Nat.mod_eq_of_lt (by omega)]
theorem byte_lt (b : UInt8) : ((b.toNat : Nat) : Int) < 256 := by have := b.toNat_lt; omega
/-- What a function of registers answers; the world stays. -/
def RetU (v : Crc.R) (w : World) (e : Ending) (w' : World) : Prop := ∃ n, e = .returned (.int .u32 n) ∧ U n v ∧ w = w'

theorem step_any (n : Int) (v : Crc.R) (w : World) (u : U n v) : Calls Try.prog 28 #[.int .u32 n] w (RetU (Crc.step v) w) := by
  have hv := u.lo
  have hv1 := u.hi
  go_enter Try.func28, Try.ntmps28
  go_wp2
  · go_ret
    exact ⟨_, rfl, u.step_yes (by assumption), rfl⟩
  · go_ret
    exact ⟨_, rfl, u.step_no (by assumption), rfl⟩

set_option maxHeartbeats 400000 in
theorem take_any (n m : Int) (v : Crc.R) (b : UInt8) (w : World) (u : U n v) (hm : m = ((b.toNat : Nat) : Int)) :
    Calls Try.prog 25 #[.int .u32 n, .int .u8 m] w (RetU (Crc.take v b) w) := by
  have hv := u.lo
  have hv1 := u.hi
  have hb : U m (Crc.ofByte b) := by rw [hm]; exact .byte b
  have hb0 := hb.lo
  have hb1 : m < 256 := by rw [hm]; exact byte_lt b
  clear hm
  go_enter Try.func25, Try.ntmps25
  go_wp2
  go_loop [0, 5] (fun v1 i => ∃ k : Nat, k ≤ 8 ∧ i = .int .i64 k ∧ ∃ q, v1 = .int .u32 q ∧ U q (Crc.steps k (v ^^^ Crc.ofByte b))) (fun _ i => 8 - (intOf i).toNat)
  case atStart => exact ⟨0, by omega, rfl, _, rfl, u.xor hb⟩
  case round =>
    obtain ⟨k, hk, rfl, q, rfl, uq⟩ := hrel
    by_cases hlt : k < 8
    · go_wp2_with (go_at_call 28; refine (step_any _ _ _ uq).mono ?_; rintro e w' ⟨r, rfl, ur, rfl⟩)
      go_round
      case rel => exact ⟨k + 1, by omega, by go_num, _, rfl, ur⟩
      case measure => simp [intOf]; omega
    · obtain rfl : k = 8 := by omega
      go_wp2
      go_ret
      exact ⟨_, rfl, uq, rfl⟩

theorem crc_take_succ (v : Crc.R) (bs : List UInt8) (k : Nat) (h : k < bs.length) : Crc.crcR v (bs.take (k + 1)) = Crc.take (Crc.crcR v (bs.take k)) (bs.getD k 0) := by
  rw [List.take_succ_eq_append_getElem h, Crc.crcR_append]
  simp [Crc.crcR, List.getD_eq_getElem?_getD, h]
set_option maxHeartbeats 400000 in
theorem refMore_any (n : Int) (s : Crc.R) (A : Option Addr) (l c : Nat) (bs : List UInt8) (w : World) (u : U n s) (hb : Bytes w A l bs) :
    Calls Try.prog 14 #[.int .u32 n, .slice A l c] w (RetU (Crc.more s bs) w) := by
  have hv := u.lo
  have hv1 := u.hi
  have hl := hb.2.1
  go_enter Try.func14, Try.ntmps14
  go_wp2
  go_loop [5, 6] (fun v1 i => ∃ k : Nat, k ≤ l ∧ i = .int .i64 k ∧ ∃ q, v1 = .int .u32 q ∧ U q (Crc.crcR (~~~ s) (bs.take k))) (fun _ i => l - (intOf i).toNat)
  case atStart => exact ⟨0, by omega, rfl, _, rfl, u.not⟩
  case round =>
    obtain ⟨k, hk, rfl, q, rfl, uq⟩ := hrel
    by_cases hlt : k < l
    · obtain ⟨b, o, m, rfl, hc, hm⟩ := hb.at_ k hlt
      have HM := Lib.hid hm
      clear hm
      go_wp2_with (go_at_call 25; refine (take_any _ _ _ _ _ uq HM.out).mono ?_; rintro e w' ⟨r, rfl, ur, rfl⟩)
      go_round
      case rel => exact ⟨k + 1, by omega, by go_num, _, rfl, by rw [crc_take_succ _ _ _ (by rw [hb.1]; exact hlt)]; exact ur⟩
      case measure => simp [intOf]; omega
    · obtain rfl : k = l := by omega
      go_wp2
      go_ret
      refine ⟨_, rfl, ?_, rfl⟩
      have := uq.not
      rwa [← hb.1, List.take_length] at this
theorem refOf_any (A : Option Addr) (l c : Nat) (bs : List UInt8) (w : World) (hb : Bytes w A l bs) :
    Calls Try.prog 10 #[.slice A l c] w (RetU (Crc.more 0 bs) w) := by
  go_enter Try.func10, Try.ntmps10
  go_wp2_with (go_at_call 14; refine (refMore_any _ _ _ _ _ _ _ U.zero hb).mono ?_; rintro e w' ⟨r, rfl, ur, rfl⟩)
  go_ret
  exact ⟨_, rfl, ur, rfl⟩
end Go.Proofs.Ytgjmhcebhgpidaa
