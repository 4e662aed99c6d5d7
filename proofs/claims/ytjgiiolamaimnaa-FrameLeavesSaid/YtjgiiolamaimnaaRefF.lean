/- The reference of layer 9, walked: Four, Frame, Make, Number. -/
import Derived.Test.YtjgiiolamaimnaaFrame
namespace Go.Proofs.Ytjgiiolamaimnaa
open Go.RowKit
set_option linter.unusedVariables false
set_option linter.unusedSimpArgs false
theorem own_of_blk {w : World} {g B : Nat} {bs : List UInt8} {t : TypeId} (h : Blk w g (bvals bs).toArray t) (hB : B ≤ g) (hn : bs.length ≤ maxLen) : w.ownsRow B t 1 (.slice (some ⟨g, 0, none⟩) bs.length bs.length) bs.length (bvals bs) :=
  ⟨by rw [bvals_length, Nat.mul_one], .inr ⟨g, bs.length, _, rfl, hB, h, Nat.le_refl _, hn, by simp [bvals], by rw [Nat.mul_one]; exact List.take_of_length_le (by simp [bvals])⟩⟩
theorem refFour_any (v : Int) (w : World) (v0 : 0 ≤ v) (v1 : v ≤ 4294967295) :
    Calls Try.prog 38 #[.int .u32 v] w (NewB (fun v => v) 4 (four v) w) := by
  have hba := below_alloc w (.cells #[.int .u8 (v / 16777216), .int .u8 (v / 65536 % 256), .int .u8 (v / 256 % 256), .int .u8 (v % 256)] 5)
  have hF := Blk.fresh w #[.int .u8 (v / 16777216), .int .u8 (v / 65536 % 256), .int .u8 (v / 256 % 256), .int .u8 (v % 256)] 5
  have hv : #[Value.int .u8 (v / 16777216), .int .u8 (v / 65536 % 256), .int .u8 (v / 256 % 256), .int .u8 (v % 256)] = (bvals (four v)).toArray := by
    simp only [bvals, four, List.map_cons, List.map_nil]
    rw [byte_of _ (by omega), byte_of _ (by omega), byte_of _ (by omega), byte_of _ v0, show v / 16777216 % 256 = v / 16777216 by omega]
  have HV := Lib.hid hv
  clear hv
  go_enter Try.func38, Try.ntmps38
  go_wp2_with fail
  go_ret
  rw [HV.out] at hba hF ⊢
  exact ⟨_, 4, rfl, own_of_blk (bs := four v) hF (Nat.le_refl _) (by simp [four_length, maxLen]), hba⟩
set_option maxHeartbeats 800000 in
theorem refFrame_any (A : Option Addr) (n c : Nat) (p : List UInt8) (w : World) (hb : Bytes w A n p) (hn : n ≤ 65536) :
    Calls Try.prog 29 #[.slice A n c] w (NewB (fun v => v) (n + 9) (frameB p) w) := by
  have HL := Lib.hid hb.1
  have hba := below_alloc w (.cells #[.int .u8 197] 5)
  have hF := Blk.fresh w #[.int .u8 197] 5
  have ho0 := own_of_blk (bs := [197]) (B := w.heap.size) hF (Nat.le_refl _) (by simp [maxLen])
  go_enter Try.func29, Try.ntmps29
  go_wp2_with fail
  refine (refFour_any n _ (by omega) (by omega)).mono ?_
  rintro e w1 ⟨A1, c1, rfl, ho1, hb1⟩
  have hz : (w.alloc (.cells #[.int .u8 197] 5)).heap.size = w.heap.size + 1 := by simp
  have ho0' := own_below ho0 hb1
  have hb2 := below_then hba hb1 hba.size
  have hs1 := hb2.size
  have h41 := own_bytes' ho1 (by omega)
  have HZ := Lib.hid hz
  clear hz ho0 hF hba ho1
  go_upto_region 2 with (at_builtin; (refine wpl_append _ rfl _ _ 22 rfl w.heap.size 5 _ 1 1 Try.underlying22 info_byte rfl (by decide) (.slice (some ⟨w.heap.size, 0, none⟩) 1 1) 1 _ rfl ho0' A1 4 c1 _ rfl h41.rdc (bvals_one _) (by decide) (by decide) (by omega) hs1 ?_); intro A2 c2 w2 ho2 hg2 hne2 hnn2; clear hnn2 hne2)
  have hb3 := hb2.grown hg2 hs1 (own_base ho0')
  have hs3 := hb3.size
  have hbp := hb.below hb3
  rw [← bvals_append, show 1 + 4 = 5 from rfl] at ho2
  clear ho0' h41 hg2
  go_wp2_with (at_builtin; (refine wpl_append _ rfl _ _ 22 rfl w.heap.size 5 _ 1 1 Try.underlying22 info_byte rfl (by decide) (.slice A2 5 c2) 5 _ rfl ho2 A n c _ rfl hbp.rdc (bvals_one _) (by decide) (by decide) (by omega) hs3 ?_); intro A3 c3 w3 ho3 hg3 hne3 hnn3; clear hnn3 hne3)
  have hb4 := hb3.grown hg3 hs3 (own_base ho2)
  have hs4 := hb4.size
  have e3 : 5 + n = n + 5 := by omega
  rw [e3] at ho3 ⊢
  have hh : [197] ++ four (n : Int) ++ p = headB p := by rw [headB, HL.out]; rfl
  rw [← bvals_append, hh] at ho3
  have hB3 := own_bytes' ho3 (by omega)
  clear ho2 e3 hh hg3
  go_wp2_with fail
  refine (refOf_any _ _ _ _ _ hB3).mono ?_
  rintro e w4 ⟨x, rfl, ux, rfl⟩
  have hx : x = sumI (headB p) := ux
  have x0 := ux.lo
  have x1 := ux.hi
  have HX := Lib.hid hx
  clear hx
  go_wp2_with fail
  refine (refFour_any x _ x0 x1).mono ?_
  rintro e w5 ⟨A5, c5, rfl, ho5, hb5⟩
  have hb6 := below_then hb4 hb5 hs4
  have hs6 := hb6.size
  have ho6 := own_below ho3 hb5
  have h5 := own_bytes' ho5 (by omega)
  clear ho5 ho3 hB3
  go_wp2_with (at_builtin; (refine wpl_append _ rfl _ _ 22 rfl w.heap.size 5 _ 1 1 Try.underlying22 info_byte rfl (by decide) (.slice A3 (n + 5) c3) (n + 5) _ rfl ho6 A5 4 c5 _ rfl h5.rdc (bvals_one _) (by decide) (by decide) (by omega) hs6 ?_); intro A7 c7 w7 ho7 hg7 hne7 hnn7; clear hnn7 hne7)
  have hb7 := hb6.grown hg7 hs6 (own_base ho6)
  rw [← bvals_append, HX.out] at ho7
  go_ret
  exact ⟨A7, c7, rfl, ho7, hb7⟩
theorem refMake_any (A : Option Addr) (n c : Nat) (p : List UInt8) (w : World) (hb : Bytes w A n p) (hn : n ≤ 65536) :
    Calls Try.prog 15 #[.slice A n c] w (NewB (fun v => .tuple #[v, .int .i64 0]) (n + 9) (frameB p) w) := by
  go_enter Try.func15, Try.ntmps15
  go_wp2_with fail
  refine (refFrame_any A n c p _ hb hn).mono ?_
  rintro e w5 ⟨A5, c5, rfl, ho5, hb6⟩
  go_wp2_with fail
  go_ret2
  exact ⟨A5, c5, rfl, ho5, hb6⟩
theorem refMake_no (A : Option Addr) (n c : Nat) (w : World) (hn : 65536 < n) :
    Calls Try.prog 15 #[.slice A n c] w fun e w' => e = .returned (.tuple #[.slice none 0 0, .int .i64 3]) ∧ w = w' := by
  go_enter Try.func15, Try.ntmps15
  go_wp2
  go_ret2
  exact ⟨rfl, rfl⟩
theorem refNumber_any (A : Option Addr) (c : Nat) (bs : List UInt8) (w : World) (hb : Bytes w A 4 bs) :
    Calls Try.prog 35 #[.slice A 4 c] w fun e w' => e = .returned (.int .i64 (num bs 4)) ∧ w = w' := by
  go_enter Try.func35, Try.ntmps35
  go_wp2_with fail
  go_loop [3, 4] (fun v i => ∃ k : Nat, k ≤ 4 ∧ i = .int .i64 k ∧ v = .int .i64 (num bs k)) (fun _ i => 4 - (intOf i).toNat)
  case atStart => exact ⟨0, by omega, rfl, rfl⟩
  case round =>
    obtain ⟨k, hk, rfl, rfl⟩ := hrel
    by_cases hlt : k < 4
    · have s0 := num_nonneg bs k
      have s1 := num_small bs k hlt
      obtain ⟨b', o', m, rfl, hm, hm2⟩ := hb.at_ k (by omega)
      have hm0 := byte_lt (bs.getD k 0)
      have HM := Lib.hid hm2
      have m0 : 0 ≤ m := by omega
      have m1 : m < 256 := by omega
      clear hm2 hm0
      have i0 : (0 : Int) ≤ (k : Int) := by omega
      have i1 : (k : Int) < 4 := by omega
      go_wp2_with fail
      go_round
      case rel => exact ⟨k + 1, by omega, by go_num, by rw [num, HM.out]⟩
      case measure => simp [intOf]; omega
    · obtain rfl : k = 4 := by omega
      go_wp2_with fail
      go_ret
      exact ⟨rfl, rfl⟩
end Go.Proofs.Ytjgiiolamaimnaa
