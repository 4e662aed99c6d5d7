/- The law SumTells, walked: bytes with some bits turned. -/
import Derived.Test.YtgjmhcebhgpidaaHead
import Derived.Test.YtgjmhcebhgpidaaTurn
namespace Go.Proofs.Ytgjmhcebhgpidaa
open Go.RowKit
theorem own_form {w : World} {B : Nat} {e : TypeId} {sz n c : Nat} {A : Option Addr} {xs : List Value} (h : w.ownsRow B e sz (.slice A n c) n xs) (hA : A ≠ none) : ∃ g, A = some ⟨g, 0, none⟩ ∧ B ≤ g := by
  rcases h.2 with ⟨h1, _⟩ | ⟨g, cap, cur, h1, hb, _⟩
  · injection h1 with h1; exact absurd h1 hA
  · injection h1 with h1; exact ⟨g, h1, hb⟩
theorem bvals_set (bs : List UInt8) (j : Nat) (b : UInt8) : (bvals bs).set j (.int .u8 ((b.toNat : Nat) : Int)) = bvals (bs.set j b) := by simp [bvals]
theorem U.bit {n : Int} {v : Crc.R} (u : U n v) (k : Nat) : ((n / 2 ^ k).tmod 2 == 0) = !v.getLsbD k := by
  unfold U at u
  rw [u, BitVec.getLsbD, Nat.testBit_eq_decide_div_mod_eq]
  generalize v.toNat = x
  have e : (x : Int) / 2 ^ k = ((x / 2 ^ k : Nat) : Int) := by rw [Int.natCast_ediv]; simp
  rw [e]
  generalize x / 2 ^ k = y
  rw [Int.tmod_eq_emod_of_nonneg (by omega)]
  rcases Nat.mod_two_eq_zero_or_one y with h | h
  · have h1 : ((y : Int) % 2) = 0 := by omega
    rw [h1, h]; rfl
  · have h1 : ((y : Int) % 2) = 1 := by omega
    rw [h1, h]; rfl
theorem flip_val (b : UInt8) {x : Int} (hx : x = ((b.toNat : Nat) : Int)) (j : Nat) (hj : j < 8) : bits .xor .u8 x (2 ^ j % 256) = (((UInt8.ofNat (b.toNat ^^^ 2 ^ j)).toNat : Nat) : Int) := by
  have h2 : (2 : Nat) ^ j < 2 ^ 8 := Nat.pow_lt_pow_right (by omega) hj
  have hb := b.toNat_lt
  have e : ((2 : Int) ^ j % 256) = ((2 ^ j : Nat) : Int) := by
    have : ((2 ^ j : Nat) : Int) % 256 = ((2 ^ j : Nat) : Int) := Int.emod_eq_of_lt (Int.natCast_nonneg _) (Int.ofNat_lt.2 (show 2 ^ j < 256 from h2))
    rw [← this]; simp
  rw [hx, e, u8_xor_nat _ _ hb h2, UInt8.toNat_ofNat', Nat.mod_eq_of_lt (Nat.xor_lt_two_pow hb h2)]
set_option maxHeartbeats 400000 in
theorem turned_any (A : Option Addr) (l c : Nat) (bs : List UInt8) (at_ m : Int) (s : Crc.R) (w : World) (hb : Bytes w A l bs) (hl : l ≤ 140737488355328) (ha0 : -9223372036854775808 ≤ at_) (ha1 : at_ ≤ 9223372036854775807) (u : U m s) :
    Calls Try.prog 16 #[.slice A l c, .int .i64 at_, .int .u32 m] w fun e w' =>
      ∃ A' c' os t, e = .returned (.tuple #[.slice A' l c', .bool t]) ∧ Bytes w' A' l os ∧ Crc.Turned bs at_ s 32 os t ∧ Below w.heap.size w w' := by
  have hm0 := u.lo
  have hm1 := u.hi
  have hbl := Lib.hid hb.1
  go_enter Try.func16, Try.ntmps16
  go_wp2_with (go_at_call 11; refine (copied_any _ _ _ _ _ hb hl).mono ?_; rintro e w1 ⟨A1, c1, rfl, ho1, hB1, hA1⟩)
  obtain ⟨g, rfl, hg⟩ := own_form ho1 hA1
  go_loopw [9, 10] (fun any i wr => ∃ k : Nat, k ≤ 32 ∧ i = .int .i64 k ∧ ∃ t os, any = .bool t ∧ wr.ownsRow w.heap.size 5 1 (.slice (some ⟨g, 0, none⟩) l c1) l (bvals os) ∧ Crc.Turned bs at_ s k os t ∧ Below w.heap.size w wr) (fun _ i _ => 32 - (intOf i).toNat)
  case atStart => exact ⟨0, by omega, rfl, _, _, rfl, ho1, .start _ _ _, hB1⟩
  case round =>
    obtain ⟨k, hk, rfl, t, os, rfl, hor, hT, hBr⟩ := hrel
    by_cases hlt : k < 32
    · have hbit := u.bit k
      by_cases hdo : 0 ≤ at_ ∧ at_ ≤ 8 * (l : Int) - 1 - k ∧ s.getLsbD k = true
      · obtain ⟨hd1, hd2, hs⟩ := hdo
        obtain ⟨a, rfl⟩ := Int.eq_ofNat_of_zero_le hd1
        rw [hs, Bool.not_true] at hbit
        have hi : (a + k) / 8 < l := by omega
        have hosl : Hid (os.length = l) := Lib.hid (hT.1.trans hbl.out)
        obtain ⟨x, hx⟩ : ∃ x : Int, x = (((os.getD ((a + k) / 8) 0).toNat : Nat) : Int) := ⟨_, rfl⟩
        have hx0 : 0 ≤ x := by omega
        have hx1 : x < 256 := by rw [hx]; exact byte_lt _
        have hc : wr.cell? ⟨g, (a + k) / 8, none⟩ = some (.int .u8 (((os.getD ((a + k) / 8) 0).toNat : Nat) : Int)) := (hor.cellAt _ (by omega)).trans (bvals_at os _ (by rw [hosl.out]; exact hi))
        rw [← hx] at hc
        have HX := Lib.hid hx
        clear hx
        have hf := hor.frozenAt ((a + k) / 8)
        go_wp2
        rw [flip_val _ HX.out ((a + k) % 8) (Nat.mod_lt _ (by omega))]
        have hst := hor.stored ((a + k) / 8) (.int .u8 (((UInt8.ofNat ((os.getD ((a + k) / 8) 0).toNat ^^^ 2 ^ ((a + k) % 8))).toNat : Nat) : Int))
        rw [bvals_set] at hst
        go_roundw
        case rel => exact ⟨k + 1, by omega, by go_num, _, _, rfl, hst.1, hT.turn hs (by rw [hbl.out]; omega), hBr.setCell hg _⟩
        case measure => simp [intOf]; omega
      · have hsk : s.getLsbD k = false ∨ at_ < 0 ∨ ¬ (at_ + k < 8 * bs.length) := by
          have := hbl.out
          rcases Bool.eq_false_or_eq_true (s.getLsbD k) with h | h
          · by_cases h2 : at_ < 0
            · exact .inr (.inl h2)
            · refine .inr (.inr fun h3 => hdo ⟨by omega, by omega, h⟩)
          · exact .inl h
        rcases hsk with h | h | h
        · rw [h, Bool.not_false] at hbit
          go_wp2
          all_goals
            go_roundw
            case rel => exact ⟨k + 1, by omega, by go_num, _, _, rfl, hor, hT.skip (.inl h), hBr⟩
            case measure => simp [intOf]; omega
        · go_wp2
          all_goals
            go_roundw
            case rel => exact ⟨k + 1, by omega, by go_num, _, _, rfl, hor, hT.skip (.inr (.inl h)), hBr⟩
            case measure => simp [intOf]; omega
        · have h' := h
          rw [hbl.out] at h'
          go_wp2
          all_goals
            go_roundw
            case rel => exact ⟨k + 1, by omega, by go_num, _, _, rfl, hor, hT.skip (.inr (.inr h)), hBr⟩
            case measure => simp [intOf]; omega
    · obtain rfl : k = 32 := by omega
      go_wp2
      go_ret2
      exact ⟨_, _, os, t, rfl, own_bytes' hor (by omega), hT, hBr⟩
set_option maxHeartbeats 400000 in
theorem sumTells_any (A : Option Addr) (l c : Nat) (bs : List UInt8) (at_ m : Int) (w : World) (hb : Bytes w A l bs) (hl : l ≤ 140737488355328) (ha0 : -9223372036854775808 ≤ at_) (ha1 : at_ ≤ 9223372036854775807) (hm0 : 0 ≤ m) (hm1 : m ≤ 4294967295) :
    Calls Try.prog 5 #[.slice A l c, .int .i64 at_, .int .u32 m] w fun e w' => e = .returned (.bool true) ∧ Below w.heap.size w w' := by
  obtain ⟨s, u⟩ : ∃ s, U m s := ⟨BitVec.ofNat 32 m.toNat, by unfold U; rw [BitVec.toNat_ofNat]; omega⟩
  go_enter Try.func5, Try.ntmps5
  go_wp2_with fail
  refine (head_any _).mono ?_
  rintro e w1 ⟨rfl, hB1⟩
  have hb1 := hb.below hB1
  go_wp2_with fail
  refine (turned_any _ _ _ _ _ _ _ _ hb1 hl ha0 ha1 u).mono ?_
  rintro e w2 ⟨A2, c2, os, t, rfl, hb2, hT, hB2⟩
  have hB12 := below_then hB1 hB2 hB1.size
  cases t with
  | false =>
    go_wp2
    go_ret
    exact ⟨rfl, hB12⟩
  | true =>
    go_wp2_with fail
    refine (copied_any _ _ _ _ _ (hb.below hB12) hl).mono ?_
    rintro e w3 ⟨A3, c3, rfl, ho3, hB3, -⟩
    have hB13 := below_then hB12 hB3 hB12.size
    go_wp2_with fail
    refine (of_any _ _ _ _ _ (own_bytes' ho3 (by omega))).mono ?_
    rintro e w4 ⟨n4, rfl, u4, hB4⟩
    have hB14 := below_then hB13 hB4 hB13.size
    go_wp2_with fail
    refine (of_any _ _ _ _ _ ((hb2.below hB3).below hB4)).mono ?_
    rintro e w5 ⟨n5, rfl, u5, hB5⟩
    have hB15 := below_then hB14 hB5 hB14.size
    have hne : (n4 != n5) = true := by
      rw [bne_iff_ne]
      rintro rfl
      exact hT.unlike (BitVec.eq_of_toNat_eq (by unfold U at u4 u5; omega))
    go_wp2
    go_ret
    exact ⟨by simp, hB15⟩
end Go.Proofs.Ytgjmhcebhgpidaa
