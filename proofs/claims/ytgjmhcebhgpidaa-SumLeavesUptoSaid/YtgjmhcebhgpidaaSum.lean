/- Package sum, walked: steps, More, Of. -/
import Derived.Test.YtgjmhcebhgpidaaRef
import Derived.Laws.Rows
namespace Go.Proofs.Ytgjmhcebhgpidaa
open Go.RowKit
set_option linter.unusedVariables false
set_option linter.unusedSimpArgs false
/-- The first k cells are what the register comes to over half a byte. -/
def Tab (k : Nat) (c : Array Value) : Prop := c.size = 16 ∧ ∀ j, j < 16 → ∃ x, c[j]? = some (.int .u32 x) ∧ (j < k → U x (Crc.steps 4 (BitVec.ofNat 32 j)))
theorem Tab.zero : Tab 0 (Array.replicate 16 (Value.int .u32 0)) := ⟨by simp, fun j hj => ⟨0, by simp [hj], fun h => by omega⟩⟩
theorem Tab.set {k : Nat} {c : Array Value} {x : Int} (h : Tab k c) (hk : k < 16) (u : U x (Crc.steps 4 (BitVec.ofNat 32 k))) : Tab (k + 1) (c.setIfInBounds k (.int .u32 x)) := by
  refine ⟨by simp [h.1], fun j hj => ?_⟩
  by_cases e : j = k
  · subst e
    exact ⟨x, by simp [h.1, hj], fun _ => u⟩
  · obtain ⟨y, hy, hu⟩ := h.2 j hj
    exact ⟨y, by rw [Array.getElem?_setIfInBounds_ne (by omega)]; exact hy, fun _ => hu (by omega)⟩
theorem U.low {n : Int} {v : Crc.R} (u : U n v) : (bits .and .u32 n 1 == 1) = v.getLsbD 0 := by
  have h : bits .and .u32 n 1 = n % 2 := by
    have := v.isLt
    unfold U at u
    rw [u]
    refine (u32_and_nat v.toNat 1 (by omega) (by omega)).trans ?_
    rw [Nat.and_one_is_mod]
    omega
  rw [h, u.odd]
theorem U.low_yes {n : Int} {v : Crc.R} (u : U n v) (h : (bits .and .u32 n 1 == 1) = true) : U (bits .xor .u32 (n / 2) 3988292384) (Crc.step v) := u.step_yes (by rw [u.odd, ← u.low]; exact h)
theorem U.low_no {n : Int} {v : Crc.R} (u : U n v) (h : (bits .and .u32 n 1 == 1) = false) : U (n / 2) (Crc.step v) := u.step_no (by rw [u.odd, ← u.low]; exact h)
theorem Tab.cells {k : Nat} {c : Array Value} (h : Tab k c) : c.all (·.oneCell') = true := by
  rw [Array.all_eq_true]
  intro i hi
  obtain ⟨x, hx, -⟩ := h.2 i (by rw [← h.1]; exact hi)
  rw [Array.getElem?_eq_getElem hi] at hx
  rw [Option.some.inj hx]; rfl
theorem Tab.info {k : Nat} {c : Array Value} (h : Tab k c) : Hid ((Try.prog.info? 53).map (·.size) = some c.size) := Lib.hid (by rw [h.1]; kernel_rfl)
set_option maxHeartbeats 400000 in
theorem steps_any (w : World) :
    Calls Try.prog 26 #[] w fun e w' => ∃ c, e = .returned (.agg c) ∧ Tab 16 c ∧ Below w.heap.size w w' := by
  go_enter Try.func26, Try.ntmps26
  go_wp2
  go_loopw [5] (fun i wr => ∃ k : Nat, ∃ c : Array Value, k ≤ 16 ∧ i = .int .i64 k ∧ Tab k c ∧ wr = (w.alloc (.cells (Array.replicate 16 (Value.int .u32 0)) 53)).alloc (.cells c 53)) (fun i _ => 16 - (intOf i).toNat)
  case atStart => exact ⟨0, _, by omega, rfl, Tab.zero, rfl⟩
  case round =>
    obtain ⟨k, c, hk, rfl, hT, rfl⟩ := hrel
    by_cases hlt : k < 16
    · go_wp2
      go_loop [3, 10] (fun r i => ∃ m : Nat, m ≤ 4 ∧ i = .int .i64 m ∧ ∃ q, r = .int .u32 q ∧ U q (Crc.steps m (BitVec.ofNat 32 k))) (fun _ i => 4 - (intOf i).toNat)
      case atStart => exact ⟨0, by omega, rfl, _, rfl, by unfold U; rw [Crc.steps, BitVec.toNat_ofNat, Nat.mod_eq_of_lt (by omega)]⟩
      case round =>
        obtain ⟨m, hm, rfl, q, rfl, uq⟩ := hrel
        have hq0 := uq.lo
        have hq1 := uq.hi
        by_cases hlt2 : m < 4
        · go_wp2
          · go_round
            case rel => exact ⟨m + 1, by omega, by go_num, _, rfl, uq.low_yes (by assumption)⟩
            case measure => simp [intOf]; omega
          · go_round
            case rel => exact ⟨m + 1, by omega, by go_num, _, rfl, uq.low_no (by assumption)⟩
            case measure => simp [intOf]; omega
        · obtain rfl : m = 4 := by omega
          obtain ⟨x0, hx0, -⟩ := hT.2 k hlt
          have hcs := hT.1
          go_wp2
          go_roundw
          case rel => exact ⟨k + 1, _, by omega, by go_num, hT.set hlt uq, rfl⟩
          case measure => simp [intOf]; omega
    · obtain rfl : k = 16 := by omega
      have hcs : (Try.prog.info? 53).map (·.size) = some c.size := by rw [hT.1]; kernel_rfl
      have hc0 : (Try.prog.info? 53).map (·.size) = some (Array.replicate 16 (Value.int .u32 0)).size := by kernel_rfl
      have H1 := Lib.hid hcs
      clear hcs hc0
      go_wp2_with (first | (refine wpList_load_row rfl 53 (.tmp 1) rfl (w.heap.size + 1) rfl 53 c (0, 0) _ (heap_alloc2_new _ _ _) Try.underlying53 rfl H1.out ?_) | (refine wpList_store_row rfl 53 (.tmp 0) (.tmp 25) rfl w.heap.size c rfl rfl 53 _ (heap_alloc2_old _ _ _) H1.out (by simp [hT.1]) hT.cells ?_))
      refine bodyPost_ret (results_cell_row rfl _ _ w.heap.size 53 c (0, 0) _ rfl (setRow_heap _ _ _ _ _ _ (heap_alloc2_old _ _ _)) Try.underlying53 rfl H1.out) rfl ⟨c, rfl, hT, ?_⟩
      exact below_row (((Below.refl _ _).alloc (Nat.le_refl _) _).alloc (by simp) _) (Nat.le_refl _) _

/-- One half of a byte goes through the table. -/
theorem Tab.at_ {T : Array Value} (hT : Tab 16 T) {q : Int} {v : Crc.R} (u : U q v) :
    ∃ x, T[(bits .and .u32 q 15).toNat]? = some (.int .u32 x) ∧ 0 ≤ bits .and .u32 q 15 ∧ bits .and .u32 q 15 < 16 ∧ 0 ≤ x ∧ x ≤ 4294967295 ∧ U (bits .xor .u32 (q / 16) x) (Crc.steps 4 v) := by
  have ua : U (bits .and .u32 q 15) (v &&& 15#32) := u.and (by unfold U; decide)
  have hlt : (v &&& 15#32).toNat < 16 := by
    rw [BitVec.toNat_and]
    exact Nat.lt_of_le_of_lt Nat.and_le_right (by decide)
  have e : (bits .and .u32 q 15).toNat = (v &&& 15#32).toNat := by unfold U at ua; rw [ua]; rfl
  obtain ⟨x, hx, ux⟩ := hT.2 _ hlt
  have ux := ux hlt
  rw [BitVec.ofNat_toNat, BitVec.setWidth_eq] at ux
  refine ⟨x, by rw [e]; exact hx, ua.lo, ?_, ux.lo, ux.hi, ?_⟩
  · unfold U at ua; omega
  · rw [Crc.nib]
    exact (u.shr 4).xor ux
set_option maxHeartbeats 400000 in
theorem more_any (n : Int) (s : Crc.R) (A : Option Addr) (l c : Nat) (bs : List UInt8) (w : World) (u : U n s) (hb : Bytes w A l bs) :
    Calls Try.prog 15 #[.int .u32 n, .slice A l c] w fun e w' => ∃ n, e = .returned (.int .u32 n) ∧ U n (Crc.more s bs) ∧ Below w.heap.size w w' := by
  have hv := u.lo
  have hv1 := u.hi
  have hl := hb.2.1
  go_enter Try.func15, Try.ntmps15
  go_wp2_with (first | (go_at_call 26; refine (steps_any _).mono ?_; rintro e w1 ⟨T, rfl, hT, hB⟩; have H1 := hT.info) | (refine wpList_store_row rfl 53 (.tmp 5) (.tmp 9) rfl _ _ rfl rfl 53 _ (heap_alloc_new _ _) H1.out (by simp [hT.1]) hT.cells ?_))
  have hw2 : ∀ j x, T[j]? = some x → ((w1.alloc (.cells (Array.replicate 16 (Value.int .u32 0)) 53)).setRow w1.heap.size T).cell? ⟨w1.heap.size, j, none⟩ = some x :=
    fun j x hx => (cell_of_row _ _ _ _ _ _ (setRow_heap _ _ _ _ _ _ (heap_alloc_new _ _))).trans hx
  have hB2 : Below w.heap.size w ((w1.alloc (.cells (Array.replicate 16 (Value.int .u32 0)) 53)).setRow w1.heap.size T) := below_row (hB.alloc hB.size _) hB.size _
  have hb2 := hb.below hB2
  simp only [Array.replicate_succ, Array.replicate_zero, List.push_toArray, List.nil_append, List.cons_append] at hw2 hB2 hb2
  generalize (w1.alloc _).setRow w1.heap.size T = w2 at *
  generalize w1.heap.size = g at *
  go_loop [6, 14] (fun v1 i => ∃ k : Nat, k ≤ l ∧ i = .int .i64 k ∧ ∃ q, v1 = .int .u32 q ∧ U q (Crc.crcR (~~~ s) (bs.take k))) (fun _ i => l - (intOf i).toNat)
  case atStart => exact ⟨0, by omega, rfl, _, rfl, u.not'⟩
  case round =>
    obtain ⟨k, hk, rfl, q, rfl, uq⟩ := hrel
    by_cases hlt : k < l
    · obtain ⟨b, o, m, rfl, hc, hm⟩ := hb2.at_ k hlt
      have um : U m (Crc.ofByte (bs.getD k 0)) := by rw [hm]; exact .byte _
      have um0 := um.lo
      have um1 : m < 256 := by rw [hm]; exact byte_lt _
      clear hm
      have u1 := uq.xor um
      obtain ⟨x1, hx1, i10, i11, x10, x11, u2⟩ := hT.at_ u1
      obtain ⟨x2, hx2, i20, i21, x20, x21, u3⟩ := hT.at_ u2
      have hc1 := hw2 _ _ hx1
      have hc2 := hw2 _ _ hx2
      have q10 := u1.lo
      have q11 := u1.hi
      have q20 := u2.lo
      have q21 := u2.hi
      clear hx1 hx2
      go_wp2
      go_round
      case rel => exact ⟨k + 1, by omega, by go_num, _, rfl, by rw [crc_take_succ _ _ _ (by rw [hb.1]; exact hlt), Crc.take_nib]; exact u3⟩
      case measure => simp [intOf]; omega
    · obtain rfl : k = l := by omega
      go_wp2
      go_ret
      refine ⟨_, rfl, ?_, hB2⟩
      have := uq.not'
      rwa [← hb.1, List.take_length] at this
theorem of_any (A : Option Addr) (l c : Nat) (bs : List UInt8) (w : World) (hb : Bytes w A l bs) :
    Calls Try.prog 13 #[.slice A l c] w fun e w' => ∃ n, e = .returned (.int .u32 n) ∧ U n (Crc.more 0 bs) ∧ Below w.heap.size w w' := by
  go_enter Try.func13, Try.ntmps13
  go_wp2_with (go_at_call 15; refine (more_any _ _ _ _ _ _ _ U.zero hb).mono ?_; rintro e w' ⟨r, rfl, ur, hB⟩)
  go_ret
  exact ⟨_, rfl, ur, hB⟩
end Go.Proofs.Ytgjmhcebhgpidaa
