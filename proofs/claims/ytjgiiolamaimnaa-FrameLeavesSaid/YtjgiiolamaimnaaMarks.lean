/- The law package's lent, filled, grown, marked, fill over bytes. -/
import Derived.Test.YtjgiiolamaimnaaHelp
import Derived.Test.YtjgiiolamaimnaaFoot
namespace Go.Proofs.Ytjgiiolamaimnaa
open Go.RowKit
set_option linter.unusedVariables false
set_option linter.unusedSimpArgs false
theorem growM {w w1 w2 : World} {v0 v1 v2 : Option Nat} (h : w.grownBy w1 v0) (k : w1.grownBy w2 v1) (hv : v1 = v0 ∨ ∃ b, v1 = some b ∧ w.heap.size ≤ b) (hv2 : v2 = v1 ∨ ∃ b, v2 = some b ∧ w1.heap.size ≤ b) : w.grownBy w2 v0 ∧ (v2 = v0 ∨ ∃ b, v2 = some b ∧ w.heap.size ≤ b) := by
  refine ⟨⟨k.os.trans h.os, k.tape.trans h.tape, k.output.trans h.output, Nat.le_trans h.size k.size, fun i hi hr => ?_⟩, ?_⟩
  · refine (k.block i (Nat.lt_of_lt_of_le hi h.size) ?_).trans (h.block i hi hr)
    rcases hv with rfl | ⟨b, rfl, hb⟩
    · exact hr
    · intro e
      cases e
      omega
  · rcases hv2 with rfl | ⟨b, rfl, hb⟩
    · exact hv
    · exact .inr ⟨b, rfl, Nat.le_trans h.size hb⟩
/-- What a row that was grown is. -/
def GrownB (B : Nat) (A : Option Addr) (m : Nat) (zs : List UInt8) (w : World) (e : Ending) (w' : World) : Prop :=
  ∃ A' c', e = .returned (.slice A' m c') ∧ w'.ownsRow B 5 1 (.slice A' m c') m (bvals zs) ∧ Chg (fun q => blkO A = some q) w w' ∧ (blkO A' = blkO A ∨ ∃ b, blkO A' = some b ∧ w.heap.size ≤ b)
theorem bvals_setM (zs : List UInt8) (k : Nat) (y : UInt8) : (bvals zs).set k (Value.int .u8 ((y.toNat : Nat) : Int)) = bvals (zs.set k y) := by
  rw [bvals, bvals, List.map_set]
set_option maxHeartbeats 800000 in
theorem grownB_any (B : Nat) (A : Option Addr) (n c : Nat) (zs : List UInt8) (mk : UInt8) (w : World) (ho : w.ownsRow B 5 1 (.slice A n c) n (bvals zs)) (hB : B ≤ w.heap.size) (hn : n ≤ 150000000000000) :
    Calls Try.prog 31 #[.slice A n c, .int .u8 ((mk.toNat : Nat) : Int)] w (GrownB B A (n + 80) (zs ++ List.replicate 80 mk) w) := by
  have hb0 := mk.toNat_lt
  obtain ⟨mi, hmi⟩ : ∃ mi : Int, ((mk.toNat : Nat) : Int) = mi := ⟨_, rfl⟩
  have HMI := Lib.hid hmi
  rw [hmi]
  clear hmi
  go_enter Try.func31, Try.ntmps31
  go_wp2
  go_loopw [0, 5] (fun v i wr => ∃ k : Nat, ∃ A1 c1, k ≤ 80 ∧ i = .int .i64 k ∧ v = .slice A1 (n + k) c1 ∧ wr.ownsRow B 5 1 (.slice A1 (n + k) c1) (n + k) (bvals (zs ++ List.replicate k mk)) ∧ B ≤ wr.heap.size ∧ w.grownBy wr (Value.ownBlock (.slice A n c)) ∧
    (Value.ownBlock (.slice A1 (n + k) c1) = Value.ownBlock (.slice A n c) ∨ ∃ b, Value.ownBlock (.slice A1 (n + k) c1) = some b ∧ w.heap.size ≤ b)) (fun _ i _ => 80 - (intOf i).toNat)
  case atStart => exact ⟨0, A, c, by omega, rfl, rfl, by simpa using ho, hB, World.grownBy.refl _ _, .inl rfl⟩
  case round =>
    obtain ⟨k, A1, c1, hk, rfl, rfl, hor, hBr, hgr, hv⟩ := hrel
    have HV := Lib.hid hv
    have HG := Lib.hid hgr
    clear hv hgr ho
    by_cases hlt : k < 80
    · have hBa := below_alloc wr (.cells #[.int .u8 mi] 5)
      have hora := own_below hor hBa
      have hR := rdc_block (heap_alloc_new wr (.cells #[.int .u8 mi] 5))
      have hGa := Lib.hid (grown_trans HG.out (grown_of_below hBa (Value.ownBlock (.slice A n c))))
      have hs : B ≤ (wr.alloc (.cells #[.int .u8 mi] 5)).heap.size := Nat.le_trans hBr hBa.size
      go_wp2_with (at_builtin; refine wpl_append _ rfl (.tmp 10) (.tmp 12) 22 rfl B 5 _ 1 1 Try.underlying22 info_byte rfl (by decide) (.slice A1 (n + k) c1) (n + k) _ rfl hora _ 1 1 [.int .u8 mi] rfl hR (by simp [Value.oneCell']) (by decide) (by decide) (by omega) hs ?_; intro A2 c3 wa hown2 hgr2 hne2 hnn2; clear hnn2)
      obtain ⟨g1, g2⟩ := growM hGa.out hgr2 HV.out hne2
      have hsz := Nat.le_trans hs hgr2.size
      rw [show bvals (zs ++ List.replicate k mk) ++ [Value.int .u8 mi] = bvals (zs ++ List.replicate (k + 1) mk) by rw [List.replicate_succ', ← List.append_assoc, ← HMI.out]; exact (bvals_append _ [mk]).symm] at hown2
      go_roundw
      case rel => exact ⟨k + 1, A2, c3, by omega, by go_num, rfl, hown2, hsz, g1, g2⟩
      case measure => simp [intOf]; omega
    · obtain rfl : k = 80 := by omega
      go_wp2
      go_ret
      have h1 := chg_grown HG.out
      have h2 := HV.out
      rw [ownBlock_slice, ownBlock_slice] at h2
      rw [ownBlock_slice] at h1
      exact ⟨A1, c1, rfl, hor, h1, h2⟩
theorem set_marks {zs : List UInt8} {k n : Nat} {y : UInt8} (hl : zs.length = n) (hk : k < n) (h : ∀ j, j < k → zs.getD j 0 = y) : ∀ j, j < k + 1 → (zs.set k y).getD j 0 = y := by
  intro j hj
  by_cases e : j = k
  · subst e
    rw [List.getD_eq_getElem?_getD, List.getElem?_set_self (by omega)]
    rfl
  · rw [List.getD_eq_getElem?_getD, List.getElem?_set_ne (by omega), ← List.getD_eq_getElem?_getD]
    exact h j (by omega)
theorem all_marks {zs : List UInt8} {n : Nat} {y : UInt8} (hl : zs.length = n) (h : ∀ j, j < n → zs.getD j 0 = y) : zs = List.replicate n y := by
  refine List.ext_getElem (by simp [hl]) fun i h1 h2 => ?_
  have := h i (by omega)
  rw [List.getD_eq_getElem?_getD, List.getElem?_eq_getElem h1] at this
  simpa using this
/-- What fill does: each byte is the mark. -/
def FillB (B : Nat) (A : Option Addr) (n c : Nat) (y : UInt8) (w : World) (e : Ending) (w' : World) : Prop :=
  e = .returned (.tuple #[]) ∧ w'.ownsRow B 5 1 (.slice A n c) n (bvals (List.replicate n y)) ∧ Chg (fun q => blkO A = some q) w w'
set_option maxHeartbeats 800000 in
theorem fillB_any (B : Nat) (A : Option Addr) (n c : Nat) (bs : List UInt8) (y : UInt8) (w : World) (ho : w.ownsRow B 5 1 (.slice A n c) n (bvals bs)) (hn : n ≤ 214748364800000) :
    Calls Try.prog 30 #[.slice A n c, .int .u8 ((y.toNat : Nat) : Int)] w (FillB B A n c y w) := by
  have hcap : n ≤ c := by
    rcases ho.2 with ⟨h0, rfl⟩ | ⟨g, cap, cur, h0, _, _, h1, _⟩
    · exact Nat.zero_le _
    · injection h0 with _ _ h2
      omega
  have hl : bs.length = n := by have := ho.1; rwa [bvals_length, Nat.mul_one] at this
  have hb0 := y.toNat_lt
  obtain ⟨mi, hmi⟩ : ∃ mi : Int, ((y.toNat : Nat) : Int) = mi := ⟨_, rfl⟩
  have HMI := Lib.hid hmi
  rw [hmi]
  clear hmi
  go_enter Try.func30, Try.ntmps30
  go_wp2
  go_loopw [7] (fun i wr => ∃ k : Nat, ∃ zs : List UInt8, k ≤ n ∧ i = .int .i64 k ∧ zs.length = n ∧ Hid (∀ j, j < k → zs.getD j 0 = y) ∧ wr.ownsRow B 5 1 (.slice A n c) n (bvals zs) ∧ Chg (fun q => blkO A = some q) w wr) (fun i _ => n - (intOf i).toNat)
  case atStart => exact ⟨0, bs, by omega, rfl, hl, Lib.hid (fun j hj => by omega), ho, Chg.refl _ _⟩
  case round =>
    clear ho hl
    obtain ⟨k, zs, hk, rfl, hl, HJ, ho, hC⟩ := hrel
    by_cases hlt : k < n
    · rcases ho.2 with ⟨_, h0⟩ | ⟨g5, cap5, cur5, hv5, -⟩
      · omega
      injection hv5 with e1 e2 e3
      subst e1
      have hcell : wr.cell? ⟨g5, k, none⟩ = some (.int .u8 (((zs.getD k 0).toNat : Nat) : Int)) := (ho.cellAt k (by omega)).trans (bvals_at _ _ (by omega))
      have hfr := ho.frozenAt k
      have HST := Lib.hid (ho.stored k (.int .u8 mi)).1
      have HL2 := Lib.hid hl
      have HC := Lib.hid (hC.set (g := g5) (.inl rfl) k (.int .u8 mi))
      have j0 : (0 : Int) ≤ (k : Int) := by omega
      have j1 : (k : Int) < (n : Int) := by omega
      clear hl ho hC
      go_wp2_with fail
      go_roundw
      case rel => exact ⟨k + 1, zs.set k y, by omega, by go_num, by rw [List.length_set]; exact HL2.out, Lib.hid (set_marks HL2.out hlt HJ.out), by rw [← bvals_setM, HMI.out]; exact HST.out, HC.out⟩
      case measure => simp [intOf]; omega
    · obtain rfl : n = k := by omega
      have hz := all_marks hl HJ.out
      rw [hz] at ho
      go_wp2
      refine bodyPost_ret (results_none rfl _ _ _) rfl ?_
      exact ⟨rfl, ho, hC⟩
set_option maxHeartbeats 800000 in
theorem filledB_any (n : Nat) (y : UInt8) (w : World) (hn : n ≤ 150000000000000) :
    Calls Try.prog 40 #[.int .i64 (n : Nat), .int .u8 ((y.toNat : Nat) : Int)] w fun e w' => ∃ A c, e = .returned (.slice A n c) ∧ w'.ownsRow w.heap.size 5 1 (.slice A n c) n (bvals (List.replicate n y)) ∧ Below w.heap.size w w' := by
  obtain ⟨i0, hi, hz0, hz1, hz2⟩ := info_parts info_byte
  have hb0 := y.toNat_lt
  obtain ⟨mi, hmi⟩ : ∃ mi : Int, ((y.toNat : Nat) : Int) = mi := ⟨_, rfl⟩
  have HMI := Lib.hid hmi
  rw [hmi]
  clear hmi
  go_enter Try.func40, Try.ntmps40
  go_wp2_with (at_make; refine wpList_make_full _ rfl (.tmp 7) (.tmp 7) 22 rfl w.heap.size 5 i0 (.int .u8 0) 1 Try.underlying22 hi hz0 hz1 .i64 .i64 _ _ n rfl rfl rfl rfl (by rw [hz2]; omega) (by simp [maxLen]; omega) (Nat.le_refl _) ?_; intro w1 hown hgr; rw [Nat.mul_one] at hown)
  have hB1 := below_of_grown hgr (Nat.le_refl _) (fun k h => by cases h)
  have hz : (madeCells (Value.int .u8 0).cells n).toList = bvals (List.replicate n 0) := by
    rw [show (Value.int .u8 0).cells = #[Value.int .u8 0] from rfl, toList_madeCells_one]
    simp [bvals]
  rw [hz] at hown
  go_loopw [11] (fun i wr => ∃ k : Nat, ∃ zs : List UInt8, k ≤ n ∧ i = .int .i64 k ∧ zs.length = n ∧ Hid (∀ j, j < k → zs.getD j 0 = y) ∧ wr.ownsRow w.heap.size 5 1 (.slice (some ⟨w.heap.size, 0, none⟩) n n) n (bvals zs) ∧ Below w.heap.size w wr) (fun i _ => n - (intOf i).toNat)
  case atStart => exact ⟨0, _, by omega, rfl, by simp, Lib.hid (fun j hj => by omega), hown, hB1⟩
  case round =>
    clear hown hgr hB1
    obtain ⟨k, zs, hk, rfl, hl, HJ, ho, hB⟩ := hrel
    by_cases hlt : k < n
    · have hcell : wr.cell? ⟨w.heap.size, k, none⟩ = some (.int .u8 (((zs.getD k 0).toNat : Nat) : Int)) := (ho.cellAt k (by omega)).trans (bvals_at _ _ (by omega))
      have hfr := ho.frozenAt k
      have HST := Lib.hid (ho.stored k (.int .u8 mi)).1
      have HL2 := Lib.hid hl
      have HB := Lib.hid (hB.setCell (p := ⟨w.heap.size, k, none⟩) (Nat.le_refl _) (.int .u8 mi))
      have j0 : (0 : Int) ≤ (k : Int) := by omega
      have j1 : (k : Int) < (n : Int) := by omega
      clear hl ho hB
      go_wp2_with fail
      go_roundw
      case rel => exact ⟨k + 1, zs.set k y, by omega, by go_num, by rw [List.length_set]; exact HL2.out, Lib.hid (set_marks HL2.out hlt HJ.out), by rw [← bvals_setM, HMI.out]; exact HST.out, HB.out⟩
      case measure => simp [intOf]; omega
    · obtain rfl : n = k := by omega
      have hz := all_marks hl HJ.out
      rw [hz] at ho
      go_wp2
      go_ret
      exact ⟨_, _, rfl, ho, hB⟩
set_option maxHeartbeats 800000 in
theorem markedB_any (A : Option Addr) (m c n : Nat) (bs : List UInt8) (y z : UInt8) (w : World) (hb : Bytes w A m bs) (hn : n ≤ 100000000000000) :
    Calls Try.prog 32 #[.slice A m c, .int .i64 (n : Nat), .int .u8 ((y.toNat : Nat) : Int), .int .u8 ((z.toNat : Nat) : Int)] w fun e w' => e = .returned (.bool (bs == List.replicate n y ++ List.replicate 80 z)) ∧ Below w.heap.size w w' := by
  go_enter Try.func32, Try.ntmps32
  go_wp2_with fail
  refine (filledB_any n y w (by omega)).mono ?_
  rintro e w1 ⟨A1, c1, rfl, ho1, hb1⟩
  go_wp2_with fail
  refine (filledB_any 80 z w1 (by omega)).mono ?_
  rintro e w2 ⟨A2, c2, rfl, ho2, hb2⟩
  have hB2 := below_then hb1 hb2 hb1.size
  have ho1' := own_below ho1 hb2
  have h2 := own_bytes' ho2 (by omega)
  have hbw := hb.below hB2
  go_wp2_with (at_builtin; refine wpl_append _ rfl (.tmp 12) (.tmp 14) 22 rfl w.heap.size 5 _ 1 1 Try.underlying22 info_byte rfl (by decide) (.slice A1 n c1) n _ rfl ho1' A2 80 c2 _ rfl h2.rdc (bvals_one _) (by decide) (by decide) (by omega) hB2.size ?_; intro A3 c3 w3 ho3 hg3 hne3 hnn3; clear hne3 hnn3)
  have hB3 := hB2.grown hg3 hB2.size (own_base ho1')
  rw [← bvals_append] at ho3
  refine (same_any _ _ _ _ _ _ _ _ _ (hb.below hB3) (own_bytes' ho3 (by omega))).mono ?_
  rintro e w4 ⟨rfl, rfl⟩
  go_wp2_with fail
  go_ret
  exact ⟨rfl, hB3⟩
end Go.Proofs.Ytjgiiolamaimnaa
