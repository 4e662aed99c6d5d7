/- The reference of layer 9, walked: Read. -/
import Derived.Test.YtjgiiolamaimnaaRefF
namespace Go.Proofs.Ytjgiiolamaimnaa
open Go.RowKit
set_option linter.unusedVariables false
set_option linter.unusedSimpArgs false
theorem head_of {bs : List UInt8} {L : Nat} (h1 : bs.getD 0 0 = 197) (h3 : num (bs.drop 1) 4 = L) (h5 : L + 9 ≤ bs.length) : headB ((bs.drop 5).take L) = bs.take (5 + L) := by
  obtain ⟨x, tl, rfl⟩ : ∃ x tl, bs = x :: tl := by
    cases bs with
    | nil => simp at h5
    | cons x tl => exact ⟨x, tl, rfl⟩
  rw [List.getD_cons_zero] at h1
  rw [List.drop_succ_cons, List.drop_zero] at h3
  rw [List.length_cons] at h5
  have h4 : 4 ≤ tl.length := by omega
  have hl : ((tl.drop 4).take L).length = L := by rw [List.length_take, List.length_drop]; omega
  rw [List.drop_succ_cons, headB, hl, ← h3, four_num _ h4, show 5 + L = (4 + L) + 1 by omega, List.take_succ_cons, h1, List.take_add]
theorem frame_of {bs : List UInt8} {L : Nat} (h1 : bs.getD 0 0 = 197) (h3 : num (bs.drop 1) 4 = L) (h5 : L + 9 ≤ bs.length) : (frameB ((bs.drop 5).take L) = bs.take (L + 9)) ↔ num (bs.drop (5 + L)) 4 = sumI (bs.take (5 + L)) := by
  have h4 : 4 ≤ (bs.drop (5 + L)).length := by rw [List.length_drop]; omega
  have e1 : bs.take (L + 9) = bs.take (5 + L) ++ four (num (bs.drop (5 + L)) 4) := by
    rw [show L + 9 = (5 + L) + 4 by omega, List.take_add, four_num _ h4]
  rw [frameB, head_of h1 h3 h5, e1, List.append_cancel_left_eq]
  constructor
  · intro e
    have e2 : num (four (sumI (bs.take (5 + L))) ++ []) 4 = num (four (num (bs.drop (5 + L)) 4) ++ []) 4 := by rw [e]
    rw [num_four _ (sumI_lo _) (sumI_hi _), num_four _ (num_nonneg _ _) (by have := num_lt (bs.drop (5 + L)); omega)] at e2
    exact e2.symm
  · intro e
    rw [e]
theorem list_ext_getD {xs ys : List UInt8} (h : xs.length = ys.length) (he : ∀ j, j < xs.length → xs.getD j 0 = ys.getD j 0) : xs = ys := by
  refine List.ext_getElem h fun i h1 h2 => ?_
  have := he i h1
  simpa [List.getD_eq_getElem?_getD, h1, h2] using this
theorem getD_take {xs : List UInt8} {n j : Nat} (h : j < n) : (xs.take n).getD j 0 = xs.getD j 0 := by
  rw [List.getD_eq_getElem?_getD, List.getElem?_take_of_lt h, List.getD_eq_getElem?_getD]
set_option maxHeartbeats 3200000 in
theorem refRead_any (A : Option Addr) (n c : Nat) (bs : List UInt8) (w : World) (hb : Bytes w A n bs) (hc : n ≤ c) (hn : n ≤ 214748364800000) :
    Calls Try.prog 20 #[.slice A n c] w (ReadR (rd bs) w) := by
  by_cases h0 : n = 0
  · subst h0
    have h1 := rd_0 hb.1
    have H1 := Lib.hid h1
    clear h1
    go_enter Try.func20, Try.ntmps20
    go_wp2
    go_ret3
    exact readR_no H1.out (Below.refl _ _)
  obtain ⟨b, o, rfl, hcell⟩ := bytes_some hb h0
  have hl : bs.length ≠ 0 := by rw [hb.1]; exact h0
  have c0 := hcell 0 (by omega)
  obtain ⟨m, hm⟩ : ∃ m : Int, (((bs.getD 0 0).toNat : Nat) : Int) = m := ⟨_, rfl⟩
  rw [hm, Nat.add_zero] at c0
  have HC := Lib.hid hcell
  clear hcell
  have z0 : ((n : Int) == 0) = false := by rw [beq_eq_false_iff_ne]; omega
  by_cases h1 : m = 197
  · subst h1
    have g0 : bs.getD 0 0 = 197 := by
      apply UInt8.toNat_inj.1
      have : (197 : UInt8).toNat = 197 := rfl
      omega
    have G0 := Lib.hid g0
    have HL := Lib.hid hb.1
    clear g0 hm
    by_cases h5 : n < 5
    · have H3 := Lib.hid (rd_2 hl G0.out (by rw [HL.out]; exact h5))
      clear hl
      go_enter Try.func20, Try.ntmps20
      go_wp2
      go_ret3
      exact readR_no H3.out (Below.refl _ _)
    have hd1 := (hb.drop 1 (by omega)).take 4 (by omega)
    have y0 := num_nonneg (bs.drop 1) 4
    obtain ⟨L, hL⟩ : ∃ L : Nat, num (bs.drop 1) 4 = L := ⟨(num (bs.drop 1) 4).toNat, by omega⟩
    have hnum : num ((bs.drop 1).take 4) 4 = num (bs.drop 1) 4 := by
      simp only [num, List.getD_eq_getElem?_getD]
      simp [List.getElem?_take]
    have i0 : (5 : Int) ≤ (n : Int) := by omega
    have i1 : (5 : Int) ≤ (c : Int) := by omega
    have i2 : ¬ c = 1 := by omega
    have HLL := Lib.hid hL
    have HNN := Lib.hid (hnum.trans hL)
    clear hL y0 hl hnum
    go_enter Try.func20, Try.ntmps20
    go_wp2_with fail
    refine (refNumber_any _ (c - 1) _ w hd1).mono ?_
    rintro e w1 ⟨rfl, rfl⟩
    rw [HNN.out]
    by_cases h3 : 65536 < L
    · have H3 := Lib.hid (rd_3 (b := bs) G0.out (by rw [HL.out]; exact h5) (by rw [HLL.out]; omega))
      go_wp2_with fail
      go_ret3
      exact readR_no H3.out (Below.refl _ _)
    by_cases h4 : n < L + 9
    · have H3 := Lib.hid (rd_4 (b := bs) G0.out (by rw [HL.out]; exact h5) HLL.out (by omega) (by rw [HL.out]; exact h4))
      go_wp2_with fail
      go_ret3
      exact readR_no H3.out (Below.refl _ _)
    have hd5 : Bytes w (some ⟨b, o + 5, none⟩) (5 + L - 5) ((bs.drop 5).take L) := by rw [show 5 + L - 5 = L by omega]; exact (hb.drop 5 (by omega)).take L (by omega)
    have H0 := World.ownsRow_made (e := 5) (size := 1) w #[] 0 (Nat.le_refl _) (by simp [maxLen]) rfl
    have hba := below_alloc w (.cells #[] 5)
    have hR := (hd5.below hba).rdc
    have j3 : ¬ c = 5 := by omega
    go_upto_region 13 with (at_builtin; (refine wpl_append _ rfl _ _ 22 rfl w.heap.size 5 _ 1 1 Try.underlying22 info_byte rfl (by decide) (.slice (some ⟨w.heap.size, 0, none⟩) 0 0) 0 [] rfl H0 (some ⟨b, o + 5, none⟩) (5 + L - 5) (c - 5) (bvals ((bs.drop 5).take L)) rfl hR (bvals_one _) (by decide) (by decide) (by omega) (by simp) ?_); intro A6 c6 w6 ho6 hg6 hne6 hnn6; simp only [Nat.zero_add, List.nil_append] at ho6 ⊢; clear hnn6 hne6)
    have hb6 : Below w.heap.size w w6 := hba.grown hg6 hba.size (fun k h => by simp [Value.ownBlock] at h; omega)
    have eL : 5 + L - 5 = L := by omega
    rw [eL] at ho6
    have h61 := own_bytes' ho6 (by omega)
    clear eL hR H0 hba hg6 hd5 j3
    go_wp2_with fail
    refine (refFrame_any _ L _ _ _ h61 (by omega)).mono ?_
    rintro e w7 ⟨A7, c7, rfl, ho7, hb7⟩
    have hb8 := below_then hb6 hb7 hb6.size
    have ho8 := own_below ho6 hb7
    have h71 := own_bytes' ho7 (by omega)
    have hlen : (frameB ((bs.drop 5).take L)).length = L + 9 := h71.1
    have hFO := frame_of (bs := bs) (L := L) G0.out HLL.out (by rw [HL.out]; omega)
    have HFO := Lib.hid hFO
    have HLE := Lib.hid hlen
    generalize frameB ((bs.drop 5).take L) = fr at *
    clear hFO hlen ho6 hb6 hb7 h61 ho7
    go_wp2_with fail
    go_loopw [8] (fun i wr => ∃ k : Nat, k ≤ L + 9 ∧ i = .int .i64 k ∧ Hid (∀ j, j < k → bs.getD j 0 = fr.getD j 0) ∧ Below w7.heap.size w7 wr) (fun i _ => L + 9 - (intOf i).toNat)
    case atStart => exact ⟨0, by omega, rfl, Lib.hid (fun j hj => by omega), Below.refl _ _⟩
    case round =>
      obtain ⟨k, hk, rfl, HE, hB⟩ := hrel
      by_cases hlt : k < L + 9
      · have ck := (hb.below (below_then hb8 hB hb8.size)).at_ k (by omega)
        obtain ⟨b', o', m, he, hm, hm2⟩ := ck
        injection he with he
        injection he with he1 he2 _
        subst he1; subst he2
        obtain ⟨b7, o7, m7, rfl, hm7, hm72⟩ := (h71.below hB).at_ k hlt
        have i0 : (0 : Int) ≤ (k : Int) := by omega
        have i1 : (k : Int) < (L : Int) + 9 := by omega
        have i3 : (k : Int) < (n : Int) := by omega
        by_cases hee : m = m7
        · subst hee
          have hnext : Hid (∀ j, j < k + 1 → bs.getD j 0 = fr.getD j 0) := Lib.hid (fun j hj => by
            by_cases hjk : j = k
            · subst hjk
              exact UInt8.toNat_inj.1 (by omega)
            · exact HE.out j (by omega))
          have z3 : (m != m) = false := by simp
          clear hm2 hm72
          go_wp2_with fail
          go_quiet (fail)
          go_wp2_with fail
          go_roundw
          case rel => exact ⟨k + 1, by omega, by go_num, hnext, below_then hB (below_drews _ _) hB.size⟩
          case measure => simp [intOf]; omega
        · have hne : num (bs.drop (5 + L)) 4 ≠ sumI (bs.take (5 + L)) := fun e => by
            have := HFO.out.2 e
            rw [this, getD_take hlt] at hm72
            omega
          have H3 := Lib.hid (rd_5 (b := bs) G0.out HLL.out (by omega) (by rw [HL.out]; omega) hne)
          have z3 : (m != m7) = true := by rw [bne_iff_ne]; exact hee
          clear hm2 hm72 hne hee
          go_wp2_with fail
          go_quiet (fail)
          go_wp2_with fail
          go_ret3
          exact readR_no H3.out (below_then (below_then hb8 hB hb8.size) (below_drews _ _) (below_then hb8 hB hb8.size).size)
      · obtain rfl : k = L + 9 := by omega
        have hfe : fr = bs.take (L + 9) := list_ext_getD (by rw [HLE.out, List.length_take, HL.out]; omega) (fun j hj => by
          have hj2 : j < L + 9 := by rw [← HLE.out]; exact hj
          rw [getD_take hj2]; exact (HE.out j hj2).symm)
        have H3 := Lib.hid (rd_6 (b := bs) G0.out HLL.out (by omega) (by rw [HL.out]; omega) (HFO.out.1 hfe))
        clear hfe
        go_wp2_with fail
        go_ret3
        exact readR_yes H3.out (by rw [List.length_take, List.length_drop, HL.out]; omega) (by omega) (own_below ho8 hB) (below_then hb8 hB hb8.size)
  · have h2 : bs.getD 0 0 ≠ 197 := fun e => h1 (by rw [← hm, e]; rfl)
    have h3 := rd_1 hl h2
    have H3 := Lib.hid h3
    have z1 : (m != 197) = true := by rw [bne_iff_ne]; exact h1
    clear hm h2 h3 h1 hl
    go_enter Try.func20, Try.ntmps20
    go_wp2
    go_ret3
    exact readR_no H3.out (Below.refl _ _)
end Go.Proofs.Ytjgiiolamaimnaa
