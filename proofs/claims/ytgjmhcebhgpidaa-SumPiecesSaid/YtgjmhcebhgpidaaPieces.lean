/- The law SumPieces, walked. -/
import Derived.Test.YtgjmhcebhgpidaaHead
import Derived.Test.YtgjmhcebhgpidaaStream
import Derived.Test.YtgjmhcebhgpidaaOpen
namespace Go.Proofs.Ytgjmhcebhgpidaa
open Go.RowKit
theorem BRows.at_ {w : World} {A : Option Addr} {n : Nat} {bss : List (List UInt8)} (h : BRows w A n bss) (k : Nat) (hk : k < n) :
    ∃ b o A' l c, A = some ⟨b, o, none⟩ ∧ w.cell? ⟨b, o + k, none⟩ = some (.slice A' l c) ∧ Bytes w A' l (bss.getD k []) ∧ l ≤ 140737488351232 ∧ l = (bss.getD k []).length := by
  rcases h.2.2 with h0 | ⟨b, o, hA, hc⟩
  · omega
  · obtain ⟨A', l, c, h1, h2, h3, h4⟩ := hc k hk
    exact ⟨b, o, A', l, c, hA, h1, h2, by omega, h2.1.symm⟩
/-- How much the first k pieces come to, each counted as one more. -/
def vastN (bss : List (List UInt8)) (k : Nat) : Nat := ((bss.take k).map fun b => b.length + 1).sum
theorem vastN_succ (bss : List (List UInt8)) (k : Nat) (h : k < bss.length) : vastN bss (k + 1) = vastN bss k + ((bss.getD k []).length + 1) := by
  have e : bss.getD k [] = bss[k] := by simp [List.getD_eq_getElem?_getD, h]
  unfold vastN
  rw [List.take_succ_eq_append_getElem h, List.map_append, List.sum_append, e]
  rfl
theorem vastN_zero (bss : List (List UInt8)) : vastN bss 0 = 0 := rfl
theorem vastN_mono (bss : List (List UInt8)) (k n : Nat) (hk : k ≤ n) (hn : n ≤ bss.length) : vastN bss k ≤ vastN bss n := by
  induction n with
  | zero => obtain rfl : k = 0 := by omega
            exact Nat.le_refl _
  | succ n ih =>
    by_cases e : k = n + 1
    · subst e; exact Nat.le_refl _
    · rw [vastN_succ bss n (by omega)]
      have := ih (by omega) (by omega)
      omega
theorem vastN_flat (bss : List (List UInt8)) (k : Nat) (hk : k ≤ bss.length) : (bss.take k).flatten.length + k = vastN bss k := by
  induction k with
  | zero => simp [vastN]
  | succ k ih =>
    have e : bss.getD k [] = bss[k] := by simp [List.getD_eq_getElem?_getD, show k < bss.length by omega]
    rw [vastN_succ bss k (by omega), List.take_succ_eq_append_getElem (by omega), ← ih (by omega), e, List.flatten_append, List.length_append]
    simp only [List.flatten_cons, List.flatten_nil, List.append_nil]
    omega
/-- What vast tells. -/
def VastRet (bss : List (List UInt8)) (w : World) (e : Ending) (w' : World) : Prop := ∃ b, e = .returned (.bool b) ∧ w = w' ∧ (b = false → vastN bss bss.length ≤ 1073741824)
set_option maxHeartbeats 400000 in
theorem vast_any (A : Option Addr) (n c : Nat) (bss : List (List UInt8)) (w : World) (h : BRows w A n bss) :
    Calls Try.prog 17 #[.slice A n c] w (VastRet bss w) := by
  have hn := h.2.1
  have hl := Lib.hid h.1
  go_enter Try.func17, Try.ntmps17
  go_wp2
  go_loop [3, 8] (fun s i => ∃ k m : Nat, k ≤ n ∧ i = .int .i64 k ∧ s = .int .i64 m ∧ m = vastN bss k ∧ m ≤ 1073741824) (fun _ i => n - (intOf i).toNat)
  case atStart => exact ⟨0, 0, by omega, rfl, rfl, rfl, by omega⟩
  case round =>
    obtain ⟨k, m, hk, rfl, rfl, hm, hm2⟩ := hrel
    have HM := Lib.hid hm
    clear hm
    by_cases hlt : k < n
    · obtain ⟨b, o, A', l, c', rfl, hc, hb, hlb, hlen⟩ := h.at_ k hlt
      have HL := Lib.hid hlen
      clear hlen
      go_wp2
      · go_ret
        exact ⟨true, rfl, rfl, fun h => by cases h⟩
      · go_round
        case rel => exact ⟨k + 1, m + (1 + l), by omega, by go_num, by go_num, by rw [vastN_succ _ _ (by rw [hl.out]; exact hlt), ← HM.out, HL.out]; omega, by omega⟩
        case measure => simp [intOf]; omega
    · obtain rfl : k = n := by omega
      go_wp2
      go_ret
      exact ⟨false, rfl, rfl, fun _ => by rw [hl.out, ← HM.out]; exact hm2⟩
/-- What the loop over the pieces bears. -/
structure Pcs (w : World) (G : Nat) (bss : List (List UInt8)) (k : Nat) (V : Value) (so : Int) (wr : World) : Prop where
  own : wr.ownsRow (G + 1) 5 1 V (bss.take k).flatten.length (bvals (bss.take k).flatten)
  so : U so (Crc.more 0 (bss.take k).flatten)
  st : ∃ n, St wr G 0 n (bss.take k).flatten.length ∧ U n (Crc.more 0 (bss.take k).flatten)
  w : Below w.heap.size w wr
  lt : G < wr.heap.size
theorem flat_succ (bss : List (List UInt8)) (k : Nat) (h : k < bss.length) : (bss.take (k + 1)).flatten = (bss.take k).flatten ++ bss.getD k [] := by
  have e : bss.getD k [] = bss[k] := by simp [List.getD_eq_getElem?_getD, h]
  rw [List.take_succ_eq_append_getElem h, e, List.flatten_append]
  simp
set_option maxHeartbeats 800000 in
theorem sumPieces_any (A : Option Addr) (n c : Nat) (bss : List (List UInt8)) (w : World) (h : BRows w A n bss) :
    Calls Try.prog 7 #[.slice A n c] w fun e w' => e = .returned (.bool true) ∧ Below w.heap.size w w' := by
  have hn := h.2.1
  have hl := Lib.hid h.1
  go_enter Try.func7, Try.ntmps7
  go_wp2_with fail
  refine (vast_any _ _ _ _ _ h).mono ?_
  rintro e w1 ⟨b, rfl, rfl, hv⟩
  cases b with
  | true =>
    go_wp2
    go_ret
    exact ⟨rfl, Below.refl _ _⟩
  | false =>
    have HV := Lib.hid (hv rfl)
    clear hv
    go_wp2_with fail
    refine (head_any _).mono ?_
    rintro e w1 ⟨rfl, hB1⟩
    go_wp2_with fail
    have hs0 : St ((w1.alloc (.cells #[.int .u32 0, .int .i64 0] 39)).alloc (.cells #[] 5)) w1.heap.size 0 0 0 :=
      ⟨by rw [cell_of_row _ _ _ _ _ _ (heap_alloc2_old _ _ _)]; rfl, by rw [cell_of_row _ _ _ _ _ _ (heap_alloc2_old _ _ _)]; rfl, frozen_of_row _ _ _ _ _ (heap_alloc2_old _ _ _), frozen_of_row _ _ _ _ _ (heap_alloc2_old _ _ _)⟩
    have ho0 := World.ownsRow_made (e := 5) (size := 1) (base := w1.heap.size + 1) (w1.alloc (.cells #[.int .u32 0, .int .i64 0] 39)) #[] 0 (by simp) (by simp [maxLen]) rfl
    have hB2 := (hB1.alloc hB1.size (.cells #[.int .u32 0, .int .i64 0] 39)).alloc (by simp; have := hB1.size; omega) (.cells #[] 5)
    have hG : w.heap.size ≤ w1.heap.size := hB1.size
    have hz : (w1.alloc (.cells #[.int .u32 0, .int .i64 0] 39)).heap.size = w1.heap.size + 1 := by simp
    rw [hz] at ho0
    have hlt0 : w1.heap.size < ((w1.alloc (.cells #[.int .u32 0, .int .i64 0] 39)).alloc (.cells #[] 5)).heap.size := by simp; omega
    generalize (w1.alloc (.cells #[.int .u32 0, .int .i64 0] 39)).alloc (.cells #[] 5) = w2 at *
    generalize w1.heap.size = G at *
    clear hz hB1
    go_loopw [4, 5, 16] (fun v so i wr => ∃ k m : Nat, ∃ A' c' q, k ≤ n ∧ i = .int .i64 k ∧ v = .slice A' m c' ∧ so = .int .u32 q ∧ m = (bss.take k).flatten.length ∧ Pcs w G bss k v q wr) (fun _ _ i _ => n - (intOf i).toNat)
    case atStart => exact ⟨0, 0, _, _, _, by omega, rfl, rfl, rfl, rfl, ho0, U.zero', ⟨0, hs0, U.zero'⟩, hB2, hlt0⟩
    case round =>
      obtain ⟨k, m, A', c', q, hk, rfl, rfl, rfl, hm, hP⟩ := hrel
      have hflat := vastN_flat bss k (by rw [hl.out]; exact hk)
      have hmono := vastN_mono bss k bss.length (by rw [hl.out]; exact hk) (Nat.le_refl _)
      have hm1 : m + k ≤ 1073741824 := by rw [hm, hflat]; exact Nat.le_trans hmono HV.out
      have HM := Lib.hid hm
      clear hm hflat hmono
      by_cases hlt : k < n
      · obtain ⟨b, o, Ap, lp, cp, rfl, hc0, hb0, hlb, hlen⟩ := h.at_ k hlt
        have hc := (hP.w.cell (p := ⟨b, o + k, none⟩) (block_lt_of_cell hc0)).trans hc0
        have hb := hb0.below hP.w
        have hsum := vastN_succ bss k (by rw [hl.out]; exact hlt)
        have hflat := vastN_flat bss k (by rw [hl.out]; exact hk)
        have hmono := vastN_mono bss (k + 1) bss.length (by rw [hl.out]; exact hlt) (Nat.le_refl _)
        have hm2 : m + lp ≤ 1073741824 := by have := HV.out; have := HM.out; omega
        have HL := Lib.hid hlen
        clear hlen hsum hflat hmono
        have hown := hP.own
        rw [← HM.out] at hown
        go_wp2_with (at_builtin; refine wpl_append _ rfl (.tmp 20) (.tmp 21) 22 rfl (G + 1) 5 _ 1 1 Try.underlying22 info_byte rfl (by decide) (.slice A' m c') m _ rfl hown Ap lp cp _ rfl hb.rdc (bvals_one _) (by decide) (by decide) (by omega) (by have := hP.lt; omega) ?_; intro A2 c2 wa hown2 hgr2 hne2 hnn2; clear hne2 hnn2)
        have hBa : Below (G + 1) wr wa := below_of_grown hgr2 (by have := hP.lt; omega) (own_base hown)
        have hWa := hP.w.trans (hBa.mono (by omega))
        obtain ⟨ns, hst, us⟩ := hP.st
        have hsta := hst.below hBa (by omega)
        refine (copied_any _ _ _ _ _ (hb0.below hWa) (by omega)).mono ?_
        rintro e wb ⟨A3, c3, rfl, ho3, hBb, -⟩
        have hWb := below_then hWa hBb hWa.size
        go_wp2_with fail
        refine (more_any _ _ _ _ _ _ _ hP.so (own_bytes' ho3 (by omega))).mono ?_
        rintro e wc ⟨n4, rfl, u4, hBc⟩
        have hWc := below_then hWb hBc hWb.size
        have hac := below_then hBb hBc hBb.size
        go_wp2_with fail
        refine (copied_any _ _ _ _ _ (hb0.below hWc) (by omega)).mono ?_
        rintro e wd ⟨A5, c5, rfl, ho5, hBd, -⟩
        have hWd := below_then hWc hBd hWc.size
        have had := below_then hac hBd hac.size
        have hGa : G < wa.heap.size := hsta.lt
        have hstd := hsta.below had hGa
        have hcount : Hid (((bss.take k).flatten.length : Nat) = m) := Lib.hid HM.out.symm
        rw [hcount.out] at hstd
        go_wp2_with fail
        refine (write_any G 0 _ _ _ _ _ _ _ _ hstd us (own_bytes' ho5 (by omega)) (by omega) (by omega)).mono ?_
        rintro e we' ⟨rfl, we, n6, u6, hBe, rfl⟩
        have hae := below_then had hBe had.size
        have hWe := below_then hWd hBe hWd.size
        have hste := hstd.below hBe hstd.lt
        have hfin := hste.after (n' := n6) (c' := (m : Int) + (lp : Int))
        have hfs := flat_succ bss k (by rw [hl.out]; exact hlt)
        have hflen : ((bss.take (k + 1)).flatten).length = m + lp := by rw [hfs, List.length_append, hcount.out, HL.out]
        have hnew : Pcs w G bss (k + 1) (.slice A2 (m + lp) c2) n4 ((we.setCell ⟨G, 0, none⟩ (.int .u32 n6)).setCell ⟨G, 0 + 1, none⟩ (.int .i64 ((m : Int) + (lp : Int)))) := by
          refine ⟨?_, ?_, ⟨n6, ?_, ?_⟩, ?_, ?_⟩
          · rw [hflen, hfs, bvals_append]
            exact ownsRow_setCell_below (ownsRow_setCell_below (own_below hown2 hae) (by simp) _) (by simp) _
          · rw [hfs, Crc.more_append]; exact u4
          · rw [hflen]
            exact hfin
          · rw [hfs, Crc.more_append]; exact u6
          · exact (hWe.setCell (p := ⟨G, 0, none⟩) hG _).setCell (p := ⟨G, 0 + 1, none⟩) hG _
          · have := hste.lt
            simpa using this
        have HN := Lib.hid hflen.symm
        clear hflen hfin hfs hcount hste hae hWe hBe hstd had hac hsta hst us ho5 ho3 u6 u4
        go_wp2
        go_roundw
        case rel => exact ⟨k + 1, m + lp, _, _, _, by omega, by go_num, rfl, rfl, HN.out, hnew⟩
        case measure => simp [intOf]; omega
      · obtain rfl : k = n := by omega
        obtain ⟨ns, hst, us⟩ := hP.st
        have hown := hP.own
        rw [← HM.out] at hown hst
        have hb := own_bytes' hown (by omega)
        go_wp2_with fail
        refine (copied_any _ _ _ _ _ hb (by omega)).mono ?_
        rintro e wa ⟨A3, c3, rfl, ho3, hBa, -⟩
        have hWa := below_then hP.w hBa hP.w.size
        go_wp2_with fail
        refine (of_any _ _ _ _ _ (own_bytes' ho3 (by omega))).mono ?_
        rintro e wb ⟨n4, rfl, u4, hBb⟩
        have hWb := below_then hWa hBb hWa.size
        have hab := below_then hBa hBb hBa.size
        have hsb := hst.below hab hst.lt
        obtain rfl : q = n4 := hP.so.trans u4.symm
        obtain rfl : ns = q := us.trans hP.so.symm
        go_wp2_with (first | (go_at_call 19; refine (sum_any _ _ _ _ _ hsb).mono ?_; rintro e w' ⟨rfl, rfl⟩) | (go_at_call 20; refine (len_any _ _ _ _ _ hsb).mono ?_; rintro e w' ⟨rfl, rfl⟩))
        go_ret
        exact ⟨by simp, hWb⟩
end Go.Proofs.Ytgjmhcebhgpidaa
