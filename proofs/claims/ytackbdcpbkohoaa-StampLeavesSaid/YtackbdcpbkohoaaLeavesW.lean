/- The law StampLeaves, walked. -/
import Derived.Test.YtackbdcpbkohoaaMarked
import Derived.Deep.RegionHeld3
namespace Go.Proofs.Ytackbdcpbkohoaa
open Go.RowKit
/-- Two rows beside one that changes. -/
structure Two (wr : World) (B1 B2 : Nat) (L M K : Value) (n1 n2 : Nat) (ys zs : List Int) : Prop where
  m : wr.ownsRow B1 3 1 M n1 (ivals ys)
  k : wr.ownsRow B2 3 1 K n2 (ivals zs)
  am : Apart M L
  ak : Apart K L
theorem Two.grown {wr w' : World} {B1 B2 : Nat} {L L' M K : Value} {n1 n2 : Nat} {ys zs : List Int} (h : Two wr B1 B2 L M K n1 n2 ys zs) (hg : wr.grownBy w' L.ownBlock) (hL : L'.ownBlock = L.ownBlock ∨ ∃ b, L'.ownBlock = some b ∧ wr.heap.size ≤ b) : Two w' B1 B2 L' M K n1 n2 ys zs :=
  ⟨h.m.kept hg h.am, h.k.kept hg h.ak, h.am.grow h.m hL, h.ak.grow h.k hL⟩
theorem Two.below {wr w' : World} {B1 B2 : Nat} {L M K : Value} {n1 n2 : Nat} {ys zs : List Int} (h : Two wr B1 B2 L M K n1 n2 ys zs) (hb : Below wr.heap.size wr w') : Two w' B1 B2 L M K n1 n2 ys zs :=
  h.grown (grown_of_below hb _) (.inl rfl)
theorem takes_first {ps : List Int} {m : Nat} (h : ps.length = m) (x : Int) : (ps ++ List.replicate 80 x).take m = ps := by subst h; simp
theorem marked_all {zs : List Int} {n : Nat} {x : Int} (hl : zs.length = n) (h : ∀ j, j < n → zs.getD j 0 = x) : zs = List.replicate n x := by
  refine (list_eq_iff _ _ (by simp [hl])).2 fun j hj => ?_
  rw [h j (by omega), List.getD_eq_getElem?_getD, List.getElem?_replicate, if_pos (by omega)]
  rfl
theorem marked_more {zs : List Int} {k n : Nat} {x : Int} (hl : zs.length = n) (hk : k < n) (h : ∀ j, j < k → zs.getD j 0 = x) : ∀ j, j < k + 1 → (zs.set k x).getD j 0 = x := by
  intro j hj
  by_cases e : j = k
  · subst e
    rw [List.getD_eq_getElem?_getD, List.getElem?_set_self (by omega)]
    rfl
  · rw [List.getD_eq_getElem?_getD, List.getElem?_set_ne (by omega), ← List.getD_eq_getElem?_getD]
    exact h j (by omega)
theorem kept6 {wr w1 w2 : World} {bm bw b r : Nat} {v0 v1 v2 v3 v4 : Value} (h0 : w1.cell? ⟨bm, r, none⟩ = some v0) (h1 : w1.cell? ⟨bw, r, none⟩ = some v1) (h2 : w1.cell? ⟨b, r * 3, none⟩ = some v2) (h3 : w1.cell? ⟨b, r * 3 + 1, none⟩ = some v3) (h4 : w1.cell? ⟨b, r * 3 + 2, none⟩ = some v4) (h5 : Below wr.heap.size wr w1) (hb : Below w1.heap.size w1 w2) (l0 : b < wr.heap.size) (l1 : bm < wr.heap.size) (l2 : bw < wr.heap.size) :
    w2.cell? ⟨bm, r, none⟩ = some v0 ∧ w2.cell? ⟨bw, r, none⟩ = some v1 ∧ w2.cell? ⟨b, r * 3, none⟩ = some v2 ∧ w2.cell? ⟨b, r * 3 + 1, none⟩ = some v3 ∧ w2.cell? ⟨b, r * 3 + 2, none⟩ = some v4 ∧ Below wr.heap.size wr w2 := by
  have hs := h5.size
  exact ⟨(hb.cell (p := ⟨bm, r, none⟩) (by show bm < _; omega)).trans h0, (hb.cell (p := ⟨bw, r, none⟩) (by show bw < _; omega)).trans h1, (hb.cell (p := ⟨b, r * 3, none⟩) (by show b < _; omega)).trans h2, (hb.cell (p := ⟨b, r * 3 + 1, none⟩) (by show b < _; omega)).trans h3, (hb.cell (p := ⟨b, r * 3 + 2, none⟩) (by show b < _; omega)).trans h4, below_then h5 hb hs⟩
theorem refNow_any (b : Bool) (s n : Int) (w : World) : Calls Try.prog 21 #[.agg #[.bool b, .int .i64 s, .int .i64 n]] w fun e w' => e = .returned (.int .i64 s) ∧ Below w.heap.size w w' := by
  go_enter Try.func21, Try.ntmps21
  go_wp2
  go_ret
  exact ⟨rfl, below_alloc _ _⟩
set_option maxRecDepth 100000 in
set_option maxHeartbeats 8000000 in
theorem stampLeaves_any (A : Option Addr) (n c : Nat) (ss : List (Int × Int)) (P : Option Addr) (m pc : Nat) (ps : List Int) (w : World) (h : RecS IsStart w 2 A n ss) (hn : n * 16 ≤ 140737488351232) (hp : Ints w P m ps) (hm : m * 8 ≤ 140737488351232) :
    Calls Try.prog 9 #[.slice A n c, .slice P m pc] w fun e w' => e = .returned (.bool true) ∧ Below w.heap.size w w' := by
  have HP := Lib.hid hp.1
  go_enter Try.func9, Try.ntmps9
  go_wp2_with fail
  refine (head_any _).mono ?_
  rintro e w1 ⟨rfl, hB1⟩
  go_wp2_with fail
  refine (clocks_any _ _ _ ss _ (h.below hB1 (fun _ _ k => k)) hn).mono ?_
  rintro e w2 ⟨A1, c1, A2, c2, xs, rfl, hC2, hX2⟩
  have hB2 := below_then hB1 hX2 hB1.size
  have HL := Lib.hid hC2.len
  have H0 := World.ownsRow_made (e := 29) (size := 1) w2 #[] 0 (Nat.le_refl _) (by simp [maxLen]) rfl
  have hX3 := below_alloc w2 (.cells #[] 29)
  have hC3 := hC2.below hX3
  have hR3 := (own_reads hC3.m)
  obtain ⟨A', c', e3, -, hR3⟩ := hR3
  injection e3 with e3 e4 e5
  subst e3
  clear e4 e5
  go_upto_region 5 with (at_builtin; refine wpl_append _ rfl (.tmp 26) (.tmp 27) 52 rfl w2.heap.size 29 _ 1 8 Try.underlying52 info_ptr rfl (by decide) (.slice (some ⟨w2.heap.size, 0, none⟩) 0 0) 0 [] rfl H0 A1 n c1 _ rfl hR3 (ptrV_one xs) (by decide) (by decide) (by omega) (by simp) ?_; intro A5 c5 w4 hW4 hg4 hne4 hnn4; clear hne4 hnn4)
  rw [List.nil_append, Nat.zero_add] at hW4
  have hX4 : Below w2.heap.size w2 w4 := hX3.grown hg4 (by simp) (fun k h => by simp [Value.ownBlock] at h; omega)
  have hC4 := hC2.below hX4
  have hB4 := below_then hB2 hX4 hB2.size
  go_wp2_with fail
  refine (copied_any _ _ _ ps _ (hp.below hB4) (by omega)).mono ?_
  rintro e w5 ⟨A6, c6, rfl, ho5, hX5, -⟩
  go_wp2_with fail
  refine (grown_any _ _ _ _ ps (-77) _ ho5 hX5.size (by omega)).mono ?_
  rintro e w6 ⟨A7, c7, rfl, hL6, hg6, -⟩
  have hX6 : Below w4.heap.size w4 w6 := hX5.grown hg6 hX5.size (own_base ho5)
  have hC6 := hC4.below hX6
  have hW6 := own_below hW4 hX6
  have hB6 := below_then hB4 hX6 hB4.size
  clear hX5 ho5 hg6 hg4 hX4 hX3 hC3 hR3 H0
  go_wp2_with fail
  refine (copied_any _ _ _ _ _ (own_ints hL6 (by omega)) (by omega)).mono ?_
  rintro e w7 ⟨A8, c8, rfl, hF7, hX7, -⟩
  have hC7 := hC6.below hX7
  have hW7 := own_below hW6 hX7
  have hL7 := own_below hL6 hX7
  have hB7 := below_then hB6 hX7 hB6.size
  have hcap : m ≤ c7 := by
    have := own_reads hL7
    obtain ⟨A', c', e3, h4, -⟩ := this
    injection e3 with e3 e4 e5
    omega
  have hLs : ∀ W, Below w7.heap.size w7 W → Ints W A7 m ps := by
    intro W hW
    have := (own_ints (own_below hL7 hW) (by omega)).take m (by omega)
    rw [takes_first HP.out] at this
    exact this
  have HLs := Lib.hid hLs
  clear hLs
  have hAne : ∃ g, A7 = some ⟨g, 0, none⟩ := by
    rcases hL7.2 with ⟨e, _⟩ | ⟨g, cap, cur, e, _⟩
    · injection e with e1 e2 e3; omega
    · injection e with e1 e2 e3; exact ⟨g, e1⟩
  obtain ⟨gL, rfl⟩ := hAne
  have HF := Lib.hid hF7
  have HLr := Lib.hid hL7
  clear hL6 hF7 hL7 hW6 hC6 hC4 hW4 hC2 hX2 hX6 hX7
  go_wp2_with fail
  refine (take_any _ _ _ xs _ _ _ ps _ _ _ hC7.m hC7.len hC7.clk (HLs.out _ (Below.refl _ _)) (by omega)).mono ?_
  rintro e w8 ⟨O8, o8, rfl, hO8, hX8⟩
  have hC8 := hC7.below hX8
  go_wp2_with fail
  refine (take_any _ _ _ xs _ _ _ ps _ _ _ hC8.m hC8.len hC8.clk (HLs.out _ hX8) (by omega)).mono ?_
  rintro e w9 ⟨T9, t9, rfl, hT9, hX9⟩
  have hO9 := own_below hO8 hX9
  have hX9' := below_then hX8 hX9 hX8.size
  go_wp2_with fail
  refine (below_any _ _ _ _ _ _ ps (ps ++ List.replicate 80 (-77)) _ (HLs.out _ hX9') (own_ints (own_below HLr.out hX9') (by omega))).mono ?_
  rintro e w9' ⟨rfl, rfl⟩
  rw [belowB_len (by simp)]
  have hC9 := hC7.below hX9'
  go_wp2_with fail
  refine (refTake_any _ _ _ xs _ _ _ ps _ _ hC9.k hC9.len (hp.below (hB7.trans (hX9'.mono hB7.size))) (by omega)).mono ?_
  rintro e w10 ⟨V, vc, rfl, hV10, hX10⟩
  have hX10' := below_then hX9' hX10 hX9'.size
  have hT10 : Two w10 w8.heap.size w9.heap.size (.slice O8 n o8) (.slice T9 n t9) (.slice V n vc) n n (takeL xs ps) (takeL xs ps) :=
    ⟨own_below hT9 hX10, hV10, apart_bases hT9 hO8 (Nat.le_refl _), apart_bases hV10 hO9 (Nat.le_refl _)⟩
  have hO10 := own_below hO9 hX10
  have HVO := Lib.hid (apart_bases hV10 hO9 (Nat.le_refl _))
  have HVT := Lib.hid (apart_bases hV10 hT9 (Nat.le_refl _))
  clear hT9 hV10 hO9 hO8 hC8 hC9
  go_wp2_with fail
  refine (same_any _ _ _ _ _ _ _ _ _ (own_ints hO10 (by omega)) (own_ints hT10.k (by omega))).mono ?_
  rintro e w11 ⟨rfl, hX11⟩
  rw [show decide (takeL xs ps = takeL xs ps) = true from decide_eq_true rfl]
  have hX11' := below_then hX10' hX11 hX10'.size
  have hO11 := own_below hO10 hX11
  have hT11 := hT10.below hX11
  go_wp2_with fail
  refine (same_any _ _ _ _ _ _ _ _ _ (own_ints hT11.m (by omega)) (own_ints hT11.k (by omega))).mono ?_
  rintro e w12 ⟨rfl, hX12⟩
  rw [show decide (takeL xs ps = takeL xs ps) = true from decide_eq_true rfl]
  have hX12' := below_then hX11' hX12 hX11'.size
  have hO12 := own_below hO11 hX12
  have hT12 := hT11.below hX12
  go_wp2_with fail
  refine (same_any _ _ _ _ _ _ _ _ _ (own_ints (own_below HLr.out hX12') (by omega)) (own_ints (own_below HF.out hX12') (by omega))).mono ?_
  rintro e w13 ⟨rfl, hX13⟩
  rw [show decide (ps ++ List.replicate 80 (-77) = ps ++ List.replicate 80 (-77)) = true from decide_eq_true rfl]
  have hX13' := below_then hX12' hX13 hX12'.size
  have hO13 := own_below hO12 hX13
  have hT13 := hT12.below hX13
  have hs7 : w7.heap.size ≤ w8.heap.size := hX8.size
  clear hX8 hX9 hX10 hX11 hX12 hX13 hX9' hX10' hX11' hX12' hO10 hO11 hO12 hT10 hT11 hT12
  go_wp2
  go_loopw [13, 73] (fun _ i wr => ∃ k : Nat, ∃ zs : List Int, k ≤ n ∧ i = .int .i64 k ∧ zs.length = n ∧ wr.ownsRow w7.heap.size 3 1 (.slice O8 n o8) n (ivals zs) ∧ Two wr w8.heap.size w9.heap.size (.slice O8 n o8) (.slice T9 n t9) (.slice V n vc) n n (takeL xs ps) (takeL xs ps) ∧ Below w7.heap.size w7 wr ∧ ∀ j : Nat, j < k → zs.getD j 0 = -5) (fun _ i _ => n - (intOf i).toNat)
  case atStart => exact ⟨0, _, by omega, rfl, by rw [takeL_length]; exact HL.out, hO13, hT13, hX13', fun j hj => by omega⟩
  case round =>
    clear hO13 hT13 hX13'
    obtain ⟨k, zs, hk, rfl, hzl, hor, hTr, hBr, hall⟩ := hrel
    have HZ := Lib.hid hzl
    have HA := Lib.hid hall
    clear hzl hall
    by_cases hlt : k < n
    · obtain ⟨g, rfl⟩ : ∃ g, O8 = some ⟨g, 0, none⟩ := by
        rcases hor.2 with ⟨e, _⟩ | ⟨g, cap, cur, e, _⟩
        · injection e with e1 e2 e3; omega
        · injection e with e1 e2 e3; exact ⟨g, e1⟩
      have hc : wr.cell? ⟨g, k, none⟩ = some (.int .i64 (zs.getD k 0)) := (hor.cellAt k (by omega)).trans (ivals_at zs k (by rw [HZ.out]; exact hlt))
      have hf := hor.frozenAt k
      have hst := hor.stored k (.int .i64 (-5))
      rw [ivals_set] at hst
      have hg := hor.lt g rfl
      have hB2 : Below w7.heap.size w7 (wr.setCell ⟨g, k, none⟩ (.int .i64 (-5))) := hBr.setCell (by exact hg.1) _
      have hT2 := hTr.grown (grown_set wr g k (.int .i64 (-5))) (L' := .slice (some ⟨g, 0, none⟩) n o8) (.inl rfl)
      have HA2 := Lib.hid (marked_more HZ.out hlt HA.out)
      have HZ2 := Lib.hid (show (zs.set k (-5)).length = n by simpa using HZ.out)
      go_wp2
      go_roundw
      case rel => exact ⟨k + 1, _, by omega, by go_num, HZ2.out, hst.1, hT2, hB2, HA2.out⟩
      case measure => simp [intOf]; omega
    · obtain rfl : k = n := by omega
      obtain rfl : zs = List.replicate k (-5) := marked_all HZ.out HA.out
      clear HZ HA hlt
      have hT0 : Two wr w7.heap.size w9.heap.size (.slice T9 k t9) (.slice O8 k o8) (.slice V k vc) k k (List.replicate k (-5)) (takeL xs ps) :=
        ⟨hor, hTr.k, hTr.am.symm, HVT.out⟩
      have hm0 := hTr.m
      clear hor hTr
      go_wp2
      go_loopw [14, 82] (fun _ i wr => ∃ q : Nat, ∃ zs : List Int, q ≤ k ∧ i = .int .i64 q ∧ zs.length = k ∧ wr.ownsRow w8.heap.size 3 1 (.slice T9 k t9) k (ivals zs) ∧ Two wr w7.heap.size w9.heap.size (.slice T9 k t9) (.slice O8 k o8) (.slice V k vc) k k (List.replicate k (-5)) (takeL xs ps) ∧ Below w7.heap.size w7 wr ∧ ∀ j : Nat, j < q → zs.getD j 0 = -6) (fun _ i _ => k - (intOf i).toNat)
      case atStart => exact ⟨0, _, by omega, rfl, by rw [takeL_length]; exact HL.out, hm0, hT0, hBr, fun j hj => by omega⟩
      case round =>
        clear hm0 hT0 hBr
        obtain ⟨q, zs, hq, rfl, hzl, hor, hTr, hBr, hall⟩ := hrel
        have HZ := Lib.hid hzl
        have HA := Lib.hid hall
        clear hzl hall
        by_cases hlt : q < k
        · obtain ⟨g, rfl⟩ : ∃ g, T9 = some ⟨g, 0, none⟩ := by
            rcases hor.2 with ⟨e, _⟩ | ⟨g, cap, cur, e, _⟩
            · injection e with e1 e2 e3; omega
            · injection e with e1 e2 e3; exact ⟨g, e1⟩
          have hc : wr.cell? ⟨g, q, none⟩ = some (.int .i64 (zs.getD q 0)) := (hor.cellAt q (by omega)).trans (ivals_at zs q (by rw [HZ.out]; exact hlt))
          have hf := hor.frozenAt q
          have hst := hor.stored q (.int .i64 (-6))
          rw [ivals_set] at hst
          have hg := hor.lt g rfl
          have hB2 : Below w7.heap.size w7 (wr.setCell ⟨g, q, none⟩ (.int .i64 (-6))) := hBr.setCell (by exact Nat.le_trans hs7 hg.1) _
          have hT2 := hTr.grown (grown_set wr g q (.int .i64 (-6))) (L' := .slice (some ⟨g, 0, none⟩) k t9) (.inl rfl)
          have HA2 := Lib.hid (marked_more HZ.out hlt HA.out)
          have HZ2 := Lib.hid (show (zs.set q (-6)).length = k by simpa using HZ.out)
          go_wp2
          go_roundw
          case rel => exact ⟨q + 1, _, by omega, by go_num, HZ2.out, hst.1, hT2, hB2, HA2.out⟩
          case measure => simp [intOf]; omega
        · obtain rfl : q = k := by omega
          obtain rfl : zs = List.replicate q (-6) := marked_all HZ.out HA.out
          clear HZ HA hlt
          have hT0 : Two wr w8.heap.size w9.heap.size (.slice O8 q o8) (.slice T9 q t9) (.slice V q vc) q q (List.replicate q (-6)) (takeL xs ps) :=
            ⟨hor, hTr.k, hTr.am.symm, HVO.out⟩
          have hm0 := hTr.m
          clear hor hTr
          go_wp2_with fail
          refine (grown_any _ _ _ _ _ (-55) _ hm0 hBr.size (by omega)).mono ?_
          rintro e y1 ⟨G1, g1c, rfl, hG1, hgr1, hne1⟩
          have hT1 := hT0.grown hgr1 hne1
          have hY1 := hBr.grown hgr1 hBr.size (own_base hm0)
          have hT2 : Two y1 w7.heap.size w9.heap.size (.slice T9 q t9) (.slice G1 (q + 80) g1c) (.slice V q vc) (q + 80) q (List.replicate q (-5) ++ List.replicate 80 (-55)) (takeL xs ps) :=
            ⟨hG1, hT1.k, hT1.am.symm, HVT.out⟩
          have hm1 := hT1.m
          clear hT0 hT1 hm0 hgr1 hne1 hG1
          go_wp2_with fail
          refine (grown_any w7.heap.size _ _ _ _ (-66) _ (own_mono hm1 hs7) hY1.size (by omega)).mono ?_
          rintro e y2 ⟨G2, g2c, rfl, hG2, hgr2, hne2⟩
          have hT3 := hT2.grown hgr2 hne2
          have hY2 := hY1.grown hgr2 hY1.size (fun b hb => Nat.le_trans hs7 (own_base hm1 b hb))
          clear hT2 hm1 hgr2 hne2
          have hG1 := hT3.m
          have hV := hT3.k
          clear hT3
          have H1 := Lib.hid hG1
          have H2 := Lib.hid hG2
          have H3 := Lib.hid hV
          clear hG1 hG2 hV
          go_wp2
          go_loopw [17, 95] (fun _ i wr => ∃ r : Nat, r ≤ q ∧ i = .int .i64 r ∧ Below y2.heap.size y2 wr) (fun _ i _ => q - (intOf i).toNat)
          case atStart => exact ⟨0, by omega, rfl, Below.refl _ _⟩
          case round =>
            obtain ⟨r, hr, rfl, hR⟩ := hrel
            have hw := below_then hY2 hR hY2.size
            by_cases hlt : r < q
            · have hrx : r < xs.length := by rw [HL.out]; exact hlt
              have hxr := List.getElem?_eq_getElem hrx
              generalize xs[r] = x at hxr
              obtain ⟨r0, r1, r2⟩ := rcl_at xs r x hxr
              have hK := own_below hC7.k hw
              obtain ⟨b, rfl, k0⟩ := own_cell hK _ _ r0
              obtain ⟨b', e', k1⟩ := own_cell hK _ _ r1
              injection e' with e'
              injection e' with e' _
              subst e'
              obtain ⟨b', e', k2⟩ := own_cell hK _ _ r2
              injection e' with e'
              injection e' with e' _
              subst e'
              obtain ⟨bm, rfl, p0⟩ := own_cell (own_below hC7.m hw) r (ptrV x) (by rw [List.getElem?_map, hxr]; rfl)
              obtain ⟨bw, rfl, p1⟩ := own_cell (own_below hW7 hw) r (ptrV x) (by rw [List.getElem?_map, hxr]; rfl)
              rw [Nat.zero_add] at k0 k1 k2 p0 p1
              have hck := fun g s a e => (hC7.clk.below hw r g s a e).1
              have i0 : (0 : Int) ≤ (r : Int) := by omega
              have i1 : (r : Int) < (q : Int) := by omega
              clear r0 r1 r2 hK
              rcases x with _ | ⟨g, s, a⟩
              · simp only [ptrV, ptA, rB, rS, rW, Option.isSome] at p0 p1 k0 k1 k2
                clear hck hxr
                have L0 := block_lt_of_cell k0
                have L1 := block_lt_of_cell p0
                have L2 := block_lt_of_cell p1
                have HR := Lib.hid hR
                clear hR
                go_wp2_with fail
                go_region_held3 (fun w' => w'.cell? ⟨bm, r, none⟩ = some (.pointer none) ∧ w'.cell? ⟨bw, r, none⟩ = some (.pointer none) ∧ w'.cell? ⟨b, r * 3, none⟩ = some (.bool false) ∧ w'.cell? ⟨b, r * 3 + 1, none⟩ = some (.int .i64 0) ∧ w'.cell? ⟨b, r * 3 + 2, none⟩ = some (.int .i64 0) ∧ Below wr.heap.size wr w')
                  (first | exact ⟨p0, p1, k0, k1, k2, (Below.refl _ wr).drew⟩ | exact kS)
                  (first | (go_at_call 18; refine (now_nil _).mono ?_; rintro e x3 ⟨rfl, rfl⟩) | (go_at_call 21; refine (refNow_any _ _ _ _).mono ?_; rintro e x3 ⟨rfl, hb3⟩; have kS := kept6 (w1 := wr.drew) p0 p1 k0 k1 k2 (Below.refl _ wr).drew hb3 L0 L1 L2))
                have hBx := below_then HR.out (show Below wr.heap.size wr x3 from kS.2.2.2.2.2) HR.out.size
                clear kS hb3
                go_wp2
                go_roundw
                case rel => exact ⟨r + 1, by omega, by go_num, hBx⟩
                case measure => simp [intOf]; omega
              · simp only [ptrV, ptA, rB, rS, rW, Option.isSome] at p0 p1 k0 k1 k2
                have HC := Lib.hid (hck g s a hxr)
                clear hck hxr
                have L0 := block_lt_of_cell k0
                have L1 := block_lt_of_cell p0
                have L2 := block_lt_of_cell p1
                have HR := Lib.hid hR
                clear hR
                go_wp2_with fail
                go_region_held3 (fun w' => w'.cell? ⟨bm, r, none⟩ = some (.pointer (some ⟨g, 0, none⟩)) ∧ w'.cell? ⟨bw, r, none⟩ = some (.pointer (some ⟨g, 0, none⟩)) ∧ w'.cell? ⟨b, r * 3, none⟩ = some (.bool true) ∧ w'.cell? ⟨b, r * 3 + 1, none⟩ = some (.int .i64 s) ∧ w'.cell? ⟨b, r * 3 + 2, none⟩ = some (.int .i64 a) ∧ Below wr.heap.size wr w')
                  (first | exact ⟨p0, p1, k0, k1, k2, (Below.refl _ wr).drew⟩ | exact kS)
                  (first | (go_at_call 18; first | (refine (now_any g s a _ (Blk.keep HC.out (Below.refl _ wr).drew)).mono ?_; rintro e x3 ⟨rfl, rfl⟩) | (refine (now_any g s a _ (Blk.keep HC.out kS.2.2.2.2.2)).mono ?_; rintro e x4 ⟨rfl, rfl⟩)) | (go_at_call 21; refine (refNow_any _ _ _ _).mono ?_; rintro e x3 ⟨rfl, hb3⟩; have kS := kept6 (w1 := wr.drew) p0 p1 k0 k1 k2 (Below.refl _ wr).drew hb3 L0 L1 L2))
                have hBx := below_then HR.out (show Below wr.heap.size wr x3 from kS.2.2.2.2.2) HR.out.size
                clear kS hb3
                go_wp2
                go_roundw
                case rel => exact ⟨r + 1, by omega, by go_num, hBx⟩
                case measure => simp [intOf]; omega
            · obtain rfl : r = q := by omega
              have hCr := hC7.below hw
              have HW := Lib.hid hw
              have HR := Lib.hid hR
              clear hR hw
              go_wp2_with fail
              refine (take_any _ _ _ xs _ _ _ ps _ _ _ hCr.m hCr.len hCr.clk (HLs.out _ HW.out) (by omega)).mono ?_
              rintro e z1 ⟨N1, n1, rfl, hN1, hz1⟩
              have hR1 := below_then HR.out hz1 HR.out.size
              have hW1 := below_then HW.out hz1 HW.out.size
              go_wp2_with fail
              refine (same_any _ _ _ _ _ _ _ _ _ (own_ints hN1 (by omega)) (own_ints (own_below H3.out hR1) (by omega))).mono ?_
              rintro e z2 ⟨rfl, hz2⟩
              rw [show decide (takeL xs ps = takeL xs ps) = true from decide_eq_true rfl]
              have hR2 := below_then hR1 hz2 hR1.size
              have hW2 := below_then hW1 hz2 hW1.size
              go_wp2_with fail
              refine (same_any _ _ _ _ _ _ _ _ _ (own_ints (own_below HLr.out hW2) (by omega)) (own_ints (own_below HF.out hW2) (by omega))).mono ?_
              rintro e z3 ⟨rfl, hz3⟩
              rw [show decide (ps ++ List.replicate 80 (-77) = ps ++ List.replicate 80 (-77)) = true from decide_eq_true rfl]
              have hR3 := below_then hR2 hz3 hR2.size
              have hW3 := below_then hW2 hz3 hW2.size
              go_wp2_with fail
              refine (marked_any _ _ _ _ _ _ (own_ints (own_below H1.out hR3) (by omega))).mono ?_
              rintro e z4 ⟨rfl, rfl⟩
              go_wp2_with fail
              refine (marked_any _ _ _ _ _ _ (own_ints (own_below H2.out hR3) (by omega))).mono ?_
              rintro e z5 ⟨rfl, rfl⟩
              go_wp2
              go_ret
              exact ⟨rfl, hB7.trans (hW3.mono hB7.size)⟩
end Go.Proofs.Ytackbdcpbkohoaa
