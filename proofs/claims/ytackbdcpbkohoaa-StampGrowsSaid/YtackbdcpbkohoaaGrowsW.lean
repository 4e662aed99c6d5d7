/- The law StampGrows, walked. -/
import Derived.Test.YtackbdcpbkohoaaGrows
namespace Go.Proofs.Ytackbdcpbkohoaa
open Go.RowKit
theorem mem_take_all {ps : List Int} {m : Nat} (h : ps.length = m) (j : Int) : decide (j ∈ ps.take m) = decide (j ∈ ps) := by rw [← h, List.take_length]
theorem mem_take_step {ps : List Int} {k : Nat} (hk : k < ps.length) (j : Int) (mv : Bool) : (mv || decide (j ∈ ps.take (k + 1))) = ((mv || decide (j ∈ ps.take k)) || decide (j = ps.getD k 0)) := by
  rw [Bool.or_assoc]
  congr 1
  rw [← Bool.decide_or]
  exact decide_eq_decide.2 (take_succ_mem hk j)
set_option maxRecDepth 100000 in
set_option maxHeartbeats 4000000 in
theorem stampGrows_any (A : Option Addr) (n c : Nat) (ss : List (Int × Int)) (P : Option Addr) (m pc : Nat) (ps : List Int) (G : Option Addr) (l gc : Nat) (gs : List Int) (w : World) (h : RecS IsStart w 2 A n ss) (hn : n * 16 ≤ 140737488351232) (hp : Ints w P m ps) (hm : m * 8 ≤ 140737488355328) (hgo : Ints w G l gs) :
    Calls Try.prog 8 #[.slice A n c, .slice P m pc, .slice G l gc] w fun e w' => e = .returned (.bool true) ∧ Below w.heap.size w w' := by
  have HP := Lib.hid hp.1
  have HGo := Lib.hid hgo.1
  have hl := hgo.2.1
  go_enter Try.func8, Try.ntmps8
  go_wp2_with fail
  refine (head_any _).mono ?_
  rintro e w1 ⟨rfl, hB1⟩
  go_wp2_with fail
  refine (clocks_any _ _ _ ss _ (h.below hB1 (fun _ _ k => k)) hn).mono ?_
  rintro e w2 ⟨A1, c1, A2, c2, xs, rfl, hC2, hB2⟩
  have hB2' := below_then hB1 hB2 hB1.size
  have HL := Lib.hid hC2.len
  have hBs := hB1.size
  go_wp2
  go_loop [9, 28] (fun _ i => ∃ k : Nat, k ≤ n ∧ i = .int .i64 k) (fun _ i => n - (intOf i).toNat)
  case atStart => exact ⟨0, by omega, rfl⟩
  case round =>
    obtain ⟨k, hk, rfl⟩ := hrel
    by_cases hlt : k < n
    · have hkx : k < xs.length := by rw [HL.out]; exact hlt
      have hxk := List.getElem?_eq_getElem hkx
      generalize xs[k] = x at hxk
      obtain ⟨r0, -, -⟩ := rcl_at xs k x hxk
      obtain ⟨b, rfl, h0⟩ := own_cell hC2.k _ _ r0
      obtain ⟨b2, rfl, h2⟩ := own_cell hC2.m k (ptrV x) (by rw [List.getElem?_map, hxk]; rfl)
      rw [Nat.zero_add] at h0 h2
      clear hxk r0
      rcases x with _ | ⟨g, s, a⟩
      · simp only [ptrV, ptA, rB, Option.isSome] at h0 h2
        go_wp2
        go_round
        case rel => exact ⟨k + 1, by omega, by go_num⟩
        case measure => simp [intOf]; omega
      · simp only [ptrV, ptA, rB, Option.isSome] at h0 h2
        go_wp2
        go_round
        case rel => exact ⟨k + 1, by omega, by go_num⟩
        case measure => simp [intOf]; omega
    · obtain rfl : k = n := by omega
      go_wp2_with fail
      refine (copied_any _ _ _ ps _ (hp.below hB2') hm).mono ?_
      rintro e w3 ⟨A3, c3, rfl, ho3, hB3, -⟩
      have hC3 := hC2.below hB3
      have hB3' := below_then hB2' hB3 hB2'.size
      go_wp2_with fail
      refine (take_any _ _ _ xs _ _ _ ps _ _ _ hC3.m hC3.len hC3.clk (own_ints ho3 (by omega)) (by omega)).mono ?_
      rintro e w4 ⟨A4, c4, rfl, ho4, hB4⟩
      have hC4 := hC3.below hB4
      have hB4' := below_then hB3' hB4 hB3'.size
      have hb34 := hB3'.size
      clear hC2 hC3 hB1 hB2 hB3 hB4 ho3
      go_wp2
      go_loopw [11, 50] (fun mv i wr => ∃ q : Nat, ∃ v ys, q ≤ l ∧ i = .int .i64 q ∧ mv = .bool v ∧ Adv xs ys ps v ∧ wr.ownsRow w1.heap.size 29 1 (.slice A1 k c1) k (ys.map ptrV) ∧ Clks w1.heap.size wr ys ∧ Inj ys ∧ wr.ownsRow w3.heap.size 3 1 (.slice A4 k c4) k (ivals (takeL xs ps)) ∧ Below w.heap.size w wr) (fun _ i _ => l - (intOf i).toNat)
      case atStart => exact ⟨0, false, xs, by omega, rfl, rfl, Adv.refl _ _, hC4.m, hC4.clk, hC4.inj, ho4, hB4'⟩
      case round =>
        clear hC4 ho4 hB4'
        obtain ⟨q, v, ys, hq, rfl, rfl, hA, hM, hK, hI, hE, hB⟩ := hrel
        have HA := Lib.hid hA
        have HI := Lib.hid hI
        have HYL := Lib.hid (hA.len.trans HL.out)
        clear hA hI
        by_cases hlq : q < l
        · obtain ⟨b1, o1, rfl, h1⟩ := (hgo.below hB).at_ q hlq
          generalize gs.getD q 0 = p at h1
          by_cases hin : 0 ≤ p ∧ p < k
          · obtain ⟨j, rfl⟩ := Int.eq_ofNat_of_zero_le hin.1
            have hjk : j < k := by omega
            have hjx : j < ys.length := by rw [HYL.out]; exact hjk
            have hyj := List.getElem?_eq_getElem hjx
            generalize ys[j] = x at hyj
            obtain ⟨b2, rfl, h2⟩ := own_cell hM j (ptrV x) (by rw [List.getElem?_map, hyj]; rfl)
            rw [Nat.zero_add] at h2
            have i0 : (0 : Int) ≤ (j : Int) := by omega
            have i1 : (j : Int) < (k : Int) := by omega
            rcases x with _ | ⟨g, s, a⟩
            · simp only [ptrV, ptA] at h2
              clear hyj
              go_wp2
              go_roundw
              case rel => exact ⟨q + 1, v, ys, by omega, by go_num, rfl, HA.out, hM, hK, HI.out, hE, hB⟩
              case measure => simp [intOf]; omega
            · simp only [ptrV, ptA] at h2
              obtain ⟨ck, hBg, hgood⟩ := hK j g s a hyj
              have HY := Lib.hid hyj
              have HGd := Lib.hid hgood
              clear hyj hgood
              by_cases hw : s = 4611686018427387904
              · subst hw
                go_wp2_with fail
                refine (next_worn g a _ ck).mono ?_
                rintro e w5 ⟨rfl, rfl⟩
                go_wp2
                go_loop [11, 17, 79] (fun mv _ i => ∃ t : Nat, t ≤ m ∧ i = .int .i64 t ∧ mv = .bool v) (fun _ _ i => m - (intOf i).toNat)
                case atStart => exact ⟨0, by omega, rfl, rfl⟩
                case round =>
                  obtain ⟨t, ht, rfl, rfl⟩ := hrel
                  by_cases hlt2 : t < m
                  · obtain ⟨b3, o3, rfl, h3⟩ := (hp.below hB).at_ t hlt2
                    generalize ps.getD t 0 = z at h3
                    by_cases hz : z = j
                    · subst hz
                      go_wp2
                      go_round
                      case rel => exact ⟨t + 1, by omega, by go_num, rfl⟩
                      case measure => simp [intOf]; omega
                    · have hne : (z == (j : Int)) = false := by rw [beq_eq_false_iff_ne]; exact hz
                      clear hz
                      go_wp2
                      go_round
                      case rel => exact ⟨t + 1, by omega, by go_num, rfl⟩
                      case measure => simp [intOf]; omega
                  · obtain rfl : t = m := by omega
                    go_wp2
                    go_roundw
                    case rel => exact ⟨q + 1, v, ys, by omega, by go_num, rfl, HA.out, hM, hK, HI.out, hE, hB⟩
                    case measure => simp [intOf]; omega
              · have hs0 : 0 ≤ s := HGd.out.1
                have hs1 : s < 4611686018427387904 := by have := HGd.out.2.1; omega
                clear hw
                go_wp2_with fail
                refine (next_any g s a _ ck hs0 hs1).mono ?_
                rintro e w5 ⟨rfl, hg5, ck5⟩
                have hM5 := hM.kept hg5 (.inr (own_not_blk hM ck (by decide)))
                have hE5 := hE.kept hg5 (.inr (own_not_blk hE ck (by decide)))
                have hK5 := hK.step HI.out HY.out hg5 ck5 ⟨by omega, by omega, HGd.out.2.2⟩
                have hB5 := below_grown hB hg5 hB.size (by omega)
                have HI5 := Lib.hid (HI.out.step (s' := s + 1) HY.out)
                have HA5 := Lib.hid (HA.out.step HY.out)
                rw [← ptrs_step (s' := s + 1) HY.out] at hM5
                generalize ys.set j (some (g, s + 1, a)) = ys5 at *
                clear hM hE hK hB h2 h1 ck ck5
                go_wp2
                go_loop [11, 17, 79] (fun mv _ i => ∃ t : Nat, t ≤ m ∧ i = .int .i64 t ∧ mv = .bool (v || decide ((j : Int) ∈ ps.take t))) (fun _ _ i => m - (intOf i).toNat)
                case atStart => exact ⟨0, by omega, rfl, by simp⟩
                case round =>
                  obtain ⟨t, ht, rfl, rfl⟩ := hrel
                  by_cases hlt2 : t < m
                  · obtain ⟨b3, o3, rfl, h3⟩ := (hp.below hB5).at_ t hlt2
                    have HT := Lib.hid (mem_take_step (ps := ps) (k := t) (by rw [HP.out]; exact hlt2) (j : Int) v)
                    generalize (v || decide ((j : Int) ∈ ps.take t)) = v2 at *
                    generalize ps.getD t 0 = z at h3 HT
                    by_cases hz : z = j
                    · subst hz
                      go_wp2
                      go_round
                      case rel => exact ⟨t + 1, by omega, by go_num, by rw [HT.out]; simp⟩
                      case measure => simp [intOf]; omega
                    · have hne : (z == (j : Int)) = false := by rw [beq_eq_false_iff_ne]; exact hz
                      have HZ := Lib.hid (show decide ((j : Int) = z) = false from decide_eq_false fun e => hz e.symm)
                      clear hz
                      go_wp2
                      go_round
                      case rel => exact ⟨t + 1, by omega, by go_num, by rw [HT.out, HZ.out, Bool.or_false]⟩
                      case measure => simp [intOf]; omega
                  · obtain rfl : t = m := by omega
                    rw [mem_take_all HP.out]
                    generalize (v || decide ((j : Int) ∈ ps)) = v2 at *
                    go_wp2
                    go_roundw
                    case rel => exact ⟨q + 1, v2, ys5, by omega, by go_num, rfl, HA5.out, hM5, hK5, HI5.out, hE5, hB5⟩
                    case measure => simp [intOf]; omega
          · have hin' : p < 0 ∨ (k : Int) ≤ p := by omega
            clear hin
            rcases hin' with hin | hin
            · go_wp2
              go_roundw
              case rel => exact ⟨q + 1, v, ys, by omega, by go_num, rfl, HA.out, hM, hK, HI.out, hE, hB⟩
              case measure => simp [intOf]; omega
            · have hp0 : 0 ≤ p := by omega
              go_wp2
              go_roundw
              case rel => exact ⟨q + 1, v, ys, by omega, by go_num, rfl, HA.out, hM, hK, HI.out, hE, hB⟩
              case measure => simp [intOf]; omega
        · obtain rfl : q = l := by omega
          go_wp2_with fail
          refine (copied_any _ _ _ ps _ (hp.below hB) hm).mono ?_
          rintro e x1 ⟨D1, d1, rfl, hx1, hX1, -⟩
          have hB1 := below_then hB hX1 hB.size
          have hM1 := own_below hM hX1
          have hE1 := own_below hE hX1
          have hK1 := hK.below hX1
          go_wp2_with fail
          refine (take_any _ _ _ ys _ _ _ ps _ _ _ hM1 HYL.out hK1 (own_ints hx1 (by omega)) (by omega)).mono ?_
          rintro e x2 ⟨D2, d2, rfl, hx2, hX2⟩
          have hB2 := below_then hB1 hX2 hB1.size
          have hE2 := own_below hE1 hX2
          go_wp2_with fail
          refine (copied_any _ _ _ _ _ (own_ints hE2 (by omega)) (by omega)).mono ?_
          rintro e x3 ⟨D3, d3, rfl, hx3, hX3, -⟩
          have hB3 := below_then hB2 hX3 hB2.size
          have hE3 := own_below hE2 hX3
          have hL3 := own_below hx2 hX3
          go_wp2_with fail
          refine (copied_any _ _ _ _ _ (own_ints hL3 (by omega)) (by omega)).mono ?_
          rintro e x4 ⟨D4, d4, rfl, hx4, hX4, -⟩
          have hB4 := below_then hB3 hX4 hB3.size
          have hE4 := own_below hE3 hX4
          have hL4 := own_below hL3 hX4
          go_wp2_with fail
          refine (below_any _ _ _ _ _ _ _ _ _ (own_ints (own_below hx3 hX4) (by omega)) (own_ints hx4 (by omega))).mono ?_
          rintro e x5 ⟨rfl, rfl⟩
          rw [adv_below HA.out]
          go_wp2_with fail
          refine (same_any _ _ _ _ _ _ _ _ _ (own_ints hE4 (by omega)) (own_ints hL4 (by omega))).mono ?_
          rintro e x6 ⟨rfl, hX6⟩
          have HS := Lib.hid (adv_same HA.out)
          generalize decide (takeL xs ps = takeL ys ps) = sm at *
          clear HA
          cases sm <;> cases v <;> first | exact absurd HS.out (by decide) | skip
          all_goals
            go_wp2
            go_ret
            exact ⟨by simp, below_then hB4 hX6 hB4.size⟩
end Go.Proofs.Ytackbdcpbkohoaa
