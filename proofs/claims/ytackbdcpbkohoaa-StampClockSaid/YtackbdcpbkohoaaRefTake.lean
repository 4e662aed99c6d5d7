/- A vector of clocks: the document's Take, walked; the law StampTake. -/
import Derived.Test.YtackbdcpbkohoaaTake
namespace Go.Proofs.Ytackbdcpbkohoaa
open Go.RowKit
theorem takeAt_none {xs : List Ck} {ps : List Int} {j : Nat} (h : xs[j]? = some none) : takeAt xs ps j = -1 := by
  unfold takeAt
  rw [h]
set_option maxRecDepth 100000 in
set_option maxHeartbeats 1600000 in
theorem refTake_any (A : Option Addr) (n c : Nat) (xs : List Ck) (P : Option Addr) (m pc : Nat) (ps : List Int) (w : World) (B : Nat) (hx : w.ownsRow B 40 3 (.slice A n c) n (xs.flatMap rcl)) (hl : xs.length = n) (hp : Ints w P m ps) (hn : n * 8 ≤ 140737488355328) :
    Calls Try.prog 29 #[.slice A n c, .slice P m pc] w (NewL n (takeL xs ps) w) := by
  have HP := Lib.hid hp.1
  have hm := hp.2.1
  have HL := Lib.hid hl
  clear hl
  go_enter Try.func29, Try.ntmps29
  have H0 := World.ownsRow_made (e := 3) (size := 1) w #[] 0 (Nat.le_refl _) (by simp [maxLen]) rfl
  have hB1 := below_alloc w (.cells #[] 3)
  go_wp2
  go_loopw [5, 6, 7, 8] (fun o i _ _ wr => ∃ k : Nat, ∃ A1 c1 zs, k ≤ n ∧ i = .int .i64 k ∧ o = .slice A1 k c1 ∧ wr.ownsRow w.heap.size 3 1 (.slice A1 k c1) k (ivals zs) ∧ Below w.heap.size w wr ∧ ∀ j : Nat, j < k → zs.getD j 0 = takeAt xs ps j) (fun _ i _ _ _ => n - (intOf i).toNat)
  case atStart => exact ⟨0, _, _, [], by omega, rfl, rfl, H0, hB1, fun j hj => by omega⟩
  case round =>
    clear H0 hB1
    obtain ⟨k, A1, c1, zs, hk, rfl, rfl, hor, hBr, hall⟩ := hrel
    have HA := Lib.hid hall
    clear hall
    by_cases hlt : k < n
    · have hkx : k < xs.length := by rw [HL.out]; exact hlt
      have hxk := List.getElem?_eq_getElem hkx
      generalize xs[k] = x at hxk
      obtain ⟨r0, r1, r2⟩ := rcl_at xs k x hxk
      obtain ⟨b, rfl, h0⟩ := own_cell (own_below hx hBr) _ _ r0
      obtain ⟨b', e', h1⟩ := own_cell (own_below hx hBr) _ _ r1
      injection e' with e'
      injection e' with e' _
      subst e'
      rw [Nat.zero_add] at h0 h1
      have HX := Lib.hid hxk
      clear r0 r1 r2 hxk
      go_wp2
      go_loop [7, 8] (fun v i => ∃ q : Nat, q ≤ m ∧ i = .int .i64 q ∧ v = .int .i64 (takeAt xs (ps.take q) k)) (fun _ i => m - (intOf i).toNat)
      case atStart => exact ⟨0, by omega, rfl, by rw [List.take_zero, takeAt_nil]⟩
      case round =>
        obtain ⟨q, hq, rfl, rfl⟩ := hrel
        by_cases hlq : q < m
        · obtain ⟨b1, o1, rfl, h2⟩ := (hp.below hBr).at_ q hlq
          have HQ : Hid (q < ps.length) := by show q < ps.length; rw [HP.out]; exact hlq
          obtain ⟨p, hpv⟩ : ∃ p, ps.getD q 0 = p := ⟨_, rfl⟩
          rw [hpv] at h2
          have HPV := Lib.hid hpv
          clear hpv
          by_cases hpk : p = k
          · subst hpk
            rcases x with _ | ⟨g, s, a⟩
            · simp only [rB, Option.isSome] at h0
              have HT := Lib.hid (show takeAt xs (ps.take q) k = takeAt xs (ps.take (q + 1)) k by rw [takeAt_none HX.out, takeAt_none HX.out])
              generalize takeAt xs (ps.take q) k = t at *
              go_wp2
              go_round
              case rel => exact ⟨q + 1, by omega, by go_num, by rw [← HT.out]⟩
              case measure => simp [intOf]; omega
            · simp only [rB, Option.isSome, rS] at h0 h1
              have HT := Lib.hid (takeAt_hit HQ k g s a HX.out HPV.out.symm)
              generalize takeAt xs (ps.take q) k = t at *
              go_wp2
              go_round
              case rel => exact ⟨q + 1, by omega, by go_num, by rw [HT.out]⟩
              case measure => simp [intOf]; omega
          · have HT := Lib.hid (takeAt_skip (xs := xs) HQ k (.inl (by rw [HPV.out]; omega)))
            generalize takeAt xs (ps.take q) k = t at *
            have hne : (p == (k : Int)) = false := by rw [beq_eq_false_iff_ne]; exact hpk
            clear hpk
            go_wp2
            go_round
            case rel => exact ⟨q + 1, by omega, by go_num, by rw [HT.out]⟩
            case measure => simp [intOf]; omega
        · obtain rfl : q = m := by omega
          have hfull : ps.take q = ps := by rw [← HP.out, List.take_length]
          rw [hfull]
          have HZ := Lib.hid (show ∀ j : Nat, j < k + 1 → (zs ++ [takeAt xs ps k]).getD j 0 = takeAt xs ps j from fun j hj => by
            have hzl : zs.length = k := by have := hor.1; rwa [ivals_length, Nat.mul_one] at this
            rw [List.getD_eq_getElem?_getD, List.getElem?_append]
            split
            · rw [← List.getD_eq_getElem?_getD]
              exact HA.out j (by omega)
            · obtain rfl : j = k := by omega
              rw [hzl, Nat.sub_self]
              rfl)
          generalize takeAt xs ps k = t at *
          have hBa := below_alloc wr (.cells #[.int .i64 t] 3)
          have hora := own_below hor hBa
          have hR := rdc_block (heap_alloc_new wr (.cells #[.int .i64 t] 3))
          have hBw := below_then hBr hBa hBr.size
          go_wp2_with (at_builtin; refine wpl_append _ rfl (.tmp 40) (.tmp 42) 22 rfl w.heap.size 3 _ 1 8 Try.underlying22 info_int rfl (by decide) (.slice A1 k c1) k _ rfl hora _ 1 _ _ rfl hR (ivals_one [t]) (by decide) (by decide) (by omega) hBw.size ?_; intro A2 c3 wa hown2 hgr2 hne2 hnn2; clear hnn2 hne2)
          have hB2 := hBw.grown hgr2 hBw.size (own_base hora)
          rw [show ivals zs ++ (#[Value.int .i64 t]).toList = ivals (zs ++ [t]) by rw [ivals_append]; rfl] at hown2
          go_roundw
          case rel => exact ⟨k + 1, A2, c3, _, by omega, by go_num, rfl, hown2, hB2, HZ.out⟩
          case measure => simp [intOf]; omega
    · obtain rfl : k = n := by omega
      have hzl : zs.length = k := by have := hor.1; rwa [ivals_length, Nat.mul_one] at this
      have hzs : zs = takeL xs ps := takeL_eq xs ps zs (hzl.trans HL.out.symm) (fun j hj => HA.out j (by rw [← HL.out]; exact hj))
      go_wp2
      go_ret
      exact ⟨_, _, rfl, hzs ▸ hor, hBr⟩
end Go.Proofs.Ytackbdcpbkohoaa
