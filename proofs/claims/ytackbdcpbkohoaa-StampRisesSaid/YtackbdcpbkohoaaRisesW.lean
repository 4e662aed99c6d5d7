/- The law StampRises, walked. -/
import Derived.Test.YtackbdcpbkohoaaClock
import Derived.Deep.CutRange
namespace Go.Proofs.Ytackbdcpbkohoaa
open Go.RowKit
theorem now_val {g : Nat} {s n : Int} {w : World} (h : Clk w g s n) (m : Nat) : Calls Try.prog 18 #[.pointer (some ⟨g, 0, none⟩)] (w.drewN m) fun e w' => e = .returned (.int .i64 s) ∧ w' = w.drewN m :=
  (now_any g s n (w.drewN m) h).mono fun _ _ ⟨h1, h2⟩ => ⟨h1, h2.symm⟩
theorem horizon_val {g : Nat} {s n : Int} {w : World} (h : Clk w g s n) (hg : GoodC s n) (m : Nat) : Calls Try.prog 19 #[.pointer (some ⟨g, 0, none⟩)] (w.drewN m) fun e w' => e = .returned (.int .i64 (s - n)) ∧ ∃ k, w' = (w.drewN m).drewN k :=
  horizon_any g s n (w.drewN m) h hg
set_option maxRecDepth 100000 in
set_option maxHeartbeats 1600000 in
theorem rises_good (s n t : Int) (w : World) (h : GoodC s n) : Calls Try.prog 5 #[.agg #[.int .i64 s, .int .i64 n], .int .i64 t] w fun e w' => e = .returned (.bool true) ∧ Below w.heap.size w w' := by
  have HG := Lib.hid h
  obtain ⟨h1, h2, h3, h4⟩ := h
  go_enter Try.func5, Try.ntmps5
  have hD1 := Blk.fresh w #[.int .i64 s, .int .i64 n] 28
  have hB1 := below_alloc w (.cells #[.int .i64 s, .int .i64 n] 28)
  go_wp2_with fail
  generalize w.alloc (.cells #[.int .i64 s, .int .i64 n] 28) = w1 at *
  refine (head_any _).mono ?_
  rintro e w2 ⟨rfl, hB2⟩
  have hD2 : Blk w2 _ _ _ := hD1.keep hB2
  have hB2' := below_then hB1 hB2 hB1.size
  have d0 : w2.cell? ⟨w.heap.size, 0, none⟩ = some (.int .i64 s) := hD2.cell 0
  have d1 : w2.cell? ⟨w.heap.size, 1, none⟩ = some (.int .i64 n) := hD2.cell 1
  go_wp2_with fail
  refine (new_yes s n _ HG.out).mono ?_
  rintro e w3 ⟨rfl, hC3, hB3⟩
  have hD3 : Blk w3 _ _ _ := hD2.keep hB3
  have hB3' := below_then hB2' hB3 hB2'.size
  have hne : w.heap.size ≠ w2.heap.size := by have := hD2.lt; omega
  have hgg : w.heap.size ≤ w2.heap.size := hB2'.size
  clear d0 d1
  generalize w2.heap.size = g at *
  have d0 : w3.cell? ⟨w.heap.size, 0, none⟩ = some (.int .i64 s) := hD3.cell 0
  go_upto_region 6 with fail
  go_cut [46] from 41 to 46 (fun c wc => c = .bool (decide (t < 0 ∨ 1000 < t)) ∧ w3 = wc)
  case first =>
    go_wp2
    all_goals go_meet
    all_goals exact ⟨by congr 1; simp <;> omega, rfl⟩
  case rest =>
    obtain ⟨rfl, rfl⟩ := hcut
    go_upto_if 46 with fail
    go_cut [1] from 41 to 46 (fun a wc => ∃ T : Int, 0 ≤ T ∧ T ≤ 1000 ∧ a = .int .i64 T ∧ w3 = wc)
    case first =>
      by_cases ht : t < 0 ∨ 1000 < t
      · have hd := decide_eq_true ht
        go_wp2
        go_meet
        exact ⟨1000, by omega, by omega, rfl, rfl⟩
      · have hd := decide_eq_false ht
        go_wp2
        go_meet
        exact ⟨t, by omega, by omega, rfl, rfl⟩
    case rest =>
      obtain ⟨T, T0, T1, rfl, rfl⟩ := hcut
      go_wp2
      clear d0
      go_loopw [7, 8] (fun la i wr => ∃ k l : Int, 0 ≤ k ∧ k ≤ T ∧ i = .int .i64 k ∧ la = .int .i64 l ∧ 0 ≤ l ∧ l ≤ 4611686018427387904 ∧ Clk wr g l n ∧ Blk wr w.heap.size #[.int .i64 s, .int .i64 n] 28 ∧ Below w.heap.size w wr) (fun _ i _ => (T - intOf i).toNat)
      case atStart => exact ⟨0, s, by omega, T0, rfl, rfl, h1, h2, hC3, hD3, hB3'⟩
      case round =>
        clear hC3 hD3 hB3'
        obtain ⟨k, l, k0, k1, rfl, rfl, l0, l1, hC, hD, hB⟩ := hrel
        by_cases hlt : k < T
        · by_cases hw : l = 4611686018427387904
          · subst hw
            have HC := Lib.hid hC
            have e1 := hD.cell 1
            have HGL : Hid (GoodC 4611686018427387904 n) := ⟨by omega, by omega, h3, h4⟩
            go_wp2_with fail
            refine (next_worn g n _ HC.out).mono ?_
            rintro e w5 ⟨rfl, rfl⟩
            go_wp2_with fail
            refine (worn_any g _ n _ HC.out).mono ?_
            rintro e w5 ⟨rfl, rfl⟩
            go_wp2_with fail
            go_quiet ((first | (go_at_call 18; exact Calls.quiet_of_same (now_val HC.out _)) | (go_at_call 19; exact Calls.quiet_of (horizon_val HC.out HGL.out _))))
            go_wp2
            go_roundw
            case rel => exact ⟨k + 1, 4611686018427387904, by omega, by omega, by go_num, rfl, by omega, by omega, HC.out, hD, hB.trans ((below_drews _ _).mono hB.size)⟩
            case measure => simp [intOf]; omega
          · have hl : l < 4611686018427387904 := by omega
            have z0 : (l == 4611686018427387904) = false := by rw [beq_eq_false_iff_ne]; exact hw
            clear hw
            go_wp2_with fail
            refine (next_any g l n _ hC l0 hl).mono ?_
            rintro e w5 ⟨rfl, hg5, hC5⟩
            have HC := Lib.hid hC5
            have hD5 : Blk w5 _ _ _ := hD.grown hg5 (fun e => by cases e; exact hne rfl)
            have hB5 := below_grown hB hg5 hB.size hgg
            have e1 := hD5.cell 1
            have HGL : Hid (GoodC (l + 1) n) := ⟨by omega, by omega, h3, h4⟩
            have hh : l + 1 - n - (l + 1 - n) = 0 := by omega
            go_wp2_with fail
            go_quiet ((first | (go_at_call 18; exact Calls.quiet_of_same (now_val HC.out _)) | (go_at_call 19; exact Calls.quiet_of (horizon_val HC.out HGL.out _))))
            go_wp2
            go_roundw
            case rel => exact ⟨k + 1, l + 1, by omega, by omega, by go_num, by go_num, by omega, by omega, HC.out, hD5, hB5.trans ((below_drews _ _).mono hB5.size)⟩
            case measure => simp [intOf]; omega
        · obtain rfl : k = T := by omega
          go_wp2_with fail
          refine (worn_any g _ n _ hC).mono ?_
          rintro e w5 ⟨rfl, rfl⟩
          go_wp2
          go_ret
          exact ⟨by simp, hB⟩
set_option maxRecDepth 100000 in
set_option maxHeartbeats 1600000 in
theorem rises_bad (s n t : Int) (w : World) (h : ¬ GoodC s n) : Calls Try.prog 5 #[.agg #[.int .i64 s, .int .i64 n], .int .i64 t] w fun e w' => e = .returned (.bool true) ∧ Below w.heap.size w w' := by
  have HG := Lib.hid h
  have h' : s < 0 ∨ 4611686018427387904 < s ∨ n < 0 ∨ 1048576 < n := by unfold GoodC at h; omega
  clear h
  go_enter Try.func5, Try.ntmps5
  have hD1 := Blk.fresh w #[.int .i64 s, .int .i64 n] 28
  have hB1 := below_alloc w (.cells #[.int .i64 s, .int .i64 n] 28)
  go_wp2_with fail
  generalize w.alloc (.cells #[.int .i64 s, .int .i64 n] 28) = w1 at *
  refine (head_any _).mono ?_
  rintro e w2 ⟨rfl, hB2⟩
  have hD2 : Blk w2 _ _ _ := hD1.keep hB2
  have hB2' := below_then hB1 hB2 hB1.size
  have d0 : w2.cell? ⟨w.heap.size, 0, none⟩ = some (.int .i64 s) := hD2.cell 0
  have d1 : w2.cell? ⟨w.heap.size, 1, none⟩ = some (.int .i64 n) := hD2.cell 1
  go_wp2_with fail
  refine (new_no s n _ HG.out).mono ?_
  rintro e w3 ⟨rfl, rfl⟩
  go_wp2
  all_goals
    go_ret
    refine ⟨?_, hB2'⟩
    first | rfl | (congr 2; done) | (congr 2; simp <;> omega)
theorem stampRises_any (s n t : Int) (w : World) : Calls Try.prog 5 #[.agg #[.int .i64 s, .int .i64 n], .int .i64 t] w fun e w' => e = .returned (.bool true) ∧ Below w.heap.size w w' := by
  by_cases h : GoodC s n
  · exact rises_good s n t w h
  · exact rises_bad s n t w h
end Go.Proofs.Ytackbdcpbkohoaa
