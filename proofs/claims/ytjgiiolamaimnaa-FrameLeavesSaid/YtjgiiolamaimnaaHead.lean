/- The laws of layer 9: the head; FrameMake, FrameLong, FrameRead, walked. -/
import Derived.Test.YtjgiiolamaimnaaRefRd
import Derived.Laws.OwnMore
namespace Go.Proofs.Ytjgiiolamaimnaa
open Go.RowKit
set_option linter.unusedVariables false
set_option linter.unusedSimpArgs false
set_option maxRecDepth 100000 in
theorem frame_nil : frameB [] = [197, 0, 0, 0, 0, 231, 215, 144, 182] := by decide +kernel
set_option maxHeartbeats 800000 in
theorem head_any (w : World) : Calls Try.prog 18 #[] w fun e w' => e = .returned (.bool true) ∧ Below w.heap.size w w' := by
  have hba := below_alloc w (.cells #[] 5)
  go_enter Try.func18, Try.ntmps18
  go_wp2_with fail
  refine (fmake_any _ 0 0 [] _ (Bytes.empty _ _) (by omega)).mono ?_
  rintro e w1 ⟨A1, c1, rfl, ho1, hb1⟩
  rw [frame_nil] at ho1
  have hb2 := below_then hba hb1 hba.size
  have h1 := own_bytes' ho1 (by omega)
  have hbb := below_alloc w1 (.cells #[.int .u8 197, .int .u8 0, .int .u8 0, .int .u8 0, .int .u8 0, .int .u8 231, .int .u8 215, .int .u8 144, .int .u8 182] 5)
  have h2 : Bytes (w1.alloc (.cells #[.int .u8 197, .int .u8 0, .int .u8 0, .int .u8 0, .int .u8 0, .int .u8 231, .int .u8 215, .int .u8 144, .int .u8 182] 5)) (some ⟨w1.heap.size, 0, none⟩) 9 [197, 0, 0, 0, 0, 231, 215, 144, 182] := blk_bytes (bs := [197, 0, 0, 0, 0, 231, 215, 144, 182]) (Blk.fresh _ _ _) (by simp)
  have h3 := h1.below hbb
  clear ho1 hba hb1 h1
  go_wp2_with fail
  refine (same_any _ _ _ _ _ _ _ _ _ h3 h2).mono ?_
  rintro e w2 ⟨rfl, rfl⟩
  go_wp2_with fail
  go_ret
  exact ⟨rfl, below_then hb2 hbb hb2.size⟩
set_option maxHeartbeats 800000 in
theorem frameMake_any (A : Option Addr) (n c : Nat) (p : List UInt8) (w : World) (hb : Bytes w A n p) (hn : n ≤ 140737488355328) :
    Calls Try.prog 3 #[.slice A n c] w fun e w' => e = .returned (.bool true) ∧ Below w.heap.size w w' := by
  go_enter Try.func3, Try.ntmps3
  go_wp2_with fail
  refine (copied_any _ _ _ _ _ hb hn).mono ?_
  rintro e w1 ⟨A1, c1, rfl, ho1, hb1, -⟩
  have h1 := own_bytes' ho1 (by omega)
  by_cases hle : n ≤ 65536
  · go_wp2_with fail
    refine (refMake_any _ _ _ _ _ h1 hle).mono ?_
    rintro e w2 ⟨A2, c2, rfl, ho2, hb2⟩
    have hb2' := below_then hb1 hb2 hb1.size
    go_wp2_with fail
    refine (copied_any _ _ _ _ _ (hb.below hb2') hn).mono ?_
    rintro e w3 ⟨A3, c3, rfl, ho3, hb3, -⟩
    have hb3' := below_then hb2' hb3 hb2'.size
    go_wp2_with fail
    refine (fmake_any _ _ _ _ _ (own_bytes' ho3 (by omega)) hle).mono ?_
    rintro e w4 ⟨A4, c4, rfl, ho4, hb4⟩
    have hb4' := below_then hb3' hb4 hb3'.size
    go_wp2_with fail
    refine (head_any _).mono ?_
    rintro e w5 ⟨rfl, hb5⟩
    have h4 := (own_bytes' ho4 (by omega)).below hb5
    have h2 := (own_bytes' ho2 (by omega)).below (below_then hb3 (below_then hb4 hb5 hb4.size) hb3.size)
    go_wp2_with fail
    refine (same_any _ _ _ _ _ _ _ _ _ h4 h2).mono ?_
    rintro e w6 ⟨rfl, rfl⟩
    go_wp2_with fail
    go_ret
    exact ⟨by simp, below_then hb4' hb5 hb4'.size⟩
  · go_wp2_with fail
    refine (refMake_no _ _ _ _ (by omega)).mono ?_
    rintro e w2 ⟨rfl, rfl⟩
    go_wp2_with fail
    refine (copied_any _ _ _ _ _ (hb.below hb1) hn).mono ?_
    rintro e w3 ⟨A3, c3, rfl, ho3, hb3, -⟩
    have hb3' := below_then hb1 hb3 hb1.size
    go_wp2_with fail
    refine (fmake_no _ _ _ _ (by omega)).mono ?_
    rintro e w4 ⟨rfl, rfl⟩
    go_wp2_with fail
    refine (head_any _).mono ?_
    rintro e w5 ⟨rfl, hb5⟩
    go_wp2_with fail
    refine (same_any _ _ _ _ _ _ _ _ _ (Bytes.empty _ _) (Bytes.empty _ _)).mono ?_
    rintro e w6 ⟨rfl, rfl⟩
    go_wp2_with fail
    go_ret
    exact ⟨rfl, below_then hb3' hb5 hb3'.size⟩
set_option maxHeartbeats 800000 in
theorem frameRead_any (A : Option Addr) (n c : Nat) (p : List UInt8) (w : World) (hb : Bytes w A n p) (hn : n ≤ 140737488355328) :
    Calls Try.prog 5 #[.slice A n c] w fun e w' => e = .returned (.bool true) ∧ Below w.heap.size w w' := by
  go_enter Try.func5, Try.ntmps5
  go_wp2_with fail
  refine (copied_any _ _ _ _ _ hb hn).mono ?_
  rintro e w1 ⟨A1, c1, rfl, ho1, hb1, -⟩
  go_wp2_with fail
  refine (refRead_any _ _ _ _ _ (own_bytes' ho1 (by omega)) (own_cap4 ho1) (by omega)).mono ?_
  rintro e w2 ⟨A2, c2, rfl, ho2, hb2⟩
  have hb2' := below_then hb1 hb2 hb1.size
  go_wp2_with fail
  refine (copied_any _ _ _ _ _ (hb.below hb2') hn).mono ?_
  rintro e w3 ⟨A3, c3, rfl, ho3, hb3, -⟩
  have hb3' := below_then hb2' hb3 hb2'.size
  go_wp2_with fail
  refine (fread_any _ _ _ _ _ (own_bytes' ho3 (by omega)) (own_cap4 ho3) (by omega)).mono ?_
  rintro e w4 ⟨A4, c4, rfl, ho4, hb4⟩
  have hb4' := below_then hb3' hb4 hb3'.size
  have hr := rd_len p
  rw [hb.1] at hr
  have hr2 : (rd p).1.length ≤ 281474976710656 := by omega
  generalize rd p = r at *
  obtain ⟨q, x, y⟩ := r
  simp only at ho2 ho4 hr2 ⊢
  clear hr
  go_wp2_with fail
  refine (head_any _).mono ?_
  rintro e w5 ⟨rfl, hb5⟩
  have h4 := (own_bytes' ho4 hr2).below hb5
  have h2 := (own_bytes' ho2 hr2).below (below_then hb3 (below_then hb4 hb5 hb4.size) hb3.size)
  go_wp2_with fail
  refine (same_any _ _ _ _ _ _ _ _ _ h4 h2).mono ?_
  rintro e w6 ⟨rfl, rfl⟩
  go_wp2_with fail
  go_ret
  exact ⟨by simp, below_then hb4' hb5 hb4'.size⟩
end Go.Proofs.Ytjgiiolamaimnaa
