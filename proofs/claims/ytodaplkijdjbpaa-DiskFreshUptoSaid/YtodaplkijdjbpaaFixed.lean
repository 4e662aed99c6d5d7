/- diskFixed, walked. -/
import Derived.Test.YtodaplkijdjbpaaMine
namespace Go.Proofs.Ytodaplkijdjbpaa
open Go.RowKit
set_option linter.unusedVariables false
set_option linter.unusedSimpArgs false
def fx0 : Pd := Pd.new 2
def fx1 : Pd := (fx0.op 0 (Pa.append [1, 2])).1
def fx2 : Pd := (fx1.op 0 Pa.sync).1
def fx3 : Pd := fx2.arm [⟨1, 1, 7⟩] true
def fx4 : Pd := (fx3.op 0 (Pa.append [0, 3])).1
def fx5 : Pd := (fx4.op 0 Pa.sync).1
def fx6 : Pd := (fx5.op 1 (Pa.append [9])).1
def fx7 : Pd := fx6.strike
theorem fe1 : (fx0.op 0 (Pa.append [1, 2])).2 = 0 := by decide
theorem fe2 : (fx1.op 0 Pa.sync).2 = 0 := by decide
theorem fe3 : fx2.dones 0 = 2 := by decide
theorem fe4 : (fx3.op 0 (Pa.append [0, 3])).2 = 0 := by decide
theorem fe5 : (fx4.op 0 Pa.sync).2 = 80 := by decide
theorem fe6 : (fx5.op 1 (Pa.append [9])).2 = 80 := by decide
theorem fe7 : fx7.image = [(0, [1, 2, 7]), (0, [])] := by decide
theorem fe8 : (fx7.op 1 (Pa.append [9])).2 = 0 := by decide
set_option maxHeartbeats 1600000 in
set_option maxRecDepth 100000 in
theorem fixed_any (w : World) : Calls Try.prog 15 #[] w fun e w' => e = .returned (.bool true) ∧ Below w.heap.size w w' := by
  go_enter Try.func15, Try.ntmps15
  go_wp2_with fail
  refine (diskNew_any 2 w (by omega) (by omega)).mono ?_
  rintro e w1 hh
  obtain ⟨G, pb, rfl, hM⟩ := mine_new hh
  have M0 : Mine w w1 G pb fx0 0 := hM 0
  clear hh hM
  have x1 := below_alloc w1 (.cells #[.int .u8 1, .int .u8 2] 5)
  have p1 : Bytes _ _ 2 [1, 2] := blk_bytes8 (bs := [1, 2]) (Blk.fresh w1 #[.int .u8 1, .int .u8 2] 5) (by simp)
  obtain ⟨ls, hD, -, nx⟩ := (M0.below x1).next
  go_wp2_with fail
  refine (diskAppend_any hD 0 _ 2 2 [1, 2] p1 (L := 3) (by omega) (by omega)).mono ?_
  rintro e w2 ⟨rfl, hT⟩
  rw [show (fx0.op 0 (Pa.append [1, 2])).2 = 0 from fe1]
  have M1 : Mine w w2 G pb fx1 3 := nx _ _ _ hT (Pd.op_n _ _ _)
  clear M0 x1 p1 hD nx hT
  obtain ⟨ls, hD, -, nx⟩ := M1.next
  go_wp2_with fail
  refine (diskSync_any hD 0 (L := 4) (by omega) (by omega)).mono ?_
  rintro e w3 ⟨rfl, hT⟩
  rw [fe2]
  have M2 : Mine w w3 G pb fx2 4 := nx _ _ _ hT (Pd.op_n _ _ _)
  clear M1 hD nx hT
  obtain ⟨ls, hD, -, nx⟩ := M2.next
  go_wp2_with fail
  refine (diskDone_any hD 0).mono ?_
  rintro e w4 ⟨rfl, rfl⟩
  rw [fe3]
  have x4 := below_alloc w3 (.cells #[.int .i64 1, .int .i64 1, .int .u8 7] 55)
  have p4 : FtAt (w3.alloc (.cells #[.int .i64 1, .int .i64 1, .int .u8 7] 55)) (some ⟨w3.heap.size, 0, none⟩) 1 [⟨1, 1, 7⟩] := by
    have hb := Blk.fresh w3 #[.int .i64 1, .int .i64 1, .int .u8 7] 55
    refine ⟨rfl, .inr ⟨_, 0, rfl, fun j hj => ?_⟩⟩
    obtain rfl : j = 0 := by omega
    exact ⟨hb.cell 0, hb.cell 1, hb.cell 2, by unfold Ft.ok; simp⟩
  have hz4 : ∀ k, blkO (some ⟨w3.heap.size, 0, none⟩) = some k → k ≠ G ∧ k ≠ pb := by
    intro k hk
    injection hk with hk
    simp only at hk
    have h1 := hD.lt G (.inl rfl)
    have h2 := hD.lt pb (.inr (.inl rfl))
    omega
  clear hD nx
  obtain ⟨ls, hD, -, nx⟩ := (M2.below x4).next
  go_wp2_with fail
  refine (diskArm_any hD _ 1 1 _ p4 (fun _ => hz4)).mono ?_
  rintro e w5 ⟨rfl, hT⟩
  have M3 : Mine w w5 G pb fx3 4 := nx _ _ _ hT rfl
  clear M2 x4 p4 hz4 hD nx hT
  have x5 := below_alloc w5 (.cells #[.int .u8 0, .int .u8 3] 5)
  have p5 : Bytes _ _ 2 [0, 3] := blk_bytes8 (bs := [0, 3]) (Blk.fresh w5 #[.int .u8 0, .int .u8 3] 5) (by simp)
  obtain ⟨ls, hD, -, nx⟩ := (M3.below x5).next
  go_wp2_with fail
  refine (diskAppend_any hD 0 _ 2 2 [0, 3] p5 (L := 7) (by omega) (by omega)).mono ?_
  rintro e w6 ⟨rfl, hT⟩
  rw [fe4]
  have M4 : Mine w w6 G pb fx4 7 := nx _ _ _ hT (Pd.op_n _ _ _)
  clear M3 x5 p5 hD nx hT
  obtain ⟨ls, hD, -, nx⟩ := M4.next
  go_wp2_with fail
  refine (diskSync_any hD 0 (L := 8) (by omega) (by omega)).mono ?_
  rintro e w7 ⟨rfl, hT⟩
  rw [fe5]
  have M5 : Mine w w7 G pb fx5 8 := nx _ _ _ hT (Pd.op_n _ _ _)
  clear M4 hD nx hT
  have x7 := below_alloc w7 (.cells #[.int .u8 9] 5)
  have p7 : Bytes _ _ 1 [9] := blk_bytes8 (bs := [9]) (Blk.fresh w7 #[.int .u8 9] 5) (by simp)
  obtain ⟨ls, hD, -, nx⟩ := (M5.below x7).next
  go_wp2_with fail
  refine (diskAppend_any hD 1 _ 1 1 [9] p7 (L := 10) (by omega) (by omega)).mono ?_
  rintro e w8 ⟨rfl, hT⟩
  rw [fe6]
  have M6 : Mine w w8 G pb fx6 10 := nx _ _ _ hT (Pd.op_n _ _ _)
  clear M5 x7 p7 hD nx hT
  obtain ⟨ls, hD, -, nx⟩ := M6.next
  go_wp2_with fail
  refine (diskStrike_any hD).mono ?_
  rintro e w9 ⟨rfl, hT⟩
  have M7 : Mine w w9 G pb fx7 10 := nx _ _ _ hT rfl
  clear M6 hD nx hT
  obtain ⟨ls, hD, -, nx⟩ := M7.next
  go_wp2_with fail
  refine (diskImage_any hD).mono ?_
  rintro e w10 ⟨A9, n9, c9, qs, rfl, hS, hq, hb⟩
  have hsp := hS.at_ (fun q hqm => image_len hD hS hq (by omega) q hqm)
  rw [hq, fe7] at hsp
  have M8 := M7.below hb
  clear M7 hD nx hS hq hb
  obtain rfl : 2 = n9 := hsp.1
  obtain ⟨b0, o0, A0, m0, c0, hA0, s0, s1, s2, -, s3⟩ := hsp.at_ 0 (by omega)
  obtain ⟨b1, o1, A1, m1, c1, hA1, t0, t1, t2, -, t3⟩ := hsp.at_ 1 (by omega)
  subst hA0
  cases hA1
  simp at s3 t3
  subst s3 t3
  simp at s0 s1 s2 t0 t1 t2
  have x10 := below_alloc w10 (.cells #[.int .u8 1, .int .u8 2, .int .u8 7] 5)
  have p10 : Bytes _ _ 3 [1, 2, 7] := blk_bytes8 (bs := [1, 2, 7]) (Blk.fresh w10 #[.int .u8 1, .int .u8 2, .int .u8 7] 5) (by simp)
  have s2' := s2.below x10
  have M9 := M8.below x10
  have t1' := (x10.cell (p := ⟨b0, o0 + 2 + 1, none⟩) (block_lt_of_cell t1)).trans t1
  go_wp2_with fail
  refine (equal_same _ _ _ _ _ _ _ _ s2' p10).mono ?_
  rintro e w11 ⟨rfl, q, hw11⟩
  have M11 : Mine w w11 G pb fx7 10 := by rw [hw11]; exact M9.below (below_drew7 _ q)
  have t11 : w11.cell? ⟨b0, o0 + 2 + 1, none⟩ = some (.slice A1 0 c1) := by rw [hw11]; exact t1'
  clear hw11 M9 M8 s2' p10 x10 t1' hsp s0 s1 s2 t0 t1 t2
  have x12 := below_alloc w11 (.cells #[.int .u8 9] 5)
  have p12 : Bytes _ _ 1 [9] := blk_bytes8 (bs := [9]) (Blk.fresh w11 #[.int .u8 9] 5) (by simp)
  obtain ⟨ls, hD, -, nx⟩ := (M11.below x12).next
  go_wp2_with fail
  refine (diskAppend_any hD 1 _ 1 1 [9] p12 (L := 12) (by omega) (by omega)).mono ?_
  rintro e w13 ⟨rfl, hT⟩
  rw [fe8]
  have M13 := nx _ _ _ hT (Pd.op_n _ _ _)
  clear M11 x12 p12 hD nx hT
  go_wp2_with fail
  go_ret
  exact ⟨rfl, M13.low⟩
end Go.Proofs.Ytodaplkijdjbpaa
