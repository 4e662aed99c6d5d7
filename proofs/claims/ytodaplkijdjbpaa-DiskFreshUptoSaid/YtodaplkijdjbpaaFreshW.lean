/- DiskFresh, walked. -/
import Derived.Test.YtodaplkijdjbpaaFreshP
import Derived.Test.YtodaplkijdjbpaaSteps8
namespace Go.Proofs.Ytodaplkijdjbpaa
open Go.RowKit
set_option linter.unusedVariables false
set_option linter.unusedSimpArgs false
set_option maxRecDepth 100000 in
set_option maxHeartbeats 3200000 in
theorem diskFresh_any (ft : Ft) (hft : ft.ok) (A1 : Option Addr) (n1 c1 : Nat) (xs : List UInt8) (A2 : Option Addr) (n2 c2 : Nat) (bs : List UInt8) (w : World) (h1 : Bytes w A1 n1 xs) (h2 : Bytes w A2 n2 bs) (hn1 : n1 ≤ 1048576) (hn2 : n2 ≤ 1048576) :
    Calls Try.prog 6 #[.slice A1 n1 c1, .slice A2 n2 c2, .agg #[.int .i64 ft.d, .int .i64 ft.k, .int .u8 ((ft.t.toNat : Nat) : Int)]] w fun e w' => e = .returned (.bool true) ∧ Below w.heap.size w w' := by
  obtain ⟨fd, fk, ftt⟩ := ft
  have hT0 : (0 : Int) ≤ ((ftt.toNat : Nat) : Int) := by omega
  obtain ⟨tt, htt⟩ : ∃ tt : Int, ((ftt.toNat : Nat) : Int) = tt := ⟨_, rfl⟩
  have HTT := Lib.hid htt
  rw [htt]
  obtain ⟨f0, f1, f2, f3⟩ := hft
  simp only at f0 f1 f2 f3
  clear htt hT0
  have x0 := below_alloc w (.cells #[.int .i64 fd, .int .i64 fk, .int .u8 tt] 55)
  have b0 := Blk.fresh w #[.int .i64 fd, .int .i64 fk, .int .u8 tt] 55
  have HRM := Lib.hid (roomy_any A1 n1 c1 xs _ (h1.below x0) hn1)
  have HX := Lib.hid x0
  have HB0 := Lib.hid b0
  clear x0 b0
  go_enter Try.func6, Try.ntmps6
  go_wp2_with fail
  refine HRM.out.mono ?_
  rintro e w1 ⟨B1, e1, rfl, ho1, hb1⟩
  have hB1 := below_then HX.out hb1 HX.out.size
  have q1 := HB0.out.keep hb1
  have r1 := own_mono ho1 HX.out.size
  have HRM2 := Lib.hid (roomy_any A2 n2 c2 bs _ (h2.below hB1) hn2)
  clear HRM ho1 hb1
  go_wp2_with fail
  refine HRM2.out.mono ?_
  rintro e w2 ⟨B2, e2, rfl, ho2, hb2⟩
  have hB2 := below_then hB1 hb2 hB1.size
  have q2 := q1.keep hb2
  have hcap1 := own_cap8 r1
  have hcap2 := own_cap8 ho2
  have hfirst := own_bytes' (own_below r1 hb2) (by omega)
  have hS2 : Sep w2 w.heap.size [⟨B2, n2 + 80, e2, bs ++ List.replicate 80 165⟩, ⟨B1, n1 + 80, e1, xs ++ List.replicate 80 165⟩] := by
    have h0 : Sep w1 w.heap.size [⟨B1, n1 + 80, e1, xs ++ List.replicate 80 165⟩] := ⟨fun r hr => by rw [List.mem_singleton] at hr; subst hr; exact r1, List.pairwise_singleton _ _⟩
    exact h0.append hb2 hB1.size (ns := [⟨B2, n2 + 80, e2, bs ++ List.replicate 80 165⟩]) ⟨fun r hr => by rw [List.mem_singleton] at hr; subst hr; exact ho2, List.pairwise_singleton _ _⟩
  have hfa : Bytes w2 B1 n1 xs := by
    have := hfirst.take n1 (by omega)
    rwa [List.take_left' h1.1] at this
  have hn1i : (n1 : Int) ≤ (e1 : Int) := by omega
  have HS2 := Lib.hid hS2
  have HFA := Lib.hid hfa
  have HB2 := Lib.hid hB2
  have HQ2 := Lib.hid q2
  clear q1 HRM2 r1 ho2 hb2 hfirst hS2 hfa hB1 hB2 q2
  have x3 : Below w2.heap.size w2 (w2.alloc (.cells #[.int .i64 3, .slice B1 n1 e1, .int .i64 5, .slice B1 n1 e1] 44)).drew := (below_alloc w2 _).drew
  have k3 : Blk (w2.alloc (.cells #[.int .i64 3, .slice B1 n1 e1, .int .i64 5, .slice B1 n1 e1] 44)).drew w2.heap.size #[.int .i64 3, .slice B1 n1 e1, .int .i64 5, .slice B1 n1 e1] 44 := (Blk.fresh w2 _ _).keep (Below.refl _ _).drew
  obtain ⟨w3, hw3⟩ : ∃ w3, (w2.alloc (.cells #[.int .i64 3, .slice B1 n1 e1, .int .i64 5, .slice B1 n1 e1] 44)).drew = w3 := ⟨_, rfl⟩
  rw [hw3] at x3 k3
  have hB3 := below_then HB2.out x3 HB2.out.size
  have hS3 := HS2.out.below x3
  have q3 := HQ2.out.keep x3
  have hF3 := HFA.out.below x3
  have hsp3 : SpAt w3 (some ⟨w2.heap.size, 0, none⟩) 2 [(3, xs), (5, xs)] := by
    refine ⟨rfl, .inr ⟨_, 0, rfl, fun j hj => ?_⟩⟩
    have e : j = 0 ∨ j = 1 := by omega
    rcases e with rfl | rfl
    · exact ⟨k3.cell 0, _, _, _, k3.cell 1, hF3, by omega⟩
    · exact ⟨k3.cell 2, _, _, _, k3.cell 3, hF3, by omega⟩
  have HLD := Lib.hid (diskLoad_any (some ⟨w2.heap.size, 0, none⟩) 2 2 _ w3 hsp3 (fun j hj => by
    have e : j = 0 ∨ j = 1 := by omega
    have hx := h1.1
    rcases e with rfl | rfl <;> (simp; omega)))
  have HX3 := Lib.hid (And.intro hB3 (And.intro hS3 (And.intro q3 k3)))
  have hk3 := k3.lt
  have HK3 := Lib.hid hk3
  clear x3 k3 hB3 hS3 q3 hF3 hsp3 hk3
  go_upto_region 2 with fail
  go_region
  all_goals go_wp2_with fail
  refine HLD.out.mono ?_
  rintro e w4 ⟨hb4, hcase⟩
  rcases hcase with ⟨hbad, -⟩ | ⟨hok, G, pb, ls, rfl, hD4, hk4⟩
  · exact absurd (show loadOk [(3, xs), (5, xs)] from ⟨by simp, by simp, fun j hj => by
      have e : j = 0 ∨ j = 1 := by simp at hj; omega
      rcases e with rfl | rfl <;> simp [badBase]⟩) hbad
  have hA4 := apt_load8 HX3.out.1 hb4 hD4 hk4
  have hF4 : Fs w w4 G pb (frP xs) 0 (fun k => k < w3.heap.size) [⟨B2, n2 + 80, e2, bs ++ List.replicate 80 165⟩, ⟨B1, n1 + 80, e1, xs ++ List.replicate 80 165⟩] := ⟨hA4, HX3.out.2.1.below hb4, fun r hr q e => (Rw.lt (HX3.out.2.1.own r hr) q e).2⟩
  have HBX4 := Lib.hid (And.intro (HX3.out.2.2.1.keep hb4) (HX3.out.2.2.2.keep hb4))
  have HLT := Lib.hid (And.intro HX3.out.2.2.1.lt HK3.out)
  have HF4 := Lib.hid hF4
  clear hA4 hD4 hk4 hF4 HX3 HLD hb4 hw3 hok HK3
  have hn2i : (n2 : Int) ≤ (e2 : Int) := by omega
  obtain ⟨ls5, hD5, -, nx⟩ := HF4.out.op
  have hby := (HF4.out.bytes (k := 0) rfl (by omega)).take n2 (by omega)
  rw [List.take_left' h2.1] at hby
  have HBY := Lib.hid hby
  have HNX := Lib.hid nx
  clear hby nx
  go_wp2_with fail
  refine (diskAppend_any hD5 0 B2 n2 e2 bs HBY.out (K := 0) (L := 3000000) (by omega) (by omega)).mono ?_
  rintro e w5 ⟨rfl, hT⟩
  rw [show ((frP xs).op 0 (Pa.append bs)).2 = 0 from by rw [fr_e1]]
  have HF5 : Hid (Fs w w5 G pb (frQ1 xs bs) 3000000 _ _) := Lib.hid (HNX.out _ _ _ hT (Pd.op_n _ _ _)).1
  have HBX5 := Lib.hid (And.intro (hT.blk hD5 HBX4.out.1 (by decide) (by decide) (by decide) (by decide)) (hT.blk hD5 HBX4.out.2 (by decide) (by decide) (by decide) (by decide)))
  clear HNX HBY hT hD5 HF4 HBX4
  obtain ⟨ls6, hD6, -, nx⟩ := HF5.out.op
  have hby := (HF5.out.bytes (k := 0) rfl (by omega)).take n2 (by omega)
  rw [List.take_left' h2.1] at hby
  have HBY := Lib.hid hby
  have HNX := Lib.hid nx
  clear hby nx
  go_wp2_with fail
  refine (diskAppend_any hD6 1 B2 n2 e2 bs HBY.out (K := 3000000) (L := 6000000) (by omega) (by omega)).mono ?_
  rintro e w6 ⟨rfl, hT⟩
  rw [show ((frQ1 xs bs).op 1 (Pa.append bs)).2 = 0 from by rw [fr_e2]]
  have HF6 : Hid (Fs w w6 G pb (frQ2 xs bs) 6000000 _ _) := Lib.hid (HNX.out _ _ _ hT (Pd.op_n _ _ _)).1
  have HBX6 := Lib.hid (And.intro (hT.blk hD6 HBX5.out.1 (by decide) (by decide) (by decide) (by decide)) (hT.blk hD6 HBX5.out.2 (by decide) (by decide) (by decide) (by decide)))
  clear HNX HBY hT hD6 HF5 HBX5
  obtain ⟨ls7, hD7, -, nx⟩ := HF6.out.op
  have HNX := Lib.hid nx
  clear nx
  go_wp2_with fail
  refine (diskSync_any hD7 0 (K := 6000000) (L := 6000001) (by omega) (by omega)).mono ?_
  rintro e w7 ⟨rfl, hT⟩
  rw [show ((frQ2 xs bs).op 0 Pa.sync).2 = 0 from by rw [fr_e3]]
  have HF7 : Hid (Fs w w7 G pb (frQ3 xs bs) 6000001 _ _) := Lib.hid (HNX.out _ _ _ hT (Pd.op_n _ _ _)).1
  have HBX7 := Lib.hid (And.intro (hT.blk hD7 HBX6.out.1 (by decide) (by decide) (by decide) (by decide)) (hT.blk hD7 HBX6.out.2 (by decide) (by decide) (by decide) (by decide)))
  clear HNX hT hD7 HF6 HBX6
  obtain ⟨ls8, hD8, -, nx⟩ := HF7.out.op
  have HNX := Lib.hid nx
  clear nx
  go_wp2_with fail
  refine (diskSync_any hD8 1 (K := 6000001) (L := 6000002) (by omega) (by omega)).mono ?_
  rintro e w8 ⟨rfl, hT⟩
  rw [show ((frQ3 xs bs).op 1 Pa.sync).2 = 0 from by rw [fr_e4]]
  have HF8 : Hid (Fs w w8 G pb (frQ4 xs bs) 6000002 _ _) := Lib.hid (HNX.out _ _ _ hT (Pd.op_n _ _ _)).1
  have HBX8 := Lib.hid (And.intro (hT.blk hD8 HBX7.out.1 (by decide) (by decide) (by decide) (by decide)) (hT.blk hD8 HBX7.out.2 (by decide) (by decide) (by decide) (by decide)))
  clear HNX hT hD8 HF7 HBX7
  have HRA := Lib.hid (roomy_any A1 n1 c1 xs w8 (h1.below HF8.out.low) hn1)
  go_wp2_with fail
  refine HRA.out.mono ?_
  rintro e w9 ⟨B9, e9, rfl, ho9, hb9⟩
  have HF9 := Lib.hid (HF8.out.keep hb9)
  have HBX9 := Lib.hid (And.intro (HBX8.out.1.keep hb9) (HBX8.out.2.keep hb9))
  have hy9 := own_bytes' ho9 (by omega)
  have hf9 := HF9.out.bytes (k := 1) rfl (by omega)
  clear HRA HF8 HBX8 ho9 hb9
  go_wp2_with fail
  refine (equal_same _ _ _ _ _ _ _ _ hf9 hy9).mono ?_
  rintro e w10 ⟨rfl, q10, hw10⟩
  have hb10 : Below w9.heap.size w9 w10 := by rw [hw10]; exact below_drew7 _ _
  have HF10 := Lib.hid (HF9.out.keep hb10)
  have HBX10 := Lib.hid (And.intro (HBX9.out.1.keep hb10) (HBX9.out.2.keep hb10))
  have HRB := Lib.hid (roomy_any A2 n2 c2 bs w10 (h2.below HF10.out.low) hn2)
  clear HF9 HBX9 hy9 hf9 hb10 hw10
  go_wp2_with fail
  refine HRB.out.mono ?_
  rintro e w11 ⟨B11, e11, rfl, ho11, hb11⟩
  have HF11 := Lib.hid (HF10.out.keep hb11)
  have HBX11 := Lib.hid (And.intro (HBX10.out.1.keep hb11) (HBX10.out.2.keep hb11))
  have hy11 := own_bytes' ho11 (by omega)
  have hf11 := HF11.out.bytes (k := 0) rfl (by omega)
  clear HRB HF10 HBX10 ho11 hb11
  go_wp2_with fail
  refine (equal_same _ _ _ _ _ _ _ _ hf11 hy11).mono ?_
  rintro e w12 ⟨rfl, q12, hw12⟩
  have hb12 : Below w11.heap.size w11 w12 := by rw [hw12]; exact below_drew7 _ _
  have HF12 := Lib.hid (HF11.out.keep hb12)
  have HBX12 := Lib.hid (And.intro (HBX11.out.1.keep hb12) (HBX11.out.2.keep hb12))
  obtain ⟨z0, z1, z2⟩ : w12.cell? ⟨w.heap.size, 0, none⟩ = some (.int .i64 fd) ∧ w12.cell? ⟨w.heap.size, 1, none⟩ = some (.int .i64 fk) ∧ w12.cell? ⟨w.heap.size, 2, none⟩ = some (.int .u8 tt) := ⟨HBX12.out.1.cell 0, HBX12.out.1.cell 1, HBX12.out.1.cell 2⟩
  clear HF11 HBX11 hy11 hf11 hb12 hw12
  have x13 := below_alloc w12 (.cells #[.int .i64 fd, .int .i64 fk, .int .u8 tt, .int .i64 fd, .int .i64 fk, .int .u8 tt] 55)
  have k13 := Blk.fresh w12 #[.int .i64 fd, .int .i64 fk, .int .u8 tt, .int .i64 fd, .int .i64 fk, .int .u8 tt] 55
  have p13 : FtAt (w12.alloc (.cells #[.int .i64 fd, .int .i64 fk, .int .u8 tt, .int .i64 fd, .int .i64 fk, .int .u8 tt] 55)) (some ⟨w12.heap.size, 0, none⟩) 2 [⟨fd, fk, ftt⟩, ⟨fd, fk, ftt⟩] := by
    refine ⟨rfl, .inr ⟨_, 0, rfl, fun j hj => ?_⟩⟩
    have e : j = 0 ∨ j = 1 := by omega
    rcases e with rfl | rfl
    · exact ⟨k13.cell 0, k13.cell 1, (k13.cell 2).trans (by rw [← HTT.out]; rfl), ⟨f0, f1, f2, f3⟩⟩
    · exact ⟨k13.cell 3, k13.cell 4, (k13.cell 5).trans (by rw [← HTT.out]; rfl), ⟨f0, f1, f2, f3⟩⟩
  have HF13 := Lib.hid (HF12.out.keep x13)
  have HBX13 := Lib.hid (And.intro (HBX12.out.1.keep x13) (And.intro (HBX12.out.2.keep x13) k13))
  have hlo13 := HF12.out.low.size
  have HLT2 := Lib.hid HBX12.out.1.lt
  obtain ⟨ls12, hD12, -, -⟩ := HF12.out.op
  have hz13 : (2 : Nat) ≠ 0 → ∀ q, blkO (some ⟨w12.heap.size, 0, none⟩) = some q → q ≠ G ∧ q ≠ pb := by
    intro _ q hq
    injection hq with hq
    simp only at hq
    have h1 := hD12.lt G (.inl rfl)
    have h2 := hD12.lt pb (.inr (.inl rfl))
    omega
  obtain ⟨ls13, hD13, -, nx⟩ := HF13.out.op
  have HNX := Lib.hid nx
  clear nx hD12 HF12 HBX12 x13 k13
  go_wp2_with fail
  refine (diskArm_any hD13 _ 2 2 _ p13 hz13).mono ?_
  rintro e w14 ⟨rfl, hT⟩
  have hA := fr_arm xs bs ⟨fd, fk, ftt⟩
  have HF14 := Lib.hid (HNX.out _ _ _ hT rfl).1
  have HBX14 := Lib.hid (And.intro (hT.blk hD13 HBX13.out.1 (by decide) (by decide) (by decide) (by decide)) (And.intro (hT.blk hD13 HBX13.out.2.1 (by decide) (by decide) (by decide) (by decide)) (hT.blk hD13 HBX13.out.2.2 (by decide) (by decide) (by decide) (by decide))))
  have HA := Lib.hid hA
  clear HNX hT hD13 p13 hz13 HF13 HBX13 hA z0 z1 z2
  generalize (frQ4 xs bs).arm [⟨fd, fk, ftt⟩, ⟨fd, fk, ftt⟩] true = P at *
  go_wp2_with fail
  go_loopw [100] (fun iv wr => ∃ i : Nat, ∃ zs : List UInt8, i ≤ n1 + 80 ∧ iv = .int .i64 i ∧ Hid (∀ j, j < i → zs.getD j 0 = 211) ∧ Hid (Fs w wr G pb P 6000002 (fun k => k < w3.heap.size) [⟨B2, n2 + 80, e2, bs ++ List.replicate 80 165⟩, ⟨B1, n1 + 80, e1, zs⟩]) ∧ Hid (Blk wr w.heap.size #[.int .i64 fd, .int .i64 fk, .int .u8 tt] 55 ∧ Blk wr w2.heap.size #[.int .i64 3, .slice B1 n1 e1, .int .i64 5, .slice B1 n1 e1] 44 ∧ Blk wr w12.heap.size #[.int .i64 fd, .int .i64 fk, .int .u8 tt, .int .i64 fd, .int .i64 fk, .int .u8 tt] 55)) (fun iv _ => n1 + 80 - (intOf iv).toNat)
  case atStart => exact ⟨0, _, Nat.zero_le _, rfl, Lib.hid (fun j hj => absurd hj (by omega)), HF14, HBX14⟩
  case round =>
    clear HF14 HBX14
    obtain ⟨i, zs, hi, rfl, HJ, HF, HBX⟩ := hrel
    by_cases hlt : i < n1 + 80
    · obtain ⟨b, rfl, ⟨x, hcx⟩, hfx, hnc, hW, hkb⟩ := HF.out.write (k := 1) rfl hlt 211
      have hzl := (HF.out.own (k := 1) rfl).1
      rw [bvals_length, Nat.mul_one] at hzl
      have hJ2 := set_marks8 hzl hlt HJ.out
      rw [show ((((211 : UInt8).toNat : Nat) : Int)) = (211 : Int) from rfl] at hW hkb
      have HW := Lib.hid hW
      have HKB := Lib.hid (And.intro (hkb _ _ _ HBX.out.1 (by decide)) (And.intro (hkb _ _ _ HBX.out.2.1 (by decide)) (hkb _ _ _ HBX.out.2.2 (by decide))))
      have HJ2 := Lib.hid hJ2
      have i0 : (0 : Int) ≤ (i : Int) := by omega
      have i1 : (i : Int) < ((n1 + 80 : Nat) : Int) := by omega
      clear hW hkb hJ2 hzl HF HBX HJ
      go_wp2_with fail
      go_roundw
      case rel => exact ⟨i + 1, _, by omega, by go_num, HJ2, HW, HKB⟩
      case measure => simp [intOf]; omega
    · obtain rfl : i = n1 + 80 := by omega
      have hz := HF.out.full (k := 1) rfl HJ.out
      subst hz
      clear HJ hlt
      go_wp2_with fail
      go_loopw [109] (fun iv wr => ∃ i : Nat, ∃ zs : List UInt8, i ≤ n2 + 80 ∧ iv = .int .i64 i ∧ Hid (∀ j, j < i → zs.getD j 0 = 213) ∧ Hid (Fs w wr G pb P 6000002 (fun k => k < w3.heap.size) [⟨B2, n2 + 80, e2, zs⟩, ⟨B1, n1 + 80, e1, List.replicate (n1 + 80) 211⟩]) ∧ Hid (Blk wr w.heap.size #[.int .i64 fd, .int .i64 fk, .int .u8 tt] 55 ∧ Blk wr w2.heap.size #[.int .i64 3, .slice B1 n1 e1, .int .i64 5, .slice B1 n1 e1] 44 ∧ Blk wr w12.heap.size #[.int .i64 fd, .int .i64 fk, .int .u8 tt, .int .i64 fd, .int .i64 fk, .int .u8 tt] 55)) (fun iv _ => n2 + 80 - (intOf iv).toNat)
      case atStart => exact ⟨0, _, Nat.zero_le _, rfl, Lib.hid (fun j hj => absurd hj (by omega)), HF, HBX⟩
      case round =>
        clear HF HBX hi
        obtain ⟨i, zs, hi, rfl, HJ, HF, HBX⟩ := hrel
        by_cases hlt : i < n2 + 80
        · obtain ⟨b, rfl, ⟨x, hcx⟩, hfx, hnc, hW, hkb⟩ := HF.out.write (k := 0) rfl hlt 213
          have hzl := (HF.out.own (k := 0) rfl).1
          rw [bvals_length, Nat.mul_one] at hzl
          have hJ2 := set_marks8 hzl hlt HJ.out
          rw [show ((((213 : UInt8).toNat : Nat) : Int)) = (213 : Int) from rfl] at hW hkb
          have HW := Lib.hid hW
          have HKB := Lib.hid (And.intro (hkb _ _ _ HBX.out.1 (by decide)) (And.intro (hkb _ _ _ HBX.out.2.1 (by decide)) (hkb _ _ _ HBX.out.2.2 (by decide))))
          have HJ2 := Lib.hid hJ2
          have i0 : (0 : Int) ≤ (i : Int) := by omega
          have i1 : (i : Int) < ((n2 + 80 : Nat) : Int) := by omega
          clear hW hkb hJ2 hzl HF HBX HJ
          go_wp2_with fail
          go_roundw
          case rel => exact ⟨i + 1, _, by omega, by go_num, HJ2, HW, HKB⟩
          case measure => simp [intOf]; omega
        · obtain rfl : i = n2 + 80 := by omega
          have hz := HF.out.full (k := 0) rfl HJ.out
          subst hz
          obtain ⟨s0, s1, s2, s3, sf⟩ := four_cells HBX.out.2.1
          obtain ⟨t0, t1, t2, t3, t4, t5, tf⟩ := six_cells HBX.out.2.2
          have hne : w2.heap.size ≠ w12.heap.size := blk_type HBX.out.2.1 HBX.out.2.2 (by decide)
          have hne2 : w12.heap.size ≠ w2.heap.size := fun e => hne e.symm
          have hlo2 : w.heap.size ≤ w2.heap.size := HB2.out.size
          have hC1 := (((chg_set wr w2.heap.size 0 (.int .i64 0)).set (.inl rfl) 1 (.slice none 0 0)).set (.inl rfl) 2 (.int .i64 0)).set (.inl rfl) 3 (.slice none 0 0)
          have hF1 := HF.out.other HBX.out.2.1 hC1 (by decide) (by decide) (by decide) (by decide) hlo2
          have hf1 := HBX.out.2.2.chg hC1 hne2
          have hq1 := HBX.out.1.chg hC1 (blk_type HBX.out.1 HBX.out.2.1 (by decide))
          obtain ⟨wS, hwS⟩ : ∃ wS, (((wr.setCell ⟨w2.heap.size, 0, none⟩ (.int .i64 0)).setCell ⟨w2.heap.size, 1, none⟩ (.slice none 0 0)).setCell ⟨w2.heap.size, 2, none⟩ (.int .i64 0)).setCell ⟨w2.heap.size, 3, none⟩ (.slice none 0 0) = wS := ⟨_, rfl⟩
          rw [hwS] at hF1 hf1 hq1
          obtain ⟨t0', t1', t2', t3', t4', t5', tf'⟩ := six_cells hf1
          have hC2 := (((((chg_set wS w12.heap.size 0 (.int .i64 1)).set (.inl rfl) 1 (.int .i64 0)).set (.inl rfl) 2 (.int .u8 0)).set (.inl rfl) 3 (.int .i64 1)).set (.inl rfl) 4 (.int .i64 0)).set (.inl rfl) 5 (.int .u8 0)
          have hF2 := hF1.other hf1 hC2 (by decide) (by decide) (by decide) (by decide) hlo13
          have hq2 := hq1.chg hC2 (fun e => by have := HLT2.out; omega)
          obtain ⟨wT, hwT⟩ : ∃ wT, (((((wS.setCell ⟨w12.heap.size, 0, none⟩ (.int .i64 1)).setCell ⟨w12.heap.size, 1, none⟩ (.int .i64 0)).setCell ⟨w12.heap.size, 2, none⟩ (.int .u8 0)).setCell ⟨w12.heap.size, 3, none⟩ (.int .i64 1)).setCell ⟨w12.heap.size, 4, none⟩ (.int .i64 0)).setCell ⟨w12.heap.size, 5, none⟩ (.int .u8 0) = wT := ⟨_, rfl⟩
          rw [hwT] at hF2 hq2
          have HF2 := Lib.hid hF2
          have HQ2' := Lib.hid hq2
          have HWS := Lib.hid hwS
          clear hF1 hf1 hq1 hC1 hC2 hF2 hq2 HF HBX HJ hlt
          go_upto_region 22 with fail
          clear HWS hwS hwT s0 s1 s2 s3 sf t0 t1 t2 t3 t4 t5 tf t0' t1' t2' t3' t4' t5' tf' hne hne2
          have hlowT := HF2.out.low
          have x22 := below_alloc wT (.cells #[] 5)
          have o22 : (wT.alloc (.cells #[] 5)).ownsRow wT.heap.size 5 1 (.slice (some ⟨wT.heap.size, 0, none⟩) 0 0) 0 [] := World.ownsRow_made (e := 5) (size := 1) (base := wT.heap.size) wT #[] 0 (Nat.le_refl _) (by simp [maxLen]) rfl
          have hby1 := h1.below (below_then hlowT x22 hlowT.size)
          go_wp2_with (at_builtin; first | (refine wpl_append _ rfl _ _ 30 rfl wT.heap.size 5 _ 1 1 Try.underlying30 info_byte7 rfl (by decide) (.slice (some ⟨wT.heap.size, 0, none⟩) 0 0) 0 [] rfl o22 A1 n1 c1 _ rfl hby1.rdc (bvals_one _) (by decide) (by decide) (by omega) x22.size ?_; intro A6 c6 w21 ho6 hg6 hne6 hnn6; simp only [Nat.zero_add, List.nil_append] at ho6 ⊢; have hB6 := x22.grown hg6 x22.size (own_base o22); have hby2 := h2.below (below_then hlowT hB6 hlowT.size)) | (refine wpl_append _ rfl _ _ 30 rfl wT.heap.size 5 _ 1 1 Try.underlying30 info_byte7 rfl (by decide) (.slice A6 n1 c6) n1 (bvals xs) rfl ho6 A2 n2 c2 _ rfl hby2.rdc (bvals_one _) (by decide) (by decide) (by omega) hB6.size ?_; intro W cw w22 ho7 hg7 hne7 hnn7; rw [← bvals_append] at ho7; have hB7 := hB6.grown hg7 hB6.size (own_base ho6)))
          have hws : (xs ++ bs).length = n1 + n2 := by rw [List.length_append, h1.1, h2.1]
          have HF3 := Lib.hid (HF2.out.add1 hB7 ho7)
          have HQ3 := Lib.hid (HQ2'.out.keep hB7)
          have hlt22 : w.heap.size ≤ w22.heap.size := HF3.out.low.size
          clear ho7 hg7 hne7 hnn7 hB7 ho6 hg6 hne6 hnn6 hB6 hby1 hby2 o22 x22 HF2 HQ2' hlowT
          generalize (fun k => k < w3.heap.size ∨ wT.heap.size ≤ k ∧ k < w22.heap.size) = F3 at *
          obtain ⟨m, hm⟩ : ∃ m, n1 + n2 = m := ⟨_, rfl⟩
          rw [hm] at hws HF3
          have HWS := Lib.hid hws
          have hm2 : m ≤ 2097152 := by omega
          have HMM := Lib.hid hm
          generalize xs ++ bs = ws at *
          clear hws
          have hmi : (n1 : Int) + (n2 : Int) = (m : Int) := by omega
          rw [hm, hmi]
          clear hm hmi
          refine (rd_any HF3.out (by omega) HWS.out (by omega) 0 3 (HA.out.r0 m HWS.out.symm)).mono ?_
          rintro e w23 ⟨O23, oc23, rfl, hb, ho⟩
          obtain ⟨F23, hF⟩ := HF3.out.put1 hb ho
          have HF23 := Lib.hid hF
          have HQ23 := Lib.hid (HQ3.out.keep hb)
          clear hb ho hF HF3 HQ3
          go_wp2_with fail
          refine (rd_any HF23.out (by omega) HWS.out (by omega) 0 3 (HA.out.r0 m HWS.out.symm)).mono ?_
          rintro e w24 ⟨O24, oc24, rfl, hb, ho⟩
          obtain ⟨F24, hF⟩ := HF23.out.put1 hb ho
          have HF24 := Lib.hid hF
          have HQ24 := Lib.hid (HQ23.out.keep hb)
          clear hb ho hF HF23 HQ23
          go_wp2_with fail
          refine (rd_any HF24.out (by omega) HWS.out (by omega) 1 5 (HA.out.r1 m HWS.out.symm)).mono ?_
          rintro e w25 ⟨O25, oc25, rfl, hb, ho⟩
          obtain ⟨F25, hF⟩ := HF24.out.put1 hb ho
          have HF25 := Lib.hid hF
          have HQ25 := Lib.hid (HQ24.out.keep hb)
          clear hb ho hF HF24 HQ24
          go_wp2_with fail
          refine (im_any HF25.out HWS.out HA.out.im).mono ?_
          rintro e w26 ⟨gi, ci, I0, ic0, I1, ic1, rfl, hb, hgi, hsp, hsep, hci⟩
          obtain ⟨F26, hF⟩ := HF25.out.put2 hb hsep
          have HF26 := Lib.hid hF
          have HQ26 := Lib.hid (HQ25.out.keep hb)
          have HI26 := Lib.hid hsp
          have hlo25 : w.heap.size ≤ gi := by have := HF25.out.low.size; omega
          clear hb hF HF25 HQ25 hsp hsep hgi
          go_wp2_with fail
          refine (im_any HF26.out HWS.out HA.out.im).mono ?_
          rintro e w27 ⟨gj, cj, J0, jc0, J1, jc1, rfl, hb, hgj, hsp, hsep, hcj⟩
          obtain ⟨F27, hF⟩ := HF26.out.put2 hb hsep
          have HF27 := Lib.hid hF
          have HQ27 := Lib.hid (HQ26.out.keep hb)
          have HI27 := Lib.hid (HI26.out.below hb)
          have HJ27 := Lib.hid hsp
          have hgij : gi ≠ gj := by
            obtain ⟨cs, hbk⟩ := HI26.out.blk
            have := hbk.lt
            omega
          have hlo26 : w.heap.size ≤ gj := by have := HF26.out.low.size; omega
          clear hb hF HF26 HQ26 HI26 hsp hsep hgj
          go_upto_region 29 with fail
          have kk := im4 HI27.out HJ27.out (Below.refl _ _)
          have kkd := im4 HI27.out HJ27.out (Below.refl _ w27).drew
          simp only at kk kkd
          have y28 := below_alloc w27 (.cells #[.slice O23 m oc23, .slice O24 m oc24, .slice O25 m oc25, .slice I0 m ic0, .slice I1 m ic1, .slice J0 m jc0, .slice J1 m jc1] 30)
          have k28 := im4 HI27.out HJ27.out y28
          have k28d := im4 HI27.out HJ27.out y28.drew
          simp only at k28 k28d
          go_region_held3 (fun w' => w'.cell? ⟨gi, 1, none⟩ = some (.slice I0 m ic0) ∧ w'.cell? ⟨gi, 3, none⟩ = some (.slice I1 m ic1) ∧ w'.cell? ⟨gj, 1, none⟩ = some (.slice J0 m jc0) ∧ w'.cell? ⟨gj, 3, none⟩ = some (.slice J1 m jc1))
            (first | with_reducible exact kk | with_reducible exact kkd | with_reducible exact k28 | with_reducible exact k28d)
            (fail)
          have hb28 := y28.drew
          have bl28 : Blk (w27.alloc (.cells #[.slice O23 m oc23, .slice O24 m oc24, .slice O25 m oc25, .slice I0 m ic0, .slice I1 m ic1, .slice J0 m jc0, .slice J1 m jc1] 30)).drew w27.heap.size #[.slice O23 m oc23, .slice O24 m oc24, .slice O25 m oc25, .slice I0 m ic0, .slice I1 m ic1, .slice J0 m jc0, .slice J1 m jc1] 30 := (Blk.fresh w27 _ _).keep (Below.refl _ _).drew
          obtain ⟨w28, hw28⟩ : ∃ w28, (w27.alloc (.cells #[.slice O23 m oc23, .slice O24 m oc24, .slice O25 m oc25, .slice I0 m ic0, .slice I1 m ic1, .slice J0 m jc0, .slice J1 m jc1] 30)).drew = w28 := ⟨_, rfl⟩
          rw [hw28] at hb28 bl28
          have hlo27 : w.heap.size ≤ w27.heap.size := HF27.out.low.size
          have hgl : w27.heap.size < w28.heap.size := bl28.lt
          have HF28 := Lib.hid (HF27.out.below hb28)
          have HF28g : Hid ((fun k => F27 k ∨ (w27.heap.size ≤ k ∧ k < w28.heap.size)) w27.heap.size) := Lib.hid (.inr ⟨Nat.le_refl _, hgl⟩)
          generalize (fun k => F27 k ∨ (w27.heap.size ≤ k ∧ k < w28.heap.size)) = F28 at *
          obtain ⟨LS, hLS⟩ : ∃ LS : List Rw, [⟨O23, m, oc23, ws⟩, ⟨O24, m, oc24, ws⟩, ⟨O25, m, oc25, ws⟩, ⟨I0, m, ic0, ws⟩, ⟨I1, m, ic1, ws⟩, ⟨J0, m, jc0, ws⟩, ⟨J1, m, jc1, ws⟩] = LS := ⟨_, rfl⟩
          have hsep28 := (Sep.left (rs := [⟨J1, m, jc1, ws⟩, ⟨J0, m, jc0, ws⟩, ⟨I1, m, ic1, ws⟩, ⟨I0, m, ic0, ws⟩, ⟨O25, m, oc25, ws⟩, ⟨O24, m, oc24, ws⟩, ⟨O23, m, oc23, ws⟩]) (ss := [⟨W, m, cw, ws⟩, ⟨B2, n2 + 80, e2, List.replicate (n2 + 80) 213⟩, ⟨B1, n1 + 80, e1, List.replicate (n1 + 80) 211⟩]) HF28.out.sep).rev
          have hR28 : Rows8 w28 w.heap.size w27.heap.size LS := by rw [← hLS]; exact ⟨bl28, hsep28⟩
          have hLL : LS.length = 7 := by rw [← hLS]; rfl
          have hLn : ∀ r ∈ LS, r.n = m ∧ r.bs = ws := by
            intro r hr
            rw [← hLS] at hr
            simp only [List.mem_cons, List.not_mem_nil, or_false] at hr
            rcases hr with rfl | rfl | rfl | rfl | rfl | rfl | rfl <;> exact ⟨rfl, rfl⟩
          have hFA : Fs w w28 G pb P 6000002 F28 (LS.reverse ++ [⟨W, m, cw, ws⟩, ⟨B2, n2 + 80, e2, List.replicate (n2 + 80) 213⟩, ⟨B1, n1 + 80, e1, List.replicate (n1 + 80) 211⟩]) := by rw [← hLS]; exact HF28.out
          have HR28 := Lib.hid (And.intro hR28 (And.intro hLL hLn))
          have HFA28 := Lib.hid hFA
          have HQ28 := Lib.hid (HQ27.out.keep hb28)
          have HI28 := Lib.hid (HI27.out.below hb28)
          have HJ28 := Lib.hid (HJ27.out.below hb28)
          have HWB := Lib.hid (HF28.out.bytes (k := 7) rfl (by omega))
          clear y28 k28 k28d kk kkd hb28 bl28 HF27 HQ27 HI27 HJ27 HF28 hsep28 hR28 hLL hLn hFA hLS
          go_wp2_with fail
          clear hw28
          go_loopw [25, 200] (fun v iv wr => ∃ k : Nat, ∃ LA lc, k ≤ 7 ∧ iv = .int .i64 k ∧ v = .slice LA k lc ∧ Hid (wr.ownsRow w28.heap.size 3 1 (.slice LA k lc) k (List.replicate k (.int .i64 (m : Nat)))) ∧ Hid (Below w28.heap.size w28 wr)) (fun _ iv _ => 7 - (intOf iv).toNat)
          case atStart => exact ⟨0, none, 0, by omega, rfl, rfl, Lib.hid (World.ownsRow_nil _ _ _ _), Lib.hid (Below.refl _ _)⟩
          case round =>
            obtain ⟨k, LA, lc, hk, rfl, rfl, HO, HB⟩ := hrel
            by_cases hlt : k < 7
            · obtain ⟨r, hr⟩ : ∃ r, LS[k]? = some r := ⟨_, List.getElem?_eq_getElem (by rw [HR28.out.2.1]; exact hlt)⟩
              obtain ⟨hrn, hrb⟩ := HR28.out.2.2 r (List.mem_of_getElem? hr)
              obtain ⟨RA, rn, rc, rb⟩ := r
              simp only at hrn hrb
              subst hrn hrb
              have hRw := HR28.out.1.below HB.out
              have hcl := hRw.cell hr
              simp only at hcl
              have hby := own_bytes' (hRw.own hr) (by omega)
              have hwb := HWB.out.below HB.out
              have j0 : (0 : Int) ≤ (k : Int) := by omega
              have j1 : (k : Int) < 7 := by omega
              clear hRw hr
              go_wp2_with fail
              refine (equal_same _ _ _ _ _ _ _ _ hby hwb).mono ?_
              rintro e wq ⟨rfl, qq, hwq⟩
              have hbq : Below wr.heap.size wr wq := by rw [hwq]; exact below_drew7 _ _
              have hBq := below_then HB.out hbq HB.out.size
              have x30 := below_alloc wq (.cells #[.int .i64 (rn : Nat)] 3)
              have o30 := own_below (own_below HO.out hbq) x30
              have rl30 := rdc_block (heap_alloc_new wq (.cells #[.int .i64 (rn : Nat)] 3))
              have hB30 := below_then hBq x30 hBq.size
              clear hby hwb hcl hwq hbq
              go_wp2_with (at_builtin; refine wpl_append _ rfl _ _ 62 rfl w28.heap.size 3 _ 1 8 Try.underlying62 info_int8 rfl (by decide) (.slice LA k lc) k _ rfl o30 _ 1 1 [.int .i64 (rn : Nat)] rfl rl30 (by simp [Value.oneCell']) (by decide) (by decide) (by omega) hB30.size ?_; intro A3 c3 wa ho3 hg3 hne3 hnn3; rw [← List.replicate_succ'] at ho3; have hB3 := hB30.grown hg3 hB30.size (own_base o30))
              have HO3 := Lib.hid ho3
              have HB3 := Lib.hid hB3
              clear ho3 hB3 hg3 hne3 hnn3 x30 o30 rl30 hB30 hBq HO HB
              go_roundw
              case rel => exact ⟨k + 1, A3, c3, by omega, by go_num, rfl, HO3, HB3⟩
              case measure => simp [intOf]; omega
            · obtain rfl : k = 7 := by omega
              obtain ⟨lb, ics, rfl, hlb, hib, -, hic⟩ := own_blk8 HO.out (by omega)
              have hIw := HI28.out.below HB.out
              have hJw := HJ28.out.below HB.out
              obtain ⟨u0, u1, u2, u3, uf⟩ := hIw.cells
              obtain ⟨v0, v1, v2, v3, vf⟩ := hJw.cells
              obtain ⟨csi, hbi⟩ := hIw.blk
              obtain ⟨csj, hbj⟩ := hJw.blk
              have hCi := chg_set wr gi 0 (.int .i64 77)
              have hI1 := (hIw.set0 77).keep (w1 := (wr.setCell ⟨gi, 0, none⟩ (.int .i64 77)).setCell ⟨gj, 2, none⟩ (.int .i64 78)) (fun cs hc => hc.chg (chg_set _ gj 2 _) hgij)
              have hJ1 := (hJw.keep (w1 := wr.setCell ⟨gi, 0, none⟩ (.int .i64 77)) (fun cs hc => hc.chg hCi (fun e => hgij e.symm))).set1 78
              have hbj1 := hbj.chg hCi (fun e => hgij e.symm)
              have hCC : ∀ {g : Nat} {cs : Array Value} {t : TypeId}, Blk wr g cs t → 44 ≠ t → Blk ((wr.setCell ⟨gi, 0, none⟩ (.int .i64 77)).setCell ⟨gj, 2, none⟩ (.int .i64 78)) g cs t := fun hb ht => (hb.chg hCi (fun e => by subst e; exact blk_type hbi hb ht rfl)).chg (chg_set _ gj 2 _) (fun e => by subst e; exact blk_type hbj1 (hb.chg hCi (fun e => by subst e; exact blk_type hbi hb ht rfl)) ht rfl)
              have hF1 := ((HFA28.out.keep HB.out).other hbi hCi (by decide) (by decide) (by decide) (by decide) hlo25).other hbj1 (chg_set _ gj 2 (.int .i64 78)) (by decide) (by decide) (by decide) (by decide) hlo26
              have hRw := HR28.out.1.below HB.out
              have hR1 : Rows8 ((wr.setCell ⟨gi, 0, none⟩ (.int .i64 77)).setCell ⟨gj, 2, none⟩ (.int .i64 78)) w.heap.size w27.heap.size LS := ⟨hCC hRw.blk (by decide), hF1.sep.left.rev.congr (List.reverse_reverse LS)⟩
              have hq1 := hCC (HQ28.out.keep HB.out) (by decide)
              have hib1 := hCC hib (by decide)
              obtain ⟨wU, hwU⟩ : ∃ wU, (wr.setCell ⟨gi, 0, none⟩ (.int .i64 77)).setCell ⟨gj, 2, none⟩ (.int .i64 78) = wU := ⟨_, rfl⟩
              rw [hwU] at hI1 hJ1 hF1 hR1 hq1 hib1
              have HU := Lib.hid (And.intro hI1 (And.intro hJ1 (And.intro hF1 (And.intro hR1 (And.intro hq1 hib1)))))
              have HIC := Lib.hid hic
              clear hCC hI1 hJ1 hF1 hR1 hq1 hib1 hCi hbj1 hbi hbj hRw hIw hJw hic hib HI28 HJ28 HQ28 HFA28 HO HB hlt
              go_wp2_with fail
              have hnb : ∀ r ∈ LS, r.n ≤ 1099511627776 := fun r hr => by have := (HR28.out.2.2 r hr).1; omega
              have HNB := Lib.hid hnb
              clear hnb
              refine (grown_any HU.out.2.2.2.1 HR28.out.2.1 (by omega) HU.out.2.2.1.low.size HNB.out).mono ?_
              rintro e wV ⟨ys, rfl, hR, hM, hC⟩
              have hFv := HU.out.2.2.1.grown HU.out.2.2.2.1.blk HF28g.out hlo27 (by rw [List.reverse_reverse]; exact hC)
              have hIv := HU.out.1.keep (w1 := wV) (fun cs hc => keep_grown HU.out.2.2.2.1 hC hc (by decide) (by decide))
              have hJv := HU.out.2.1.keep (w1 := wV) (fun cs hc => keep_grown HU.out.2.2.2.1 hC hc (by decide) (by decide))
              have hqv := keep_grown HU.out.2.2.2.1 hC HU.out.2.2.2.2.1 (by decide) (by decide)
              have hbv := keep_grown HU.out.2.2.2.1 hC HU.out.2.2.2.2.2 (by decide) (by decide)
              have hLv : ∀ j r, LS[j]? = some r → wV.cell? ⟨lb, j, none⟩ = some (.int .i64 (r.n : Nat)) := fun j r hj => by
                have hjl := (List.getElem?_eq_some_iff.1 hj).1
                rw [HR28.out.2.1] at hjl
                rw [hbv.cell, HIC.out j (by omega), List.getElem?_replicate, if_pos hjl, (HR28.out.2.2 r (List.mem_of_getElem? hj)).1]
              have HAP := Lib.hid (apart_any (c := 7) (d := lc) hR HR28.out.2.1 (by omega) hM HNB.out hLv)
              have HV := Lib.hid (And.intro hFv (And.intro hIv (And.intro hJv hqv)))
              clear hR hM hC hFv hIv hJv hqv hbv hLv HU HIC HNB
              go_wp2_with fail
              refine HAP.out.mono ?_
              rintro e wX ⟨rfl, qx, hwx⟩
              have hbx : Below wV.heap.size wV wX := by rw [hwx]; exact below_drew7 _ _
              have HFX := Lib.hid (HV.out.1.keep hbx)
              have HQX := Lib.hid (HV.out.2.2.2.keep hbx)
              obtain ⟨u0, u1, u2, u3, uf⟩ := (HV.out.2.1.below hbx).cells
              obtain ⟨v0, v1, v2, v3, vf⟩ := (HV.out.2.2.1.below hbx).cells
              clear HAP hwx HV hbx
              go_wp2_with fail
              refine (rd_any HFX.out (by omega) HWS.out (by omega) 0 3 (HA.out.r0 m HWS.out.symm)).mono ?_
              rintro e wY ⟨OY, ocy, rfl, hb, ho⟩
              obtain ⟨FY, hF⟩ := HFX.out.put1 hb ho
              have HFY := Lib.hid hF
              have HQY := Lib.hid (HQX.out.keep hb)
              clear hb ho hF HFX HQX u0 u1 u2 u3 uf v0 v1 v2 v3 vf
              have hcw : m ≤ cw := own_cap8 (HFY.out.own (k := 1) rfl)
              have hsz : n1 + 80 ≤ 281474976710656 ∧ n2 + 80 ≤ 281474976710656 ∧ m ≤ 281474976710656 := by omega
              have HF0 := Lib.hid (HFY.out.bytes (k := 0) rfl hsz.2.2)
              have HF1 := Lib.hid (HFY.out.bytes (k := 1) rfl hsz.2.2)
              have HIM := Lib.hid HA.out.im2
              have HZ1 : (((211 : UInt8).toNat : Nat) : Int) = 211 := rfl
              have HZ2 : (((213 : UInt8).toNat : Nat) : Int) = 213 := rfl
              have kY : wY.cell? ⟨w.heap.size, 0, none⟩ = some (.int .i64 fd) := HQY.out.cell 0
              obtain ⟨se, hse⟩ : ∃ se : Int, (P.op 0 Pa.sync).2 = se := ⟨_, rfl⟩
              have hq : (se = 80) = (fd ≤ 0) := by
                rw [← hse, HA.out.sy]
                by_cases hfd : fd ≤ 0
                · rw [if_pos hfd]; simp [hfd]
                · rw [if_neg hfd]; simp [hfd]
              have HSE := Lib.hid hse
              have hq2 : (se == 80) = decide (fd ≤ 0) := by rw [Bool.eq_iff_iff]; simp only [beq_iff_eq, decide_eq_true_eq, hq]
              have HQE := Lib.hid (And.intro hq hq2)
              clear hse hq hq2
              go_wp2_with fail
              have hq := HQE.out.1
              have hq2 := HQE.out.2
              go_region_held3 (fun w' => w'.cell? ⟨w.heap.size, 0, none⟩ = some (.int .i64 fd))
                  (first | (refine keep1 kS ?_; (repeat' first | with_reducible exact bF | with_reducible exact bM | with_reducible exact bN | with_reducible exact bP | with_reducible exact bI | with_reducible exact bA | with_reducible exact Below.refl _ _ | with_reducible apply Below.drew | with_reducible apply ballocF); done) | (refine keep1 kY ?_; (repeat' first | with_reducible exact bF | with_reducible exact bM | with_reducible exact bN | with_reducible exact bP | with_reducible exact bI | with_reducible exact bA | with_reducible exact Below.refl _ _ | with_reducible apply Below.drew | with_reducible apply ballocF); done))
                  (first
                    | (go_at_call 18; refine (equal_at HF0.out HF1.out (by (repeat' first | with_reducible exact bF | with_reducible exact bM | with_reducible exact bN | with_reducible exact bP | with_reducible exact bI | with_reducible exact bA | with_reducible exact Below.refl _ _ | with_reducible apply Below.drew | with_reducible apply ballocF))).mono ?_; rintro e wA ⟨rfl, bA⟩)
                    | (go_at_call 27; refine (sync_at (L := 6000003) HFY.out (W := _) (by (repeat' first | with_reducible exact bF | with_reducible exact bM | with_reducible exact bN | with_reducible exact bP | with_reducible exact bI | with_reducible exact bA | with_reducible exact Below.refl _ _ | with_reducible apply Below.drew | with_reducible apply ballocF)) HSE.out (by omega) (by omega)).mono ?_; rintro e wS ⟨rfl, hFS, hkS⟩; have qS := hkS _ _ _ HQY.out (by decide) (by decide) (by decide) (by decide); have kS : wS.cell? ⟨w.heap.size, 0, none⟩ = some (.int .i64 fd) := qS.cell 0; have hW1 := hFS.bytes (k := 1) rfl (by omega); have hW2 := hFS.bytes (k := 2) rfl (by omega); have hW3 := hFS.bytes (k := 3) rfl (by omega))
                    | (go_at_call 21; refine (im_at hFS (m := m) (by (repeat' first | with_reducible exact bF | with_reducible exact bM | with_reducible exact bN | with_reducible exact bP | with_reducible exact bI | with_reducible exact bA | with_reducible exact Below.refl _ _ | with_reducible apply Below.drew | with_reducible apply ballocF)) (by omega) HWS.out HIM.out).mono ?_; rintro e wI ⟨gI, cI, rfl, bJ, bK, hsp⟩; have bI := below_then bK bJ bK.size)
                    | (go_at_call 31; refine (spans_at (wx := wS) (l := [(3, ws), (5, ws)]) (hsp.below (by first | with_reducible exact Below.refl _ _ | with_reducible exact (Below.refl _ _).drew | with_reducible exact ballocF (Below.refl _ _) | with_reducible exact (ballocF (Below.refl _ _)).drew | with_reducible exact ballocF (Below.refl _ _).drew | with_reducible exact (ballocF (Below.refl _ _).drew).drew)) (lit_at (by first | with_reducible exact Blk.fresh wI _ _ | with_reducible exact (Blk.fresh wI _ _).keep (Below.refl _ _).drew | with_reducible exact Blk.fresh wI.drew _ _ | with_reducible exact (Blk.fresh wI.drew _ _).keep (Below.refl _ _).drew | with_reducible exact (Blk.fresh wS _ _).keep bJ | with_reducible exact ((Blk.fresh wS _ _).keep bJ).keep (Below.refl _ _).drew | with_reducible exact ((Blk.fresh wS _ _).keep (Below.refl _ _).drew).keep bJ | with_reducible exact (((Blk.fresh wS _ _).keep (Below.refl _ _).drew).keep bJ).keep (Below.refl _ _).drew) (hW1.below (by (repeat' first | with_reducible exact bF | with_reducible exact bM | with_reducible exact bN | with_reducible exact bP | with_reducible exact bI | with_reducible exact bA | with_reducible exact Below.refl _ _ | with_reducible apply Below.drew | with_reducible apply ballocF))) (by omega)) (by (repeat' first | with_reducible exact bF | with_reducible exact bM | with_reducible exact bN | with_reducible exact bP | with_reducible exact bI | with_reducible exact bA | with_reducible exact Below.refl _ _ | with_reducible apply Below.drew | with_reducible apply ballocF))).mono ?_; rintro e wP ⟨rfl, bP⟩)
                    | (go_at_call 32; with_reducible refine (marked0 (wx := wS) (z := 211) hW3 HZ1 (by (repeat' first | with_reducible exact bF | with_reducible exact bM | with_reducible exact bN | with_reducible exact bP | with_reducible exact bI | with_reducible exact bA | with_reducible exact Below.refl _ _ | with_reducible apply Below.drew | with_reducible apply ballocF))).mono ?_; rintro e wN ⟨rfl, bN⟩)
                    | (go_at_call 32; with_reducible refine (marked0 (wx := wS) (z := 213) hW2 HZ2 (by (repeat' first | with_reducible exact bF | with_reducible exact bM | with_reducible exact bN | with_reducible exact bP | with_reducible exact bI | with_reducible exact bA | with_reducible exact Below.refl _ _ | with_reducible apply Below.drew | with_reducible apply ballocF))).mono ?_; rintro e wM ⟨rfl, bM⟩)
                    | (go_at_call 15; refine (fixed_at (wx := wS) (by (repeat' first | with_reducible exact bF | with_reducible exact bM | with_reducible exact bN | with_reducible exact bP | with_reducible exact bI | with_reducible exact bA | with_reducible exact Below.refl _ _ | with_reducible apply Below.drew | with_reducible apply ballocF))).mono ?_; rintro e wF ⟨rfl, bF⟩))
              all_goals
                have HEND := Lib.hid (below_then hFS.low bF hFS.low.size)
                clear bF bM bN bP bI bA hFS hkS hW1 hW2 hW3 qS kS kY hsp bJ bK
                go_wp2_with fail
                go_ret
                exact ⟨rfl, HEND.out⟩
theorem diskFresh_agg (cs : Array Value) (ft : Ft) (A1 : Option Addr) (n1 c1 : Nat) (xs : List UInt8) (A2 : Option Addr) (n2 c2 : Nat) (bs : List UInt8) (w : World) (hf : IsFt w cs.toList ft) (h1 : Bytes w A1 n1 xs) (h2 : Bytes w A2 n2 bs) (hn1 : n1 ≤ 1048576) (hn2 : n2 ≤ 1048576) :
    Calls Try.prog 6 #[.slice A1 n1 c1, .slice A2 n2 c2, .agg cs] w fun e w' => e = .returned (.bool true) ∧ Below w.heap.size w w' := by
  obtain ⟨rfl, hok⟩ := ft_agg hf
  exact diskFresh_any ft hok A1 n1 c1 xs A2 n2 c2 bs w h1 h2 hn1 hn2
end Go.Proofs.Ytodaplkijdjbpaa
