/- DiskStruck, walked. -/
import Derived.Test.YtodaplkijdjbpaaStruckP
namespace Go.Proofs.Ytodaplkijdjbpaa
open Go.RowKit
set_option linter.unusedVariables false
set_option linter.unusedSimpArgs false
theorem no_sub {w0 w w1 : World} {G pb K : Nat} {P : Pd} {F : Nat → Prop} (h : Apt w0 w G pb P K F) : Apt w0 w G pb P K (fun _ => False) := h.sub (fun k e => e.elim)
set_option maxRecDepth 100000 in
set_option maxHeartbeats 3200000 in
theorem diskStruck_any (A1 : Option Addr) (n1 c1 : Nat) (ss1 : List Ps) (ft : Ft) (hft : ft.ok) (A2 : Option Addr) (n2 c2 : Nat) (loose : List UInt8) (armed : Bool) (w : World) (h1 : Script w A1 n1 ss1) (hn1 : n1 ≤ 140737488351232) (h2 : Bytes w A2 n2 loose) (hn2 : n2 ≤ 140737488355328) :
    Calls Try.prog 12 #[.slice A1 n1 c1, .agg #[.int .i64 ft.d, .int .i64 ft.k, .int .u8 ((ft.t.toNat : Nat) : Int)], .slice A2 n2 c2, .bool armed] w fun e w' => e = .returned (.bool true) ∧ Below w.heap.size w w' := by
  have hl1 := Lib.hid h1.1
  have HLO := Lib.hid h2
  clear h2
  obtain ⟨fd, fk, ftt⟩ := ft
  obtain ⟨tt, htt⟩ : ∃ tt : Int, ((ftt.toNat : Nat) : Int) = tt := ⟨_, rfl⟩
  have HTT := Lib.hid htt
  rw [htt]
  obtain ⟨f0, f1, f2, f3⟩ := hft
  simp only at f0 f1 f2 f3
  clear htt
  have x0 := below_alloc w (.cells #[.int .i64 fd, .int .i64 fk, .int .u8 tt] 55)
  have b0 := Blk.fresh w #[.int .i64 fd, .int .i64 fk, .int .u8 tt] 55
  have hz0 : (w.alloc (.cells #[.int .i64 fd, .int .i64 fk, .int .u8 tt] 55)).heap.size = w.heap.size + 1 := by simp
  obtain ⟨wa, hwa⟩ : ∃ wa, w.alloc (.cells #[.int .i64 fd, .int .i64 fk, .int .u8 tt] 55) = wa := ⟨_, rfl⟩
  have x1 : Below w.heap.size w (wa.alloc (.cells #[.slice A1 n1 c1] 23)) := by
    rw [← hwa]; exact below_then x0 (below_alloc _ _) x0.size
  have k1 : Blk (wa.alloc (.cells #[.slice A1 n1 c1] 23)) (w.heap.size + 1) #[.slice A1 n1 c1] 23 := by
    have := Blk.fresh wa #[.slice A1 n1 c1] 23
    rwa [← hwa, hz0, hwa] at this
  have b1 : Blk (wa.alloc (.cells #[.slice A1 n1 c1] 23)) w.heap.size #[.int .i64 fd, .int .i64 fk, .int .u8 tt] 55 := by
    rw [← hwa]; exact b0.keep (below_alloc _ _)
  have hv := vast_any (w.heap.size + 1) 1 1 (fun j => ⟨A1, n1, c1, ss1⟩) (wa.alloc (.cells #[.slice A1 n1 c1] 23)) (fun j hj => by
    obtain rfl : j = 0 := by omega
    exact ⟨k1.cell 0, h1.below x1, hn1⟩) (by omega)
  have HV := Lib.hid hv
  have HB1 := Lib.hid b1
  have HX1 := Lib.hid x1
  rw [← hwa] at HV HB1 HX1
  clear hv k1 b1 x1 hwa b0 x0 hz0
  go_enter Try.func12, Try.ntmps12
  go_wp2_with fail
  refine HV.out.mono ?_
  rintro e w1 ⟨b, rfl, hb1, htot⟩
  have hB1 := below_then HX1.out hb1 HX1.out.size
  have q1 := HB1.out.keep hb1
  cases b with
  | true =>
    go_wp2_with fail
    go_ret
    exact ⟨rfl, hB1⟩
  | false =>
    have htot2 := htot rfl
    simp only [tot, Nat.zero_add] at htot2
    have HTOT : Hid (wrN ss1 n1 ≤ 1073741824) := Lib.hid htot2
    clear htot htot2 HV HX1 HB1 hb1
    go_wp2_with fail
    refine (diskNew_any 1 w1 (by omega) (by omega)).mono ?_
    rintro e w2 hh
    obtain ⟨G, pb, rfl, hb2, hA⟩ := apt_new hB1 hh
    have hA2 := no_sub (w1 := w2) (hA 0)
    have q2 := q1.keep hb2
    clear hh hA
    go_wp2_with fail
    refine (fixed_any _).mono ?_
    rintro e w3 ⟨rfl, hb3⟩
    have hA3 := no_sub (w1 := w2) (hA2.below hb3)
    have q3 := q2.keep hb3
    clear hA2 hb2 hb3 q1 q2
    go_wp2_with fail
    go_loopw [37] (fun i wr => ∃ k : Nat, ∃ P, k ≤ n1 ∧ i = .int .i64 k ∧ Apt w wr G pb P (wrN ss1 k) (fun _ => False) ∧ P.n = 1 ∧ Hid (P.tiny (wrN ss1 k) ∧ P.armed = false) ∧ Hid (Blk wr w.heap.size #[.int .i64 fd, .int .i64 fk, .int .u8 tt] 55)) (fun i _ => n1 - (intOf i).toNat)
    case atStart => exact ⟨0, _, Nat.zero_le _, rfl, hA3, rfl, Lib.hid ⟨fun j hj => by simp [Pd.new, Pa.new], rfl⟩, Lib.hid q3⟩
    case round =>
      clear hA3 q3
      obtain ⟨k, P, hk, rfl, hS, hP1, HT, HQ⟩ := hrel
      by_cases hlt : k < n1
      · have hBr := hS.low
        obtain ⟨b, o, s, C, m, cc, FA, l, d, rfl, hs, q0, q1, q2, q3, q4, q5, hps, hm, hfa, hml⟩ := Script.at_ h1 hBr k hlt
        have hsu := wrN_succ ss1 k s hs
        have hmo := wrN_mono ss1 (k + 1) n1 hlt (by rw [hl1.out]; exact Nat.le_refl _)
        have hL : wrN ss1 k + s.p.length + 1 ≤ wrN ss1 (k + 1) := by omega
        have hL2 : wrN ss1 (k + 1) ≤ 1073741824 := by have := HTOT.out; omega
        have j0 : (0 : Int) ≤ (k : Int) := by omega
        have j1 : (k : Int) < (n1 : Int) := by omega
        obtain ⟨sk, si, sa, sb, sp, sf⟩ := s
        simp only at q0 q1 q2 q3 q4 q5 hm hfa hL
        have x5 := below_alloc wr (.cells #[.int .i64 sk, .int .i64 0, .int .i64 sa, .int .i64 sb, .slice C m cc, .slice FA l d] 33)
        have hS5 := no_sub (w1 := wr) (hS.below x5)
        have hps5 := (PsAt.i0 hps).below x5
        have HQ5 := Lib.hid (HQ.out.keep x5)
        obtain ⟨ls, hD, ⟨hg1, hg2⟩, nx⟩ := hS5.next
        have hcall := call_any hD hps5 (fun hne q' hq' => by have := hfa hne q' hq'; exact ⟨by omega, by omega⟩) hL (by omega)
        have HCALL := Lib.hid hcall
        have HNX := Lib.hid nx
        have HD := Lib.hid hD
        have HS5 := Lib.hid hS5
        clear hcall nx hD hS5 hps5 hps hfa hsu hmo hs hm hS hBr x5
        by_cases hin : 0 ≤ sk ∧ sk ≤ 3
        · obtain ⟨hi0, hi3⟩ := hin
          go_wp2_with fail
          refine HCALL.out.mono ?_
          rintro e w6 ⟨v, rfl, -, hT⟩
          have hS6 := (HNX.out _ _ _ hT (P.step_n _)).1
          have HQ6 := Lib.hid (hT.blk HD.out HQ5.out (by decide) (by decide) (by decide) (by decide))
          have hPn : (P.step ⟨sk, 0, sa, sb, sp, sf⟩).n = 1 := (P.step_n _).trans hP1
          have hTN : Hid ((P.step ⟨sk, 0, sa, sb, sp, sf⟩).tiny (wrN ss1 (k + 1)) ∧ (P.step ⟨sk, 0, sa, sb, sp, sf⟩).armed = false) := Lib.hid ⟨tiny_step HT.out.1 HS5.out.lim sk sa sb sp sf hi0 hi3 hL, never_armed sk sa sb sp sf hi0 hi3 HT.out.2⟩
          clear HCALL HNX HD HS5 HQ5 hT
          go_wp2_with fail
          go_roundw
          case rel => exact ⟨k + 1, _, hlt, by go_num, hS6, hPn, hTN, HQ6⟩
          case measure => simp [intOf]; omega
        · have hTN : Hid (P.tiny (wrN ss1 (k + 1)) ∧ P.armed = false) := Lib.hid ⟨fun j hj => by have := HT.out.1 j hj; omega, HT.out.2⟩
          have hS7 := HS5.out.mono (show wrN ss1 k ≤ wrN ss1 (k + 1) by omega)
          by_cases hi0 : 0 ≤ sk
          · have hi3 : ¬ sk ≤ 3 := fun e => hin ⟨hi0, e⟩
            go_wp2_with fail
            go_roundw
            case rel => exact ⟨k + 1, P, hlt, by go_num, hS7, hP1, hTN, HQ5⟩
            case measure => simp [intOf]; omega
          · go_wp2_with fail
            go_roundw
            case rel => exact ⟨k + 1, P, hlt, by go_num, hS7, hP1, hTN, HQ5⟩
            case measure => simp [intOf]; omega
      · obtain rfl : k = n1 := by omega
        go_upto_if 54 with fail
        go_cut [55] from 56 to 60 (fun v wx => ∃ Q dd keep, Apt w wx G pb Q (wrN ss1 k) (fun _ => False) ∧ Q.n = 1 ∧ Hid (Q.tiny (wrN ss1 k) ∧ Q.down 0 = false ∧ (Q.fate (Q.p 0)).k = keep ∧ (Q.armed = true → (Q.p 0).f.t = ftt) ∧ (Q.armed = false → keep = 0)) ∧ Hid (Blk wx w.heap.size #[.int .i64 dd, .int .i64 keep, .int .u8 tt] 55))
        case first =>
          have e0 : wr.cell? ⟨w.heap.size, 0, none⟩ = some (.int .i64 fd) := HQ.out.cell 0
          have e1 : wr.cell? ⟨w.heap.size, 1, none⟩ = some (.int .i64 fk) := HQ.out.cell 1
          have e2 : wr.cell? ⟨w.heap.size, 2, none⟩ = some (.int .u8 tt) := HQ.out.cell 2
          have ef := HQ.out.frozen
          have hTN := HT.out
          have oth : ∀ (j : Nat) (v : Value), Apt w (wr.setCell ⟨w.heap.size, j, none⟩ v) G pb P (wrN ss1 k) (fun _ => False) := fun j v =>
            hS.other (chg_set wr w.heap.size j v) (fun q e => by subst e; exact ⟨_, _, HQ.out, by decide, by decide, by decide, by decide⟩) (fun q e => by subst e; exact Nat.le_refl _)
          cases armed with
          | false =>
            have hA := oth 1 (.int .i64 0)
            have hb := HQ.out.set 1 (.int .i64 0)
            have HH := Lib.hid (And.intro hA hb)
            clear hA hb oth
            go_wp2_with fail
            go_meet
            exact ⟨P, fd, 0, HH.out.1, hP1, Lib.hid ⟨hTN.1, by simp [Pd.down, hTN.2], by simp [Pd.fate, hTN.2, Ft.no], fun h => (by rw [hTN.2] at h; cases h), fun _ => rfl⟩, Lib.hid HH.out.2⟩
          | true =>
            have hA := oth 0 (.int .i64 1)
            have hb : Blk (wr.setCell ⟨w.heap.size, 0, none⟩ (.int .i64 1)) w.heap.size #[.int .i64 1, .int .i64 fk, .int .u8 tt] 55 := HQ.out.set 0 (.int .i64 1)
            have hzz : (wr.setCell ⟨w.heap.size, 0, none⟩ (.int .i64 1)).heap.size = wr.heap.size := by simp [World.setCell]
            generalize hwn : wr.setCell ⟨w.heap.size, 0, none⟩ (.int .i64 1) = wn at *
            have x5 := below_alloc wn (.cells #[.int .i64 1, .int .i64 fk, .int .u8 tt] 55)
            have p5 : FtAt (wn.alloc (.cells #[.int .i64 1, .int .i64 fk, .int .u8 tt] 55)) (some ⟨wr.heap.size, 0, none⟩) 1 [⟨1, fk, ftt⟩] := by
              have hb := Blk.fresh wn #[.int .i64 1, .int .i64 fk, .int .u8 tt] 55
              rw [hzz] at hb
              refine ⟨rfl, .inr ⟨_, 0, rfl, fun j hj => ?_⟩⟩
              obtain rfl : j = 0 := by omega
              exact ⟨hb.cell 0, hb.cell 1, (hb.cell 2).trans (by rw [← HTT.out]; rfl), ⟨by simp, by simp, f2, f3⟩⟩
            obtain ⟨ls0, hD0, -, -⟩ := hA.next
            have hz5 : (1 : Nat) ≠ 0 → ∀ q, blkO (some ⟨wr.heap.size, 0, none⟩) = some q → q ≠ G ∧ q ≠ pb := by
              intro _ q hq
              injection hq with hq
              simp only at hq
              have h1 := hD0.lt G (.inl rfl)
              have h2 := hD0.lt pb (.inr (.inl rfl))
              omega
            have hS5 := no_sub (w1 := wr) (hA.below x5)
            have q5 := hb.keep x5
            have v0 : wn.cell? ⟨w.heap.size, 0, none⟩ = some (.int .i64 1) := hb.cell 0
            have v1 : wn.cell? ⟨w.heap.size, 1, none⟩ = some (.int .i64 fk) := hb.cell 1
            have v2 : wn.cell? ⟨w.heap.size, 2, none⟩ = some (.int .u8 tt) := hb.cell 2
            obtain ⟨ls, hD, -, nx⟩ := hS5.next
            have harm := diskArm_any hD _ 1 1 _ p5 hz5
            have HARM := Lib.hid harm
            have HNX := Lib.hid nx
            have HD := Lib.hid hD
            have HQ5 := Lib.hid q5
            clear harm nx hD q5 hS5 hD0 hz5 p5 x5 hA hb oth
            go_wp2_with fail
            refine HARM.out.mono ?_
            rintro e w6 ⟨rfl, hT⟩
            have hS6 := (HNX.out _ _ _ hT rfl).1
            have q6 := hT.blk HD.out HQ5.out (by decide) (by decide) (by decide) (by decide)
            have hI : Hid ((P.arm [⟨1, fk, ftt⟩] true).tiny (wrN ss1 k) ∧ (P.arm [⟨1, fk, ftt⟩] true).down 0 = false ∧ ((P.arm [⟨1, fk, ftt⟩] true).fate ((P.arm [⟨1, fk, ftt⟩] true).p 0)).k = fk ∧ ((P.arm [⟨1, fk, ftt⟩] true).armed = true → ((P.arm [⟨1, fk, ftt⟩] true).p 0).f.t = ftt) ∧ ((P.arm [⟨1, fk, ftt⟩] true).armed = false → fk = 0)) := Lib.hid ⟨hTN.1, by simp [Pd.down, Pd.arm, Pa.arm], rfl, fun _ => rfl, fun h => by cases h⟩
            have HS6 := Lib.hid (And.intro hS6 q6)
            clear hS6 q6 hT HARM HNX HD HQ5
            go_wp2_with fail
            go_meet
            exact ⟨_, _, _, HS6.out.1, hP1, hI, Lib.hid HS6.out.2⟩
        case rest =>
          obtain ⟨Q, dd, keep, hSq, hQ1, HQI, HQB⟩ := hcut
          clear hS HT HQ
          obtain ⟨ls, hD, -, nx⟩ := hSq.next
          have hap := diskAppend_big hD HQI.out.1 (by have := HTOT.out; omega) 0 A2 n2 c2 loose (HLO.out.below hSq.low) hn2
          obtain ⟨ho0, ho1, ho2, ho3⟩ := append_ok hQ1 HQI.out.2.1 loose
          rw [ho0] at hap
          have HAP := Lib.hid hap
          have HNX := Lib.hid nx
          have HD := Lib.hid hD
          clear hap nx hD
          go_wp2_with fail
          refine HAP.out.mono ?_
          rintro e w5 ⟨rfl, hT⟩
          have hS5 := (HNX.out _ _ _ hT (Q.op_n _ _)).1
          have q5 := hT.blk HD.out HQB.out (by decide) (by decide) (by decide) (by decide)
          have hfa : ((Q.op 0 (Pa.append loose)).1.fate ((Q.op 0 (Pa.append loose)).1.p 0)) = Q.fate (Q.p 0) := by unfold Pd.fate; rw [ho2, ho3]
          have HI5 : Hid ((((Q.op 0 (Pa.append loose)).1.fate ((Q.op 0 (Pa.append loose)).1.p 0)).k = keep) ∧ ((Q.op 0 (Pa.append loose)).1.armed = true → ((Q.op 0 (Pa.append loose)).1.fate ((Q.op 0 (Pa.append loose)).1.p 0)).t = ftt) ∧ ((Q.op 0 (Pa.append loose)).1.armed = false → keep = 0)) := Lib.hid ⟨by rw [hfa]; exact HQI.out.2.2.1, fun h => by rw [hfa]; unfold Pd.fate; rw [← ho2, if_pos h]; exact HQI.out.2.2.2.1 (by rw [← ho2]; exact h), fun h => HQI.out.2.2.2.2 (by rw [← ho2]; exact h)⟩
          clear hT HAP HNX HD HQB hfa ho0 ho2 ho3 hSq HQI
          generalize (Q.op 0 (Pa.append loose)).1 = Q5 at *
          obtain ⟨ls5, hD5, -, -⟩ := hS5.next
          have hof := bytesOf_any hD5 (by have := HTOT.out; omega) 0 (by omega)
          have hll := hS5.lim.a 0 (by omega)
          have hl3 := hll.n
          have hl4 := hll.s
          have HS5 := Lib.hid hS5
          have HQ5 := Lib.hid q5
          have HOF := Lib.hid hof
          have hK := HTOT.out
          generalize hpa : Q5.p 0 = pa at *
          obtain ⟨bs, hbs⟩ : ∃ bs, pa.bs = bs := ⟨_, rfl⟩
          obtain ⟨sf, hsf⟩ : ∃ sf, pa.safe = sf := ⟨_, rfl⟩
          obtain ⟨len, hlen⟩ : ∃ len, bs.length = len := ⟨_, rfl⟩
          rw [hbs, hlen] at hl3
          rw [hbs, hsf, hlen] at hl4
          have HPA := Lib.hid (And.intro hpa (And.intro hbs (And.intro hsf hlen)))
          clear hof hS5 q5 hD5 hll hpa hbs hsf hlen
          go_wp2_with fail
          refine HOF.out.mono ?_
          rintro e w6 ⟨A6, c6, rfl, ho6, hb6⟩
          rw [HPA.out.2.1, HPA.out.2.2.2] at ho6
          rw [HPA.out.2.1, HPA.out.2.2.1, HPA.out.2.2.2]
          have hS6 := HS5.out.below hb6
          have q6 := HQ5.out.keep hb6
          have g0 : w6.cell? ⟨w.heap.size, 0, none⟩ = some (.int .i64 dd) := q6.cell 0
          have g1 : w6.cell? ⟨w.heap.size, 1, none⟩ = some (.int .i64 keep) := q6.cell 1
          have g2 : w6.cell? ⟨w.heap.size, 2, none⟩ = some (.int .u8 tt) := q6.cell 2
          have hcap := own_cap8 ho6
          have hkp := kept_is keep len sf hl4
          have hkl := crashK_le len sf keep hl4
          obtain ⟨kp, hkp2⟩ : ∃ kp, crashK len sf keep = kp := ⟨_, rfl⟩
          rw [hkp2] at hkp hkl
          unfold keptI at hkp
          have HKP := Lib.hid hkp2
          clear hkp2 HOF HS5 HQ5
          have t1 := (own_bytes' ho6 (by omega)).take (sf + kp) hkl
          go_upto_region 22 with fail
          go_cut [16] from 73 to 80 (fun v wx => v = .int .i64 (kp : Nat) ∧ w6 = wx)
          case first =>
            go_wp2_with fail
            all_goals go_meet
            all_goals exact ⟨by congr 1; omega, rfl⟩
          case rest =>
            obtain ⟨rfl, rfl⟩ := hcut
            clear hkp
            have x7 := below_alloc w6 (.cells #[] 5)
            have o7 := World.ownsRow_made (e := 5) (size := 1) (base := w6.heap.size) w6 #[] 0 (Nat.le_refl _) (by simp [maxLen]) rfl
            have t7 := t1.below x7
            have i0 : (0 : Int) ≤ (sf : Int) + (kp : Int) := by omega
            have i1 : (sf : Int) + (kp : Int) ≤ (c6 : Int) := by omega
            go_upto_region 24 with (at_builtin; (refine wpl_append _ rfl _ _ 30 rfl w6.heap.size 5 _ 1 1 Try.underlying30 info_byte7 rfl (by decide) (.slice (some ⟨w6.heap.size, 0, none⟩) 0 0) 0 [] rfl o7 A6 (sf + kp) c6 _ rfl t7.rdc (bvals_one _) (by decide) (by decide) (by omega) x7.size ?_); intro A8 c8 w8 ho8 hg8 hne8 hnn8; simp only [Nat.zero_add, List.nil_append] at ho8 ⊢; clear hnn8 hne8)
            have HWL : Hid (∀ q, blkO A8 = some q → w6.heap.size ≤ q ∧ q < w8.heap.size) := Lib.hid (fun q e => ho8.lt q (by rw [ownBlock_slice]; exact e))
            have hB68 := x7.grown hg8 x7.size (own_base o7)
            have hS8 := hS6.below hB68
            have q8 := q6.keep hB68
            have hw06 : w.heap.size ≤ w6.heap.size := hS6.low.size
            have h86 := hB68.size
            have HPA2 := Lib.hid HPA.out.2.2.2
            have HS8 := Lib.hid (hS8.sub (F' := fun k => w6.heap.size ≤ k ∧ k < w8.heap.size) (fun k e => .inr e))
            have HQ8 := Lib.hid q8
            clear o7 t7 t1 ho6 x7 hg8 hB68 hS6 hS8 q6 q8 g0 g1 g2 hb6
            go_upto_if 89 with fail
            go_cut [90] from 88 to 100 (fun v wx => wx.ownsRow w6.heap.size 5 1 (.slice A8 (sf + kp) c8) (sf + kp) (bvals (crashB bs sf kp ftt)) ∧ Apt w wx G pb Q5 (wrN ss1 k + 1) (fun k => w6.heap.size ≤ k ∧ k < w8.heap.size))
            case first =>
              by_cases hkp0 : kp = 0
              · have hkpi : ¬ (0 : Int) < (kp : Int) := by omega
                have HK0 := Lib.hid hkp0
                clear hkp0
                go_wp2_with fail
                go_meet
                exact ⟨by have := HK0.out; subst this; simpa [crashB] using ho8, HS8.out⟩
              · have hkpi : (0 : Int) < (kp : Int) := by omega
                rcases ho8.2 with ⟨_, h0⟩ | ⟨g9, cap9, cur9, hv9, hb9, hg9, -⟩
                · omega
                injection hv9 with e1 e2 e3
                have HE1 := Lib.hid e1
                have HE3 := Lib.hid e3
                have hx9 := hx7 bs (sf + kp) (by rw [List.length_take, HPA2.out]; omega) (by omega)
                have ho9 := ho8
                rw [e1, e3] at ho9
                clear e1 e3
                have hcell := (ho9.cellAt (sf + kp - 1) (by omega)).trans hx9
                have hfr := ho9.frozenAt (sf + kp - 1)
                have y2 : w8.cell? ⟨w.heap.size, 2, none⟩ = some (.int .u8 tt) := HQ8.out.cell 2
                have hlt9 : g9 < w8.heap.size := (Array.getElem?_eq_some_iff.1 hg9).1
                have hst := (ho9.stored (sf + kp - 1) (.int .u8 (((bs.getD (sf + kp - 1) 0 ^^^ ftt).toNat : Nat) : Int))).1
                rw [bvals_set7] at hst
                have hcr : crashB bs sf kp ftt = (bs.take (sf + kp)).set (sf + kp - 1) (bs.getD (sf + kp - 1) 0 ^^^ ftt) := by unfold crashB; rw [if_neg hkp0]
                rw [← hcr] at hst
                have hxr := xor_byte7 (bs.getD (sf + kp - 1) 0) ftt
                rw [HTT.out] at hxr
                have hap2 := HS8.out.free (chg_set w8 g9 (sf + kp - 1) (.int .u8 (((bs.getD (sf + kp - 1) 0 ^^^ ftt).toNat : Nat) : Int))) (fun q e => by subst e; exact ⟨hb9, hlt9⟩) (fun q e => by subst e; omega)
                have HH := Lib.hid (And.intro hst hap2)
                generalize hgx : (((bs.getD (sf + kp - 1) 0).toNat : Nat) : Int) = gx at *
                generalize hgy : (((bs.getD (sf + kp - 1) 0 ^^^ ftt).toNat : Nat) : Int) = gy at *
                have hidx : ((sf : Int) + (kp : Int) - 1) = ((sf + kp - 1 : Nat) : Int) := by omega
                have i4 : (0 : Int) ≤ (sf : Int) + (kp : Int) - 1 := by omega
                have i5 : (sf : Int) + (kp : Int) - 1 < ((sf + kp : Nat) : Int) := by omega
                clear hst hap2 hcr hx9 ho8 ho9 hg9
                rw [HE1.out, HE3.out]
                go_wp2_with fail
                go_region
                go_wp2_with fail
                rw [← HE1.out, ← HE3.out]
                go_meet
                exact ⟨by rw [HE1.out, HE3.out]; exact own_below HH.out.1 (below_drew7 _ 1), (HH.out.2.below (below_drew7 _ 1)).sub (fun k e => .inl e)⟩
            case rest =>
              obtain ⟨howant, hS9⟩ := hcut
              have hl9 := own_bytes' howant (by omega)
              obtain ⟨ls9, hD9, -, nx9⟩ := hS9.next
              obtain ⟨e1, e2, e3, e4, e5⟩ := struck_one HPA.out.1 HPA.out.2.1 HPA.out.2.2.1 HPA.out.2.2.2 HI5.out.1 HI5.out.2.1 HI5.out.2.2 HKP.out hkl
              have how : Out (fun k => w6.heap.size ≤ k ∧ k < w8.heap.size) wc A8 (sf + kp) (crashB bs sf kp ftt) := ⟨hl9, fun _ q e => HWL.out q e⟩
              have HNX9 := Lib.hid nx9
              have HD9 := Lib.hid hD9
              have HEE := Lib.hid (And.intro e1 (And.intro e2 (And.intro e3 (And.intro e4 e5))))
              clear nx9 hD9 hS9 howant hl9 e1 e2 e3 e4 e5 ho8 HS8 HQ8 HWL
              go_wp2_with fail
              refine (diskStrike_any HD9.out).mono ?_
              rintro e w10 ⟨rfl, hT⟩
              obtain ⟨hS10, hch, -⟩ := HNX9.out _ _ _ hT rfl
              have how10 := how.chg hch
              have hQn : Q5.strike.n = 1 := ho1
              clear hT HNX9 HD9 how hch HI5 HPA
              generalize Q5.strike = Q6 at *
              obtain ⟨ls10, hD10, -, -⟩ := hS10.next
              have hof := bytesOf_any hD10 (by omega) 0 (by omega)
              have HOF := Lib.hid hof
              have HS10 := Lib.hid hS10
              have HO10 := Lib.hid how10
              clear hof hS10 hD10 how10
              go_wp2_with fail
              refine HOF.out.mono ?_
              rintro e w11 ⟨A11, c11, rfl, ho11, hb11⟩
              rw [HEE.out.2.2.1, HEE.out.1] at ho11
              rw [HEE.out.2.2.1, HEE.out.2.1]
              have hS11 := no_sub (w1 := w) (HS10.out.below hb11)
              have hw11 := (HO10.out.below hb11).1
              have hc11 := own_bytes' ho11 (by omega)
              obtain ⟨ls11, hD11, -, -⟩ := hS11.next
              have HS11 := Lib.hid hS11
              have HD11 := Lib.hid hD11
              clear HOF HS10 HO10 ho11 hb11 hS11 hD11
              go_wp2_with fail
              refine (diskImage_any HD11.out).mono ?_
              rintro e w12 ⟨A12, n12, c12, qs, rfl, hSp, hqs, hb12⟩
              have hsp := hSp.at_ (fun x hx => image_len HD11.out hSp hqs (by omega) x hx)
              rw [hqs, image_one hQn, HEE.out.1, HEE.out.2.1, List.take_of_length_le (by rw [← HEE.out.1, HEE.out.2.2.1]; exact Nat.le_refl _)] at hsp
              obtain rfl : 1 = n12 := hsp.1
              obtain ⟨b0, o0, A0, m0, cc0, rfl, s0, s1, s2, -, s3⟩ := hsp.at_ 0 (by omega)
              simp at s0 s1 s2
              have hS12 := no_sub (w1 := w) (HS11.out.below hb12)
              have hw12 := hw11.below hb12
              have hc12 := hc11.below hb12
              have HS12 := Lib.hid hS12
              clear hSp hqs hsp HS11 HD11 hb12 hw11 hc11 s0 s3
              go_wp2_with fail
              refine (equal_same _ _ _ _ _ _ _ _ hc12 hw12).mono ?_
              rintro e w13 ⟨rfl, q13, hw13⟩
              have hw13b : Bytes w13 A8 (sf + kp) (crashB bs sf kp ftt) := by rw [hw13]; exact hw12.below (below_drew7 _ q13)
              have s13 : Bytes w13 A0 m0 (crashB bs sf kp ftt) := by rw [hw13]; exact s2.below (below_drew7 _ q13)
              have s113 : w13.cell? ⟨b0, o0 + 1, none⟩ = some (.slice A0 m0 cc0) := by rw [hw13]; exact s1
              have HS13 : Hid (Apt w w13 G pb Q6 (wrN ss1 k + 1) (fun _ => False)) := Lib.hid (by rw [hw13]; exact no_sub (w1 := w) (HS12.out.below (below_drew7 _ q13)))
              clear hw13 hw12 hc12 s2 s1 HS12
              go_wp2_with fail
              refine (equal_same _ _ _ _ _ _ _ _ s13 hw13b).mono ?_
              rintro e w14 ⟨rfl, q14, hw14⟩
              have hS14 : Apt w w14 G pb Q6 (wrN ss1 k + 1) (fun _ => False) := by rw [hw14]; exact no_sub (w1 := w) (HS13.out.below (below_drew7 _ q14))
              obtain ⟨ls14, hD14, -, nx14⟩ := hS14.next
              have hdn : Q6.dones 0 = 0 := by
                unfold Pd.dones
                rw [if_neg (by rw [hQn]; omega)]
                exact congrArg Int.ofNat HEE.out.2.2.2.1
              clear hw14 hw13b s13 s113 HS13 hS14
              go_wp2_with fail
              refine (diskDone_any hD14 0).mono ?_
              rintro e w15 ⟨rfl, rfl⟩
              rw [hdn]
              clear hdn
              go_wp2_with fail
              refine (diskSync_any hD14 0 (L := wrN ss1 k + 2) (by omega) (by omega)).mono ?_
              rintro e w16 ⟨rfl, hT⟩
              rw [sync_ok hQn HEE.out.2.2.2.2]
              have hB16 := (nx14 _ _ _ hT (Q6.op_n _ _)).2.2
              clear hT nx14 hD14
              go_wp2_with fail
              go_ret
              exact ⟨rfl, hB16⟩
theorem diskStruck_agg (cs : Array Value) (ft : Ft) (A1 : Option Addr) (n1 c1 : Nat) (ss1 : List Ps) (A2 : Option Addr) (n2 c2 : Nat) (loose : List UInt8) (armed : Bool) (w : World) (h1 : Script w A1 n1 ss1) (hn1 : n1 ≤ 140737488351232) (hf : IsFt w cs.toList ft) (h2 : Bytes w A2 n2 loose) (hn2 : n2 ≤ 140737488355328) :
    Calls Try.prog 12 #[.slice A1 n1 c1, .agg cs, .slice A2 n2 c2, .bool armed] w fun e w' => e = .returned (.bool true) ∧ Below w.heap.size w w' := by
  obtain ⟨rfl, hok⟩ := ft_agg hf
  exact diskStruck_any A1 n1 c1 ss1 ft hok A2 n2 c2 loose armed w h1 hn1 h2 hn2
end Go.Proofs.Ytodaplkijdjbpaa
