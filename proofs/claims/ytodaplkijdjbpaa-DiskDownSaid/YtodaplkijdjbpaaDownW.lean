/- DiskDown, walked. -/
import Derived.Test.YtodaplkijdjbpaaDownP
namespace Go.Proofs.Ytodaplkijdjbpaa
open Go.RowKit
set_option linter.unusedVariables false
set_option linter.unusedSimpArgs false
theorem Apt.blk {w0 w w' : World} {G pb K L : Nat} {P Q : Pd} {F : Nat → Prop} {ls : Nat → Loc} (hd : DAt w G pb ls P K) (ht : DTo w G pb ls Q L w' P.n) {q : Nat} {cs : Array Value} {t : TypeId} (hb : Blk w q cs t) (h1 : 83 ≠ t) (h2 : 87 ≠ t) (h3 : 116 ≠ t) (h4 : 5 ≠ t) : Blk w' q cs t := ht.blk hd hb h1 h2 h3 h4
theorem no_sub {w0 w w1 : World} {G pb K : Nat} {P : Pd} {F : Nat → Prop} (h : Apt w0 w G pb P K F) : Apt w0 w G pb P K (fun _ => False) := h.sub (fun k e => e.elim)
set_option maxRecDepth 100000 in
set_option maxHeartbeats 3200000 in
theorem diskDown_any (ft : Ft) (hft : ft.ok) (A1 : Option Addr) (n1 c1 : Nat) (ss1 : List Ps) (A2 : Option Addr) (n2 c2 : Nat) (ss2 : List Ps) (w : World) (h1 : Script w A1 n1 ss1) (hn1 : n1 ≤ 140737488351232) (h2 : Script w A2 n2 ss2) (hn2 : n2 ≤ 140737488351232) :
    Calls Try.prog 11 #[.agg #[.int .i64 ft.d, .int .i64 ft.k, .int .u8 ((ft.t.toNat : Nat) : Int)], .slice A1 n1 c1, .slice A2 n2 c2] w fun e w' => e = .returned (.bool true) ∧ Below w.heap.size w w' := by
  have hl1 := Lib.hid h1.1
  have hl2 := Lib.hid h2.1
  obtain ⟨fd, fk, ftt⟩ := ft
  have hT0 : (0 : Int) ≤ ((ftt.toNat : Nat) : Int) := by omega
  obtain ⟨tt, htt⟩ : ∃ tt : Int, ((ftt.toNat : Nat) : Int) = tt := ⟨_, rfl⟩
  have HTT := Lib.hid htt
  rw [htt]
  obtain ⟨f0, f1, f2, f3⟩ := hft
  simp only at f0 f1 f2 f3
  clear htt hT0
  have x0 := below_alloc w (.cells #[.int .i64 fd, .int .i64 fk, .int .u8 tt] 55)
  have b0 := Blk.fresh w #[.int .i64 fd, .int .i64 fk, .int .u8 tt] 55
  have hz0 : (w.alloc (.cells #[.int .i64 fd, .int .i64 fk, .int .u8 tt] 55)).heap.size = w.heap.size + 1 := by simp
  obtain ⟨wa, hwa⟩ : ∃ wa, w.alloc (.cells #[.int .i64 fd, .int .i64 fk, .int .u8 tt] 55) = wa := ⟨_, rfl⟩
  have x1 : Below w.heap.size w (wa.alloc (.cells #[.slice A1 n1 c1, .slice A2 n2 c2] 23)) := by
    rw [← hwa]; exact below_then x0 (below_alloc _ _) x0.size
  have k1 : Blk (wa.alloc (.cells #[.slice A1 n1 c1, .slice A2 n2 c2] 23)) (w.heap.size + 1) #[.slice A1 n1 c1, .slice A2 n2 c2] 23 := by
    have := Blk.fresh wa #[.slice A1 n1 c1, .slice A2 n2 c2] 23
    rwa [← hwa, hz0, hwa] at this
  have b1 : Blk (wa.alloc (.cells #[.slice A1 n1 c1, .slice A2 n2 c2] 23)) w.heap.size #[.int .i64 fd, .int .i64 fk, .int .u8 tt] 55 := by
    rw [← hwa]; exact b0.keep (below_alloc _ _)
  have hv := vast_any (w.heap.size + 1) 2 2 (fun j => if j = 0 then ⟨A1, n1, c1, ss1⟩ else ⟨A2, n2, c2, ss2⟩) (wa.alloc (.cells #[.slice A1 n1 c1, .slice A2 n2 c2] 23)) (fun j hj => by
    have hj2 : j = 0 ∨ j = 1 := by omega
    rcases hj2 with rfl | rfl
    · exact ⟨k1.cell 0, h1.below x1, hn1⟩
    · exact ⟨k1.cell 1, h2.below x1, hn2⟩) (by omega)
  have HV := Lib.hid hv
  have HB1 := Lib.hid b1
  have HX1 := Lib.hid x1
  rw [← hwa] at HV HB1 HX1
  clear hv k1 b1 x1 hwa b0 x0 hz0
  go_enter Try.func11, Try.ntmps11
  go_wp2_with fail
  refine HV.out.mono ?_
  rintro e w1 ⟨b, rfl, hb1, htot⟩
  have hB1 := below_then HX1.out hb1 HX1.out.size
  have q1 := HB1.out.keep hb1
  cases b with
  | true =>
    go_wp2_with fail
    go_ret
    exact ⟨rfl, hB1⟩
  | false =>
    have htot2 := htot rfl
    simp only [tot, Nat.zero_add] at htot2
    have HTOT : Hid (wrN ss1 n1 + wrN ss2 n2 ≤ 1073741824) := Lib.hid htot2
    clear htot htot2 HV HX1 HB1 hb1
    go_wp2_with fail
    refine (diskNew_any 1 w1 (by omega) (by omega)).mono ?_
    rintro e w2 hh
    obtain ⟨G, pb, rfl, hb2, hA⟩ := apt_new hB1 hh
    have hA2 := no_sub (w1 := w2) (hA 0)
    have q2 := q1.keep hb2
    clear hh hA
    go_wp2_with fail
    refine (fixed_any _).mono ?_
    rintro e w3 ⟨rfl, hb3⟩
    have hA3 := no_sub (w1 := w2) (hA2.below hb3)
    have q3 := q2.keep hb3
    have hBF : w.heap.size = w.heap.size := rfl
    clear hA2 hb2 hb3 q1 q2
    go_wp2_with fail
    go_loopw [37] (fun i wr => ∃ k : Nat, ∃ P, k ≤ n1 ∧ i = .int .i64 k ∧ Apt w wr G pb P (wrN ss1 k) (fun _ => False) ∧ P.n = 1 ∧ Hid (Blk wr w.heap.size #[.int .i64 fd, .int .i64 fk, .int .u8 tt] 55)) (fun i _ => n1 - (intOf i).toNat)
    case atStart => exact ⟨0, _, Nat.zero_le _, rfl, hA3, rfl, Lib.hid q3⟩
    case round =>
      clear hA3 q3
      obtain ⟨k, P, hk, rfl, hS, hP1, HQ⟩ := hrel
      by_cases hlt : k < n1
      · have hBr := hS.low
        obtain ⟨b, o, s, C, m, cc, FA, l, d, rfl, hs, q0, q1, q2, q3, q4, q5, hps, hm, hfa, hml⟩ := Script.at_ h1 hBr k hlt
        have hsu := wrN_succ ss1 k s hs
        have hmo := wrN_mono ss1 (k + 1) n1 hlt (by rw [hl1.out]; exact Nat.le_refl _)
        have hL : wrN ss1 k + s.p.length + 1 ≤ wrN ss1 (k + 1) := by omega
        have hL2 : wrN ss1 (k + 1) ≤ 1073741824 := by have := HTOT.out; omega
        have j0 : (0 : Int) ≤ (k : Int) := by omega
        have j1 : (k : Int) < (n1 : Int) := by omega
        obtain ⟨sk, si, sa, sb, sp, sf⟩ := s
        simp only at q0 q1 q2 q3 q4 q5 hm hfa hL
        have x5 := below_alloc wr (.cells #[.int .i64 sk, .int .i64 0, .int .i64 sa, .int .i64 sb, .slice C m cc, .slice FA l d] 33)
        have hS5 := no_sub (w1 := wr) (hS.below x5)
        have hps5 := (PsAt.i0 hps).below x5
        have HQ5 := Lib.hid (HQ.out.keep x5)
        obtain ⟨ls, hD, ⟨hg1, hg2⟩, nx⟩ := hS5.next
        have hcall := call_any hD hps5 (fun hne q' hq' => by have := hfa hne q' hq'; exact ⟨by omega, by omega⟩) hL (by omega)
        have HCALL := Lib.hid hcall
        have HNX := Lib.hid nx
        have HD := Lib.hid hD
        have HS5 := Lib.hid hS5
        clear hcall nx hD hS5 hps5 hps hfa hsu hmo hs hm hS hBr x5
        by_cases hin : 0 ≤ sk ∧ sk ≤ 3
        · obtain ⟨hi0, hi3⟩ := hin
          go_wp2_with fail
          refine HCALL.out.mono ?_
          rintro e w6 ⟨v, rfl, -, hT⟩
          have hS6 := (HNX.out _ _ _ hT (P.step_n _)).1
          have HQ6 := Lib.hid (hT.blk HD.out HQ5.out (by decide) (by decide) (by decide) (by decide))
          have hPn : (P.step ⟨sk, 0, sa, sb, sp, sf⟩).n = 1 := (P.step_n _).trans hP1
          clear HCALL HNX HD HS5 HQ5 hT
          go_wp2_with fail
          go_roundw
          case rel => exact ⟨k + 1, _, hlt, by go_num, hS6, hPn, HQ6⟩
          case measure => simp [intOf]; omega
        · have hS7 := HS5.out.mono (show wrN ss1 k ≤ wrN ss1 (k + 1) by omega)
          by_cases hi0 : 0 ≤ sk
          · have hi3 : ¬ sk ≤ 3 := fun e => hin ⟨hi0, e⟩
            go_wp2_with fail
            go_roundw
            case rel => exact ⟨k + 1, P, hlt, by go_num, hS7, hP1, HQ5⟩
            case measure => simp [intOf]; omega
          · go_wp2_with fail
            go_roundw
            case rel => exact ⟨k + 1, P, hlt, by go_num, hS7, hP1, HQ5⟩
            case measure => simp [intOf]; omega
      · obtain rfl : k = n1 := by omega
        have e0 : wr.cell? ⟨w.heap.size, 0, none⟩ = some (.int .i64 fd) := HQ.out.cell 0
        have e1 : wr.cell? ⟨w.heap.size, 1, none⟩ = some (.int .i64 fk) := HQ.out.cell 1
        have e2 : wr.cell? ⟨w.heap.size, 2, none⟩ = some (.int .u8 tt) := HQ.out.cell 2
        have x5 := below_alloc wr (.cells #[.int .i64 fd, .int .i64 fk, .int .u8 tt] 55)
        have p5 : FtAt (wr.alloc (.cells #[.int .i64 fd, .int .i64 fk, .int .u8 tt] 55)) (some ⟨wr.heap.size, 0, none⟩) 1 [⟨fd, fk, ftt⟩] := by
          have hb := Blk.fresh wr #[.int .i64 fd, .int .i64 fk, .int .u8 tt] 55
          refine ⟨rfl, .inr ⟨_, 0, rfl, fun j hj => ?_⟩⟩
          obtain rfl : j = 0 := by omega
          exact ⟨hb.cell 0, hb.cell 1, (hb.cell 2).trans (by rw [← HTT.out]; rfl), ⟨f0, f1, f2, f3⟩⟩
        obtain ⟨ls0, hD0, -, -⟩ := hS.next
        have hz5 : (1 : Nat) ≠ 0 → ∀ q, blkO (some ⟨wr.heap.size, 0, none⟩) = some q → q ≠ G ∧ q ≠ pb := by
          intro _ q hq
          injection hq with hq
          simp only at hq
          have h1 := hD0.lt G (.inl rfl)
          have h2 := hD0.lt pb (.inr (.inl rfl))
          omega
        have hS5 := no_sub (w1 := wr) (hS.below x5)
        have q5 := HQ.out.keep x5
        obtain ⟨ls, hD, -, nx⟩ := hS5.next
        clear hD0 hS hS5 HQ hBF
        go_wp2_with fail
        refine (diskArm_any hD _ 1 1 _ p5 hz5).mono ?_
        rintro e w6 ⟨rfl, hT⟩
        have hS6 := (nx _ _ _ hT rfl).1
        have q6 := hT.blk hD q5 (by decide) (by decide) (by decide) (by decide)
        have hI : DnI (P.arm [⟨fd, fk, ftt⟩] true) fd 0 := ⟨hP1, rfl, rfl, rfl⟩
        have hdn : (P.arm [⟨fd, fk, ftt⟩] true).dones 0 = 0 := by
          unfold Pd.dones
          rw [if_neg (by rw [hI.n]; omega)]
          exact congrArg Int.ofNat hI.d
        clear hD nx hT p5 hz5 x5 q5 e0 e1 e2
        generalize P.arm [⟨fd, fk, ftt⟩] true = P0 at *
        obtain ⟨ls, hD, -, -⟩ := hS6.next
        go_wp2_with fail
        refine (diskDone_any hD 0).mono ?_
        rintro e w7 ⟨rfl, rfl⟩
        rw [hdn]
        clear hD hdn
        have HQ6 := Lib.hid q6
        have HI := Lib.hid hI
        clear q6 hI
        go_wp2_with fail
        go_loopw [11, 63] (fun d i wx => ∃ j dd : Nat, ∃ Q, j ≤ n2 ∧ i = .int .i64 j ∧ d = .int .i64 dd ∧ dd ≤ j ∧ Apt w wx G pb Q (wrN ss1 k + wrN ss2 j) (fun _ => False) ∧ Hid (DnI Q fd dd) ∧ Hid (Blk wx w.heap.size #[.int .i64 fd, .int .i64 fk, .int .u8 tt] 55)) (fun _ i _ => n2 - (intOf i).toNat)
        case atStart => exact ⟨0, 0, P0, Nat.zero_le _, rfl, rfl, Nat.le_refl _, hS6.mono (by omega), HI, HQ6⟩
        case round =>
          clear hS6 HI HQ6
          obtain ⟨j, dd, Q, hj, rfl, rfl, hdj, hS, HI, HQ⟩ := hrel
          by_cases hlt2 : j < n2
          · have hBr := hS.low
            obtain ⟨b, o, s, C, m, cc, FA, l, d, rfl, hs, q0, q1, q2, q3, q4, q5, hps, hm, hfa, hml⟩ := Script.at_ h2 hBr j hlt2
            have hsu := wrN_succ ss2 j s hs
            have hmo := wrN_mono ss2 (j + 1) n2 hlt2 (by rw [hl2.out]; exact Nat.le_refl _)
            have hL : wrN ss1 k + wrN ss2 j + s.p.length + 1 ≤ wrN ss1 k + wrN ss2 (j + 1) := by omega
            have hL2 : wrN ss1 k + wrN ss2 (j + 1) ≤ 1073741824 := by have := HTOT.out; omega
            have j0 : (0 : Int) ≤ (j : Int) := by omega
            have j1 : (j : Int) < (n2 : Int) := by omega
            obtain ⟨sk, si, sa, sb, sp, sf⟩ := s
            simp only at q0 q1 q2 q3 q4 q5 hm hfa hL
            have x5 := below_alloc wr (.cells #[.int .i64 sk, .int .i64 0, .int .i64 sa, .int .i64 sb, .slice C m cc, .slice FA l d] 33)
            have hS5 := no_sub (w1 := wr) (hS.below x5)
            have k5 := Blk.fresh wr #[.int .i64 sk, .int .i64 0, .int .i64 sa, .int .i64 sb, .slice C m cc, .slice FA l d] 33
            have hps5 := (PsAt.i0 hps).below x5
            have HQ5 := Lib.hid (HQ.out.keep x5)
            have HPS := Lib.hid hps5
            have HFA := Lib.hid hfa
            have HK5 := Lib.hid k5
            have HS5 := Lib.hid hS5
            clear hps hfa hsu hmo hs hm hS hBr x5 hps5 k5 hS5
            by_cases hin : 0 ≤ sk ∧ sk ≤ 3
            · obtain ⟨hi0, hi3⟩ := hin
              have hi0n : ¬ sk < 0 := by omega
              have hi3n : ¬ 3 < sk := by omega
              obtain ⟨ls, hD, -, -⟩ := HS5.out.next
              have hn1 := HI.out.n
              have hof := bytesOf_any hD (by omega) 0 (by omega)
              have HOF := Lib.hid hof
              clear hof hD
              go_wp2_with fail
              refine HOF.out.mono ?_
              rintro e w6 ⟨A6, c6, rfl, ho6, hb6⟩
              generalize wr.alloc (.cells #[.int .i64 sk, .int .i64 0, .int .i64 sa, .int .i64 sb, .slice C m cc, .slice FA l d] 33) = w5 at *
              have hS6 := HS5.out.below hb6
              have hll := HS5.out.lim.a 0 (by omega)
              have hl3 := hll.n
              have hl4 := hll.s
              have out6 := Out.new (F := fun k => False ∨ (w5.heap.size ≤ k ∧ k < w6.heap.size)) ho6 (by omega) (fun k e => .inr e)
              have k6 := HK5.out.keep hb6
              have q6 := HQ5.out.keep hb6
              obtain ⟨ls6, hD6, ⟨hg1, hg2⟩, nx6⟩ := hS6.next
              have hcall := call_any hD6 (HPS.out.below hb6) (fun hne q' hq' => by have := HFA.out hne q' hq'; exact ⟨by omega, by omega⟩) hL (by omega)
              obtain ⟨y0, y1, y2, y3, y4, y5, yf⟩ := six_cells k6
              have HCALL := Lib.hid hcall
              have HNX := Lib.hid nx6
              have HD6 := Lib.hid hD6
              have HO6 := Lib.hid out6
              have HQ6 := Lib.hid q6
              clear hcall nx6 hD6 out6 ho6 hb6 hS6 k6 q6 HOF HS5 HPS HK5 HQ5 HQ HFA q0 q1 q2 q3 q4 q5
              go_wp2_with fail
              refine HCALL.out.mono ?_
              rintro e w7 ⟨v, rfl, ⟨A7, m7, c7, B7, n7, d7, rfl, -, -⟩, hT⟩
              obtain ⟨hS7, hch7, hB7⟩ := HNX.out _ _ _ hT (Q.step_n _)
              have out7 := HO6.out.chg hch7
              have q7 := hT.blk HD6.out HQ6.out (by decide) (by decide) (by decide) (by decide)
              have hst := step_down HI.out sk sa sb sp sf hi0 hi3
              have hn8 := (Q.step_n ⟨sk, 0, sa, sb, sp, sf⟩).trans hn1
              generalize (Q.told ⟨sk, 0, sa, sb, sp, sf⟩).e = E at *
              generalize (Q.told ⟨sk, 0, sa, sb, sp, sf⟩).x = TX at *
              generalize (Q.told ⟨sk, 0, sa, sb, sp, sf⟩).y = TY at *
              generalize (Q.told ⟨sk, 0, sa, sb, sp, sf⟩).z = TZ at *
              generalize Q.step ⟨sk, 0, sa, sb, sp, sf⟩ = Q8 at *
              have x8 := below_alloc w7 (.cells #[.int .i64 E, .int .i64 TX, .int .i64 TY, .int .i64 TZ, .slice A7 m7 c7, .slice B7 n7 d7] 36)
              have t8 := Blk.fresh w7 #[.int .i64 E, .int .i64 TX, .int .i64 TY, .int .i64 TZ, .slice A7 m7 c7, .slice B7 n7 d7] 36
              have hS8 := no_sub (w1 := w) (hS7.below x8)
              have out8 := out7.below x8
              have q8 := q7.keep x8
              obtain ⟨ls8, hD8, -, -⟩ := hS8.next
              have hof8 := bytesOf_any hD8 (by omega) 0 (by omega)
              have HOF8 := Lib.hid hof8
              have HS8 := Lib.hid hS8
              have HO8 := Lib.hid out8
              have HB8 := Lib.hid (And.intro q8 t8)
              have HST := Lib.hid hst
              clear hof8 hD8 hS8 out8 q8 t8 out7 q7 hS7 hch7 hB7 hT HCALL HNX HD6 HO6 HQ6 x8 hst y0 y1 y2 y3 y4 y5 yf
              go_wp2_with fail
              refine HOF8.out.mono ?_
              rintro e w9 ⟨A9, c9, rfl, ho9, hb9⟩
              have hS9 := no_sub (w1 := w) (HS8.out.below hb9)
              have out9 := (HO8.out.below hb9).1
              have HQ9 := Lib.hid (HB8.out.1.keep hb9)
              have fq : w9.cell? ⟨w.heap.size, 0, none⟩ = some (.int .i64 fd) := HQ9.out.cell 0
              obtain ⟨z0, z1, z2, z3, z4, z5, zf⟩ := six_cells (HB8.out.2.keep hb9)
              have hl8 := HS8.out.lim.a 0 (by omega)
              have hl83 := hl8.n
              have by9 := own_bytes' ho9 (by omega)
              clear HOF8 HO8 HB8 ho9 hb9
              rcases HST.out with ⟨rfl, hfd, rfl⟩ | ⟨rfl, hfd, rfl⟩ | ⟨rfl, hfd, hI9⟩
              · have hI9 := HI.out
                obtain ⟨ls9, hD9, -, -⟩ := hS9.next
                have hdn : Q8.dones 0 = (dd : Int) := by
                  unfold Pd.dones
                  rw [if_neg (by rw [hI9.n]; omega)]
                  exact congrArg Int.ofNat hI9.d
                have HI9 := Lib.hid hI9
                have HS9 := Lib.hid hS9
                have HD9 := Lib.hid hD9
                clear HST HS8 hI9 hS9 hD9 hll hl8
                go_wp2_with fail
                refine (equal_same _ _ _ _ _ _ _ _ out9 by9).mono ?_
                rintro e w10 ⟨rfl, qn, rfl⟩
                have hS10 := no_sub (w1 := w) (HS9.out.below (below_drew7 _ qn))
                have HQ10 := Lib.hid (HQ9.out.keep (below_drew7 _ qn))
                have hD10 := HD9.out.below (below_drew7 _ qn)
                clear HS9 HD9 HQ9 out9 by9
                go_wp2_with fail
                refine (diskDone_any hD10 0).mono ?_
                rintro e w11 ⟨rfl, rfl⟩
                rw [hdn]
                clear hdn hD10
                go_wp2_with fail
                go_roundw
                case rel => exact ⟨j + 1, dd, _, hlt2, by go_num, rfl, by omega, hS10, HI9, HQ10⟩
                case measure => simp [intOf]; omega
              · have hI9 := HI.out
                obtain ⟨ls9, hD9, -, -⟩ := hS9.next
                have hdn : Q8.dones 0 = (dd : Int) := by
                  unfold Pd.dones
                  rw [if_neg (by rw [hI9.n]; omega)]
                  exact congrArg Int.ofNat hI9.d
                have HI9 := Lib.hid hI9
                have HS9 := Lib.hid hS9
                have HD9 := Lib.hid hD9
                clear HST HS8 hI9 hS9 hD9 hll hl8
                go_wp2_with fail
                refine (equal_same _ _ _ _ _ _ _ _ out9 by9).mono ?_
                rintro e w10 ⟨rfl, qn, rfl⟩
                have hS10 := no_sub (w1 := w) (HS9.out.below (below_drew7 _ qn))
                have HQ10 := Lib.hid (HQ9.out.keep (below_drew7 _ qn))
                have hD10 := HD9.out.below (below_drew7 _ qn)
                clear HS9 HD9 HQ9 out9 by9
                go_wp2_with fail
                refine (diskDone_any hD10 0).mono ?_
                rintro e w11 ⟨rfl, rfl⟩
                rw [hdn]
                clear hdn hD10
                go_wp2_with fail
                go_roundw
                case rel => exact ⟨j + 1, dd, _, hlt2, by go_num, rfl, by omega, hS10, HI9, HQ10⟩
                case measure => simp [intOf]; omega
              · obtain ⟨ls9, hD9, -, -⟩ := hS9.next
                have hdn : Q8.dones 0 = (dd : Int) + 1 := by
                  unfold Pd.dones
                  rw [if_neg (by rw [hI9.n]; omega)]
                  show (((Q8.p 0).done : Nat) : Int) = _
                  rw [hI9.d]
                  push_cast
                  rfl
                have HI9 := Lib.hid hI9
                have HS9 := Lib.hid hS9
                have HD9 := Lib.hid hD9
                clear HST HS8 hI9 hS9 hD9 hll hl8
                go_wp2_with fail
                refine (diskDone_any HD9.out 0).mono ?_
                rintro e w11 ⟨rfl, rfl⟩
                rw [hdn]
                clear hdn
                go_wp2_with fail
                go_roundw
                case rel => exact ⟨j + 1, dd + 1, _, hlt2, by go_num, by go_num, by omega, HS9.out, HI9, HQ9⟩
                case measure => simp [intOf]; omega
            · have hS7 := HS5.out.mono (show wrN ss1 k + wrN ss2 j ≤ wrN ss1 k + wrN ss2 (j + 1) by omega)
              by_cases hi0 : sk < 0
              · go_wp2_with fail
                go_roundw
                case rel => exact ⟨j + 1, dd, Q, hlt2, by go_num, rfl, by omega, hS7, HI, HQ5⟩
                case measure => simp [intOf]; omega
              · have hi3 : 3 < sk := by omega
                go_wp2_with fail
                go_roundw
                case rel => exact ⟨j + 1, dd, Q, hlt2, by go_num, rfl, by omega, hS7, HI, HQ5⟩
                case measure => simp [intOf]; omega
          · obtain rfl : j = n2 := by omega
            go_wp2_with fail
            go_ret
            exact ⟨rfl, hS.low⟩
theorem diskDown_agg (cs : Array Value) (ft : Ft) (A1 : Option Addr) (n1 c1 : Nat) (ss1 : List Ps) (A2 : Option Addr) (n2 c2 : Nat) (ss2 : List Ps) (w : World) (hf : IsFt w cs.toList ft) (h1 : Script w A1 n1 ss1) (hn1 : n1 ≤ 140737488351232) (h2 : Script w A2 n2 ss2) (hn2 : n2 ≤ 140737488351232) :
    Calls Try.prog 11 #[.agg cs, .slice A1 n1 c1, .slice A2 n2 c2] w fun e w' => e = .returned (.bool true) ∧ Below w.heap.size w w' := by
  obtain ⟨rfl, hok⟩ := ft_agg hf
  exact diskDown_any ft hok A1 n1 c1 ss1 A2 n2 c2 ss2 w h1 hn1 h2 hn2
end Go.Proofs.Ytodaplkijdjbpaa
