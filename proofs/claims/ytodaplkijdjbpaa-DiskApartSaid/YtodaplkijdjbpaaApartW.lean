/- DiskApart, walked. -/
import Derived.Test.YtodaplkijdjbpaaTwo
import Derived.Test.YtodaplkijdjbpaaApartP
import Derived.Test.YtodaplkijdjbpaaCallB
import Derived.Test.YtodaplkijdjbpaaFixed
import Derived.Test.YtodaplkijdjbpaaVast8
namespace Go.Proofs.Ytodaplkijdjbpaa
open Go.RowKit
set_option linter.unusedVariables false
set_option linter.unusedSimpArgs false
theorem and15 (x : Int) : ∃ m : Nat, m ≤ 15 ∧ bits .and .i64 x 15 = (m : Int) := by
  have h : (BitVec.ofInt 64 x &&& BitVec.ofInt 64 15).toNat ≤ 15 := by
    rw [BitVec.toNat_and]
    exact Nat.le_trans Nat.and_le_right (by decide)
  refine ⟨_, h, ?_⟩
  show IntKind.i64.wrap ((BitVec.ofInt 64 x &&& BitVec.ofInt 64 15).toNat : Nat) = _
  generalize (BitVec.ofInt 64 x &&& BitVec.ofInt 64 15).toNat = m at *
  simp [IntKind.wrap, IntKind.signed, IntKind.bits]
  omega
theorem FtAt.back {w wr w7 : World} {A : Option Addr} {n : Nat} {fs : List Ft} (h : FtAt wr A n fs) (hB : Below w.heap.size w wr) (hB2 : Below w.heap.size w w7) (hlt : fs ≠ [] → ∀ q, blkO A = some q → q < w.heap.size) : FtAt w7 A n fs := by
  refine ⟨h.1, ?_⟩
  rcases h.2 with h0 | ⟨b, o, rfl, hc⟩
  · exact .inl h0
  · refine .inr ⟨b, o, rfl, fun j hj => ?_⟩
    have hb : b < w.heap.size := hlt (fun e => by have := h.1; rw [e] at this; simp at this; omega) b rfl
    have mv : ∀ x u, wr.cell? ⟨b, x, none⟩ = some u → w7.cell? ⟨b, x, none⟩ = some u := fun x u hu => (hB2.cell (p := ⟨b, x, none⟩) hb).trans ((hB.cell (p := ⟨b, x, none⟩) hb).symm.trans hu)
    obtain ⟨h1, h2, h3, h4⟩ := hc j hj
    exact ⟨mv _ _ h1, mv _ _ h2, mv _ _ h3, h4⟩
theorem own_cells {w : World} {g m i : Nat} (h : Blk w g (madeCells (Value.agg #[.int .i64 0, .int .i64 0, .int .u8 0]).cells (m * 3)) 55) (hi : i < m) : w.cell? ⟨g, i * 3, none⟩ = some (.int .i64 0) ∧ w.cell? ⟨g, i * 3 + 1, none⟩ = some (.int .i64 0) ∧ w.cell? ⟨g, i * 3 + 2, none⟩ = some (.int .u8 0) := by
  refine ⟨(h.cell _).trans ?_, (h.cell _).trans ?_, (h.cell _).trans ?_⟩
  · rw [made_at _ _ _ (by omega)]; simp [Value.cells]
  · rw [made_at _ _ _ (by omega)]; simp [Value.cells, Nat.add_mod]
  · rw [made_at _ _ _ (by omega)]; simp [Value.cells, Nat.add_mod]
theorem PsAt.fates {w : World} {a b c d : Value} {C A B : Option Addr} {m x l y : Nat} {s : Ps} (h : PsAt w (.agg #[a, b, c, d, .slice C m x, .slice A l y]) s B) : FtAt w A l s.f := by
  obtain ⟨⟨C', m', c', n', d', e, _, hF⟩, _, _⟩ := h
  injection e with e
  injection e with e
  injection e with _ e
  injection e with _ e
  injection e with _ e
  injection e with _ e
  injection e with _ e
  injection e with e _
  injection e with e1 e2 e3
  subst e1 e2
  exact hF
/-- The call that the other disk is asked. -/
theorem second_call {w w8 : World} {G pb H qb K L a b : Nat} {P Q : Pd} {v tv : Value} {s : Ps} {A : Option Addr} {T : Td} {cs cs' : Array Value} (h : Two w w8 H qb Q G pb P K (fun _ => False)) (hs : PsAt w8 v s A) (hA : s.f ≠ [] → ∀ q, blkO A = some q → q < w.heap.size) (hk : K + s.p.length + 1 ≤ L) (hL : L ≤ 4294967296)
    (ht : TdAt w8 tv T) (hT : Q.told s = T) (hsm : s.k ≠ 4 → T.p = [] ∧ T.s = []) (kS : Blk w8 a cs 33) (kT : Blk w8 b cs' 36) (w9 : World) (h9 : Below w8.heap.size w8 w9) :
    Calls Try.prog 16 #[.pointer (some ⟨H, 0, none⟩), v] w9 (fun e w' => ∃ v', e = .returned v' ∧ TdAt w' v' T ∧ TdAt w' tv T ∧ Blk w' a cs 33 ∧ Blk w' b cs' 36 ∧ Two w w' H qb (Q.step s) G pb P L (fun _ => False)) := by
  have S9 := h.keep h9
  obtain ⟨ls, hD, ⟨hg1, hg2⟩, nx⟩ := S9.next
  have hAA : s.f ≠ [] → ∀ q, blkO A = some q → q ≠ H ∧ q ≠ qb := fun hne q hq => by have := hA hne q hq; exact ⟨by omega, by omega⟩
  by_cases h4 : s.k = 4
  · have hst : Q.step s = Q := by unfold Pd.step; rw [if_neg (by omega), if_neg (by omega), if_neg (by omega), if_neg (by omega), if_neg (by omega), if_neg (by omega)]
    refine (call_4b hD (hs.below h9) hAA hk hL h4).mono ?_
    rintro e w' ⟨v', he, h1, h2⟩
    rw [hT] at h1
    exact ⟨v', he, h1, (ht.below h9).below h2, (kS.keep h9).keep h2, (kT.keep h9).keep h2, by rw [hst]; exact (S9.keep h2).mono (by omega)⟩
  · refine (call_any hD (hs.below h9) hAA hk hL).mono ?_
    rintro e w' ⟨v', he, h1, h2⟩
    rw [hT] at h1
    obtain ⟨e1, e2⟩ := hsm h4
    exact ⟨v', he, h1, ht.bare e1 e2, h2.blk hD (kS.keep h9) (by decide) (by decide) (by decide) (by decide), h2.blk hD (kT.keep h9) (by decide) (by decide) (by decide) (by decide), (nx _ _ _ h2 (Q.step_n _) (by omega)).1⟩
theorem boxes_at {w : World} {p q : Nat} {a0 a1 a2 a3 a4 a5 b0 b1 b2 b3 b4 b5 : Value} {t t' : TypeId} (h : Blk w p #[a0, a1, a2, a3, a4, a5] t) (h' : Blk w q #[b0, b1, b2, b3, b4, b5] t') :
    w.cell? ⟨p, 0, none⟩ = some a0 ∧ w.cell? ⟨p, 1, none⟩ = some a1 ∧ w.cell? ⟨p, 2, none⟩ = some a2 ∧ w.cell? ⟨p, 3, none⟩ = some a3 ∧ w.cell? ⟨p, 4, none⟩ = some a4 ∧ w.cell? ⟨p, 5, none⟩ = some a5 ∧
    w.cell? ⟨q, 0, none⟩ = some b0 ∧ w.cell? ⟨q, 1, none⟩ = some b1 ∧ w.cell? ⟨q, 2, none⟩ = some b2 ∧ w.cell? ⟨q, 3, none⟩ = some b3 ∧ w.cell? ⟨q, 4, none⟩ = some b4 ∧ w.cell? ⟨q, 5, none⟩ = some b5 :=
  ⟨h.cell 0, h.cell 1, h.cell 2, h.cell 3, h.cell 4, h.cell 5, h'.cell 0, h'.cell 1, h'.cell 2, h'.cell 3, h'.cell 4, h'.cell 5⟩
set_option maxRecDepth 100000 in
set_option maxHeartbeats 3200000 in
theorem diskApart_any (areas i : Int) (A : Option Addr) (n c : Nat) (ss : List Ps) (w : World) (h : Script w A n ss) (hn : n ≤ 140737488351232) :
    Calls Try.prog 10 #[.int .i64 areas, .int .i64 i, .slice A n c] w fun e w' => e = .returned (.bool true) ∧ Below w.heap.size w w' := by
  have hl := Lib.hid h.1
  obtain ⟨ma, hma, ea⟩ := and15 areas
  obtain ⟨mi, hmi, ei⟩ := and15 i
  have x1 := below_alloc w (.cells #[.slice A n c] 23)
  have k1 := Blk.fresh w #[.slice A n c] 23
  have hv := vast_any w.heap.size 1 1 (fun _ => ⟨A, n, c, ss⟩) (w.alloc (.cells #[.slice A n c] 23)) (fun j hj => by obtain rfl : j = 0 := (by omega); exact ⟨k1.cell 0, h.below x1, hn⟩) (by omega)
  have HV := Lib.hid hv
  clear hv k1
  go_enter Try.func10, Try.ntmps10
  go_wp2_with fail
  refine HV.out.mono ?_
  rintro e w1 ⟨b, rfl, hb1, htot⟩
  have hB1 := below_then x1 hb1 x1.size
  cases b with
  | true =>
    go_wp2_with fail
    go_ret
    exact ⟨rfl, hB1⟩
  | false =>
    have htot := htot rfl
    simp only [tot, Nat.zero_add] at htot
    have HTOT := Lib.hid htot
    clear htot HV x1 hb1
    go_wp2_with fail
    refine (fixed_any _).mono ?_
    rintro e w2 ⟨rfl, hb2⟩
    have hB2 := below_then hB1 hb2 hB1.size
    clear hB1 hb2
    by_cases hge : 1 + ma ≤ mi
    · go_wp2_with fail
      go_ret
      exact ⟨rfl, hB2⟩
    have hge2 : ¬ (1 + (ma : Int) ≤ (mi : Int)) := by omega
    obtain ⟨m, hm⟩ : ∃ m : Nat, 1 + ma = m := ⟨_, rfl⟩
    have hm2 : 1 + (ma : Int) = (m : Int) := by omega
    go_wp2_with fail
    refine (diskNew_any m w2 (by omega) (by omega)).mono ?_
    rintro e w3 hh
    obtain ⟨G, pb, rfl, hb3, hA⟩ := apt_new hB2 hh
    have hA3 := (hA 0).sub (F' := fun k => False) (fun k e => e.elim)
    clear hh hA
    go_wp2_with fail
    refine (diskNew_any m w3 (by omega) (by omega)).mono ?_
    rintro e w4 hh
    obtain ⟨H, qb, rfl, hb4, hA4⟩ := two_new hA3 hh
    clear hh hA3 hb3 hb4
    go_wp2_with fail
    clear ea ei hge hge2 htot
    go_loopw [48] (fun iv wr => ∃ k : Nat, ∃ P Q, k ≤ n ∧ iv = .int .i64 k ∧ Two w wr G pb P H qb Q (2 * wrN ss k) (fun _ => False) ∧ Hid (Sm mi P Q) ∧ Hid (P.n = m)) (fun iv _ => n - (intOf iv).toNat)
    case atStart => exact ⟨0, _, _, Nat.zero_le _, rfl, hA4, Lib.hid ⟨by show mi < m; omega, rfl, rfl, rfl⟩, Lib.hid rfl⟩
    case round =>
      clear hA4
      obtain ⟨k, P, Q, hk, rfl, hS, HSM, HPN⟩ := hrel
      by_cases hlt : k < n
      · have hBr := hS.low
        obtain ⟨b, o, s, C, mc, cc, FA, l, d, rfl, hs, q0, q1, q2, q3, q4, q5, hpsA, hlm, hfa, hml⟩ := Script.at_all h hBr k hlt
        have hps := hpsA _ hBr
        have HPSA := Lib.hid hpsA
        clear hpsA
        have hsu := wrN_succ ss k s hs
        have hmo := wrN_mono ss (k + 1) n hlt (by rw [hl.out]; exact Nat.le_refl _)
        obtain ⟨K0, hK0⟩ : ∃ K0, 2 * wrN ss k = K0 := ⟨_, rfl⟩
        obtain ⟨K1, hK1⟩ : ∃ K1, K0 + (s.p.length + 1) = K1 := ⟨_, rfl⟩
        obtain ⟨K2, hK2⟩ : ∃ K2, 2 * wrN ss (k + 1) = K2 := ⟨_, rfl⟩
        have hL : K0 + s.p.length + 1 ≤ K1 := by omega
        have hL3 : K1 + s.p.length + 1 ≤ K2 := by omega
        have hL2 : K2 ≤ 2147483648 := by have := HTOT.out; omega
        have HLK : Hid (K0 ≤ K1 ∧ K1 ≤ K2) := Lib.hid (by omega)
        have HK2 := Lib.hid hK2
        rw [hK0] at hS
        have j0 : (0 : Int) ≤ (k : Int) := by omega
        have j1 : (k : Int) < (n : Int) := by omega
        obtain ⟨sk, si, sa, sb, sp, sf⟩ := s
        simp only at q0 q1 q2 q3 q4 q5 hlm hfa hL hL3
        clear hK0 hK1 hK2
        have hff := hps.fates
        have HFT := Lib.hid (And.intro hff hBr)
        have x5 := below_alloc wr (.cells #[.int .i64 sk, .int .i64 si, .int .i64 sa, .int .i64 sb, .slice C mc cc, .slice FA l d] 33)
        have k5 := Blk.fresh wr #[.int .i64 sk, .int .i64 si, .int .i64 sa, .int .i64 sb, .slice C mc cc, .slice FA l d] 33
        have hS5 := hS.keep x5
        have hps5 := hps.below x5
        have hw0 := hBr.size
        obtain ⟨ls, hD, ⟨hg1, hg2⟩, nx⟩ := hS5.next
        have HPS := Lib.hid hps
        have HFA := Lib.hid hfa
        have HK5 := Lib.hid k5
        have HS5 := Lib.hid hS5
        have HD := Lib.hid hD
        have HNX := Lib.hid nx
        by_cases h9 : sk = 9
        · subst h9
          have HCALL := Lib.hid (call_9b hD hps5 (fun hne q' hq' => by have := hfa hne q' hq'; exact ⟨by omega, by omega⟩) hL (by omega) rfl)
          clear hps5 hS5 hD nx k5 hff hps hfa hsu hmo hs hlm hS hBr x5
          go_wp2_with fail
          refine HCALL.out.mono ?_
          rintro e w7 ⟨B7, n7, d7, rfl, hsp, hcap, hb7⟩
          have S7 := (HS5.out.keep hb7).mono HLK.out.1
          have s7 := HK5.out.keep hb7
          have x8 := below_alloc w7 (.cells #[.int .i64 0, .int .i64 0, .int .i64 0, .int .i64 0, .slice none 0 0, .slice B7 n7 d7] 36)
          have t8 := Blk.fresh w7 #[.int .i64 0, .int .i64 0, .int .i64 0, .int .i64 0, .slice none 0 0, .slice B7 n7 d7] 36
          have s8 := s7.keep x8
          have S8 := S7.keep x8
          have sp8 := hsp.below x8
          have HB8 := Lib.hid (And.intro s8 t8)
          have HS8 := Lib.hid S8
          obtain ⟨y0, y1, y2, y3, y4, y5, yf⟩ := six_cells s8
          obtain ⟨z0, z1, z2, z3, z4, z5, zf⟩ := six_cells t8
          have hn7 := hsp.1
          have hn7' : n7 = m := by rw [← hn7]; simp [Pd.image, Pd.imageK, HPN.out]
          subst hn7'
          have HSP := Lib.hid sp8
          clear S7 s7 x8 t8 s8 S8 sp8 q0 q1 q2 q3 q4 q5 hsp hb7 hn7 HCALL HNX HD HS5 HK5
          go_upto_region 25 with fail
          generalize w7.alloc (.cells #[.int .i64 0, .int .i64 0, .int .i64 0, .int .i64 0, .slice none 0 0, .slice B7 n7 d7] 36) = w8 at *
          obtain ⟨ls2, hD10, -, -⟩ := HS8.out.swap.next
          have HD10 := Lib.hid hD10
          clear hD10 HB8
          go_region_held3 (fun w' => w'.cell? ⟨w7.heap.size, 5, none⟩ = some (.slice B7 n7 d7))
            (first | exact kz | exact z5)
            (first | (go_at_call 21; refine (diskImage_any (HD10.out.below (Below.refl _ w8).drew)).mono ?_; rintro e w10 ⟨A10, n10, c10, qs, rfl, hSp, hqs, hb10⟩; have kA : Below w8.heap.size w8 w10 := (Below.refl _ w8).drew.trans hb10; have kz := (kA.cell (p := ⟨w7.heap.size, 5, none⟩) (block_lt_of_cell z5)).trans z5))
          have hcap2 := span_cap hSp
          have hD11 := HD10.out.below (Below.refl _ w8).drew
          have hsp2 := hSp.at_ (fun x hx => image_len hD11 hSp hqs (by omega) x hx)
          rw [hqs] at hsp2
          have S11 := HS8.out.keep kA
          have hsp1 := HSP.out.below kA
          have hn10 := hsp2.1
          have hQn : Q.n = n7 := HSM.out.n.symm.trans HPN.out
          have hn10' : n10 = n7 := by rw [← hn10]; simp [Pd.image, Pd.imageK, hQn]
          subst hn10'
          have hmn : mi < n10 := by have := HSM.out.lt; have := HPN.out; omega
          obtain ⟨b1, o1, rfl, sp1⟩ := hsp1.one hmn
          obtain ⟨b2, o2, rfl, sp2⟩ := hsp2.one hmn
          rw [← sm_image HSM.out] at sp2
          have HSPS := Lib.hid (And.intro sp1 sp2)
          have HS11 := Lib.hid S11
          have HSM11 := Lib.hid (sm_step_off HSM.out ⟨9, si, sa, sb, sp, sf⟩ (by simp) (by simp) (fun _ h6 => absurd h6 (by simp)))
          have est : P.step ⟨9, si, sa, sb, sp, sf⟩ = P := by simp [Pd.step]
          rw [est] at HSM11
          have i0 : (0 : Int) ≤ (mi : Int) := by omega
          have i1 : (mi : Int) + 1 ≤ (d7 : Int) := by omega
          have i2 : (mi : Int) + 1 ≤ (c10 : Int) := by omega
          have i3 : (mi : Int) ≤ (mi : Int) + 1 := by omega
          clear sp1 sp2 S11 hsp1 hsp2 hSp hqs hb10 kA kz hD11 HD10 est hn10 hQn y0 y1 y2 y3 y4 y5 yf z0 z1 z2 z3 z4 z5 zf HSP HS8
          go_wp2_with fail
          go_quiet ((go_at_call 31; exact Calls.quiet_of (spans_val HSPS.out.1 HSPS.out.2 (by omega) _)))
          have HS12 := Lib.hid (HS11.out.keep (below_drew7 w10 nq))
          go_wp2_with fail
          go_roundw
          case rel => exact ⟨k + 1, _, _, hlt, by go_num, by rw [HK2.out]; exact HS12.out.mono HLK.out.2, HSM11, HPN⟩
          case measure => simp [intOf]; omega
        · have HCALL := Lib.hid (call_any hD hps5 (fun hne q' hq' => by have := hfa hne q' hq'; exact ⟨by omega, by omega⟩) hL (by omega))
          have HL := Lib.hid (And.intro hL3 (And.intro hL2 hw0))
          clear hps5 hS5 hD nx k5 hff hps hfa hsu hmo hs hlm hS hBr x5 hL hL2 hw0 hL3
          go_wp2_with fail
          refine HCALL.out.mono ?_
          rintro e w7 ⟨v, rfl, htd, hT⟩
          have hTK := Lib.hid (told_small (P := P) ⟨sk, si, sa, sb, sp, sf⟩)
          obtain ⟨S7, -, hB7⟩ := HNX.out _ _ _ hT (P.step_n _) HLK.out.1
          have s7 := hT.blk HD.out HK5.out (by decide) (by decide) (by decide) (by decide)
          obtain ⟨T, hTe⟩ : ∃ T, P.told ⟨sk, si, sa, sb, sp, sf⟩ = T := ⟨_, rfl⟩
          have HTE := Lib.hid hTe
          rw [hTe] at htd hTK
          clear hTe hT HCALL HNX HD HS5 HK5
          obtain ⟨E, TX, TY, TZ, TP, TS⟩ := T
          have htd2 := htd
          obtain ⟨A7, m7, c7, B7, n7, d7, rfl, -, -⟩ := htd2
          simp only at htd ⊢
          have x8 := below_alloc w7 (.cells #[.int .i64 E, .int .i64 TX, .int .i64 TY, .int .i64 TZ, .slice A7 m7 c7, .slice B7 n7 d7] 36)
          have t8 := Blk.fresh w7 #[.int .i64 E, .int .i64 TX, .int .i64 TY, .int .i64 TZ, .slice A7 m7 c7, .slice B7 n7 d7] 36
          have s8 := s7.keep x8
          have S8 := S7.keep x8
          have td8 := htd.below x8
          have hPn8 : (P.step ⟨sk, si, sa, sb, sp, sf⟩).n = m := (P.step_n _).trans HPN.out
          have HB8 := Lib.hid (And.intro s8 t8)
          have HS8 := Lib.hid S8
          have HTD := Lib.hid td8
          obtain ⟨y0, y1, y2, y3, y4, y5, yf⟩ := six_cells s8
          obtain ⟨z0, z1, z2, z3, z4, z5, zf⟩ := six_cells t8
          clear S7 s7 htd x8 t8 s8 S8 td8 q0 q1 q2 q3 q4 q5
          by_cases h7 : sk = 7
          · subst h7
            go_upto_region 18 with fail
            generalize w7.alloc (.cells #[.int .i64 E, .int .i64 TX, .int .i64 TY, .int .i64 TZ, .slice A7 m7 c7, .slice B7 n7 d7] 36) = w8 at *
            have HSM8 := Lib.hid (sm_arm HSM.out sf)
            have est : P.step ⟨7, si, sa, sb, sp, sf⟩ = P.arm sf true := by simp [Pd.step]
            rw [est] at HS8 hPn8
            clear est
            have hm16 := HS8.out.lim.n1
            rw [hPn8] at hm16
            obtain ⟨i0, hi, hz0, hz1, hz2⟩ := info_parts info_fate
            have hB8 := HS8.out.low
            by_cases hin : mi < l
            · have hft8 := HFT.out.1.back HFT.out.2 hB8 HFA.out
              rcases hft8.2 with h0 | ⟨fb, fo, rfl, hc⟩
              · omega
              obtain ⟨f0, f1, f2, f3⟩ := hc mi hin
              have hin2 : (mi : Int) < (l : Int) := by omega
              have hlt0 : (0 : Int) ≤ (mi : Int) := by omega
              have hltm : (mi : Int) < (m : Int) := by omega
              have hmim : mi < m := by omega
              obtain ⟨ft, hft⟩ : ∃ ft, sf.getD mi Ft.no = ft := ⟨_, rfl⟩
              rw [hft] at f0 f1 f2 f3
              have HFE := Lib.hid hft
              obtain ⟨fd, fk, ftt⟩ := ft
              simp only at f0 f1 f2
              have hft0 : (0 : Int) ≤ ((ftt.toNat : Nat) : Int) := by omega
              obtain ⟨tt, htt⟩ : ∃ tt : Int, ((ftt.toNat : Nat) : Int) = tt := ⟨_, rfl⟩
              have HTT := Lib.hid htt
              rw [htt] at f2
              clear hft htt hft0 hc hft8
              go_wp2_with (at_make; refine wpList_make_full _ rfl (.tmp 59) (.tmp 59) 24 rfl w8.heap.size 55 i0 (.agg #[.int .i64 0, .int .i64 0, .int .u8 0]) 3 Try.underlying24 hi hz0 hz1 .i64 .i64 _ _ m rfl rfl rfl rfl (by rw [hz2]; omega) (by simp [maxLen]; omega) (Nat.le_refl _) ?_; intro w9 hown hgr; have hB9 := below_of_grown hgr (Nat.le_refl _) (fun k h => by cases h); have y59 := (hB9.cell (p := ⟨wr.heap.size, 5, none⟩) (block_lt_of_cell y5)).trans y5; have f09 := (hB9.cell (p := ⟨fb, fo + mi * 3, none⟩) (block_lt_of_cell f0)).trans f0; have f19 := (hB9.cell (p := ⟨fb, fo + mi * 3 + 1, none⟩) (block_lt_of_cell f1)).trans f1; have f29 := (hB9.cell (p := ⟨fb, fo + mi * 3 + 2, none⟩) (block_lt_of_cell f2)).trans f2; have ofr : ∀ j, w9.frozen? ⟨w8.heap.size, j, none⟩ = false := (made_blk hown).frozen; obtain ⟨oc0, oc1, oc2⟩ := own_cells (made_blk hown) hmim)
              have hBK := made_blk hown
              have hO9 := own_made hBK
              have S9 := HS8.out.keep hB9
              obtain ⟨ls8, hD8, -, -⟩ := HS8.out.swap.next
              have hz1 := hD8.lt H (.inl rfl)
              have hz2 := hD8.lt qb (.inr (.inl rfl))
              have hset := hO9.set (i := mi) (by omega) ⟨fd, fk, ftt⟩ f3
              simp only at hset
              rw [HTT.out] at hset
              have S10 := S9.other hset.2 (fun k e => by subst e; exact ⟨_, _, hBK, by decide, by decide, by decide, by decide⟩) (fun k e => by subst e; exact hB8.size)
              obtain ⟨ls2, hD10, -, nx10⟩ := S10.swap.next
              refine (diskArm_any hD10 _ m m _ hset.1.at_ (fun _ q hq => by injection hq with hq; simp only at hq; omega)).mono ?_
              rintro e w11 ⟨rfl, hT⟩
              have S11 := (nx10 _ _ _ hT rfl (Nat.le_refl _)).1.swap
              have HS11 := Lib.hid S11
              have HSM11 := Lib.hid (HSM8.out _ ((own_getD_in m mi _ (by omega)).trans HFE.out.symm) true)
              clear hT nx10 hD10 S10 hset S9 hO9 hBK hown hgr S11 hD8 f09 f19 f29 ofr y59
              go_wp2_with fail
              go_roundw
              case rel => exact ⟨k + 1, _, _, hlt, by go_num, by rw [HK2.out]; exact HS11.out.mono HLK.out.2, HSM11, Lib.hid hPn8⟩
              case measure => simp [intOf]; omega
            · have hin2 : ¬ (mi : Int) < (l : Int) := by omega
              have hno : sf.getD mi Ft.no = Ft.no := by
                rw [List.getD_eq_getElem?_getD, List.getElem?_eq_none (by rw [HFT.out.1.1]; omega)]; rfl
              go_wp2_with (at_make; refine wpList_make_full _ rfl (.tmp 59) (.tmp 59) 24 rfl w8.heap.size 55 i0 (.agg #[.int .i64 0, .int .i64 0, .int .u8 0]) 3 Try.underlying24 hi hz0 hz1 .i64 .i64 _ _ m rfl rfl rfl rfl (by rw [hz2]; omega) (by simp [maxLen]; omega) (Nat.le_refl _) ?_; intro w9 hown hgr; have hB9 := below_of_grown hgr (Nat.le_refl _) (fun k h => by cases h); have y59 := (hB9.cell (p := ⟨wr.heap.size, 5, none⟩) (block_lt_of_cell y5)).trans y5)
              have hBK := made_blk hown
              have hO9 := own_made hBK
              have S9 := HS8.out.keep hB9
              obtain ⟨ls8, hD8, -, -⟩ := HS8.out.swap.next
              have hz1 := hD8.lt H (.inl rfl)
              have hz2 := hD8.lt qb (.inr (.inl rfl))
              obtain ⟨ls2, hD10, -, nx10⟩ := S9.swap.next
              refine (diskArm_any hD10 _ m m _ hO9.at_ (fun _ q hq => by injection hq with hq; simp only at hq; omega)).mono ?_
              rintro e w11 ⟨rfl, hT⟩
              have S11 := (nx10 _ _ _ hT rfl (Nat.le_refl _)).1.swap
              have HS11 := Lib.hid S11
              have HSM11 := Lib.hid (HSM8.out _ ((own_getD_out m mi).trans hno.symm) true)
              clear hT nx10 hD10 S9 hO9 hBK hown hgr S11 hD8 y59
              go_wp2_with fail
              go_roundw
              case rel => exact ⟨k + 1, _, _, hlt, by go_num, by rw [HK2.out]; exact HS11.out.mono HLK.out.2, HSM11, Lib.hid hPn8⟩
              case measure => simp [intOf]; omega
          by_cases h8 : sk = 8
          · subst h8
            obtain ⟨ls2, hD10, -, nx10⟩ := HS8.out.swap.next
            have est : P.step ⟨8, si, sa, sb, sp, sf⟩ = P.strike := by simp [Pd.step]
            have HX10 := Lib.hid nx10
            clear nx10
            go_wp2_with fail
            refine (diskStrike_any hD10).mono ?_
            rintro e w11 ⟨rfl, hT⟩
            have S11 := (HX10.out _ _ _ hT rfl (Nat.le_refl _)).1.swap
            rw [est] at S11
            have HS11 := Lib.hid S11
            have HSM11 := Lib.hid (sm_strike HSM.out)
            clear hT HX10 hD10 S11 est
            go_wp2_with fail
            go_roundw
            case rel => exact ⟨k + 1, _, _, hlt, by go_num, by rw [HK2.out]; exact HS11.out.mono HLK.out.2, HSM11, Lib.hid HPN.out⟩
            case measure => simp [intOf]; omega
          by_cases hin : (0 ≤ sk ∧ sk ≤ 6) ∧ si = (mi : Int)
          · obtain ⟨⟨hi0, hi6⟩, rfl⟩ := hin
            obtain ⟨ett, esm⟩ := sm_step HSM.out ⟨sk, mi, sa, sb, sp, sf⟩ rfl hi0 hi6
            have HSM11 := Lib.hid esm
            have HSC := Lib.hid (second_call HS8.out.swap (s := ⟨sk, mi, sa, sb, sp, sf⟩) (v := .agg #[.int .i64 sk, .int .i64 mi, .int .i64 sa, .int .i64 sb, .slice C mc cc, .slice FA l d]) (A := FA) (L := K2) (HPSA.out _ HS8.out.low) HFA.out HL.out.1 (by have := HL.out.2.1; omega) HTD.out (ett.symm.trans HTE.out) (fun h4 => hTK.out h4 h9) HB8.out.1 HB8.out.2)
            have hts := told_spans (P := P) ⟨sk, mi, sa, sb, sp, sf⟩ h9
            rw [HTE.out] at hts
            have HTS : Hid (TS = []) := Lib.hid hts
            clear hts
            clear esm
            go_upto_region 29 with fail
            generalize w7.alloc (.cells #[.int .i64 E, .int .i64 TX, .int .i64 TY, .int .i64 TZ, .slice A7 m7 c7, .slice B7 n7 d7] 36) = w8 at *
            go_region_held3 (fun w' => w'.cell? ⟨wr.heap.size, 0, none⟩ = some (.int .i64 sk) ∧ w'.cell? ⟨wr.heap.size, 1, none⟩ = some (.int .i64 mi) ∧ w'.cell? ⟨wr.heap.size, 2, none⟩ = some (.int .i64 sa) ∧ w'.cell? ⟨wr.heap.size, 3, none⟩ = some (.int .i64 sb) ∧ w'.cell? ⟨wr.heap.size, 4, none⟩ = some (.slice C mc cc) ∧ w'.cell? ⟨wr.heap.size, 5, none⟩ = some (.slice FA l d) ∧
              w'.cell? ⟨w7.heap.size, 0, none⟩ = some (.int .i64 E) ∧ w'.cell? ⟨w7.heap.size, 1, none⟩ = some (.int .i64 TX) ∧ w'.cell? ⟨w7.heap.size, 2, none⟩ = some (.int .i64 TY) ∧ w'.cell? ⟨w7.heap.size, 3, none⟩ = some (.int .i64 TZ) ∧ w'.cell? ⟨w7.heap.size, 4, none⟩ = some (.slice A7 m7 c7) ∧ w'.cell? ⟨w7.heap.size, 5, none⟩ = some (.slice B7 n7 d7))
              (first | exact boxes_at (kS.keep hb4) (kT.keep hb4) | exact boxes_at kS kT | exact boxes_at HB8.out.1 HB8.out.2 | exact boxes_at (HB8.out.1.keep (below_drew7 w8 _)) (HB8.out.2.keep (below_drew7 w8 _)))
              (first | (go_at_call 16; refine (HSC.out _ (Below.refl _ w8).drew).mono ?_; rintro e w3 ⟨v3, rfl, ht3, htt3, kS, kT, S3⟩) | (go_at_call 35; refine (alike_same _ _ _ _ ht3 htt3 (by simp only [HTS.out]; simp)).mono ?_; rintro e w4 ⟨rfl, hb4⟩))
            have S11 := (S3.keep hb4).swap
            have HS11 := Lib.hid S11
            clear S11 S3 hb4 ht3 htt3 kS kT HSC y0 y1 y2 y3 y4 y5 yf z0 z1 z2 z3 z4 z5 zf
            go_wp2_with fail
            go_roundw
            case rel => exact ⟨k + 1, _, _, hlt, by go_num, by rw [HK2.out]; exact HS11.out, HSM11, Lib.hid hPn8⟩
            case measure => simp [intOf]; omega
          · have HSM11 := Lib.hid (sm_step_off HSM.out ⟨sk, si, sa, sb, sp, sf⟩ h7 h8 (fun h0 h6 e => hin ⟨⟨h0, h6⟩, e⟩))
            by_cases hi0 : 0 ≤ sk
            · by_cases hi6 : sk ≤ 6
              · have hne : ¬ si = (mi : Int) := fun e => hin ⟨⟨hi0, hi6⟩, e⟩
                go_wp2_with fail
                go_roundw
                case rel => exact ⟨k + 1, _, _, hlt, by go_num, by rw [HK2.out]; exact HS8.out.mono HLK.out.2, HSM11, Lib.hid hPn8⟩
                case measure => simp [intOf]; omega
              · go_wp2_with fail
                go_roundw
                case rel => exact ⟨k + 1, _, _, hlt, by go_num, by rw [HK2.out]; exact HS8.out.mono HLK.out.2, HSM11, Lib.hid hPn8⟩
                case measure => simp [intOf]; omega
            · go_wp2_with fail
              go_roundw
              case rel => exact ⟨k + 1, _, _, hlt, by go_num, by rw [HK2.out]; exact HS8.out.mono HLK.out.2, HSM11, Lib.hid hPn8⟩
              case measure => simp [intOf]; omega
      · obtain rfl : k = n := by omega
        go_wp2_with fail
        go_ret
        exact ⟨rfl, hS.low⟩
end Go.Proofs.Ytodaplkijdjbpaa
