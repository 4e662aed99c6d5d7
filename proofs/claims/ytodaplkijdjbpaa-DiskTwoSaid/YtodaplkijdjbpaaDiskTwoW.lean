/- DiskTwo, walked. -/
import Derived.Test.YtodaplkijdjbpaaDuo
namespace Go.Proofs.Ytodaplkijdjbpaa
open Go.RowKit
set_option linter.unusedVariables false
set_option linter.unusedSimpArgs false
set_option maxRecDepth 100000 in
set_option maxHeartbeats 3200000 in
theorem diskTwo_any (A : Option Addr) (n c : Nat) (ss : List Ps) (w : World) (h : Script w A n ss) (hn : n ≤ 140737488351232) :
    Calls Try.prog 8 #[.slice A n c] w fun e w' => e = .returned (.bool true) ∧ Below w.heap.size w w' := by
  have hl := Lib.hid h.1
  have x1 := below_alloc w (.cells #[.slice A n c] 23)
  have k1 := Blk.fresh w #[.slice A n c] 23
  have hv := vast_any w.heap.size 1 1 (fun _ => ⟨A, n, c, ss⟩) (w.alloc (.cells #[.slice A n c] 23)) (fun j hj => by obtain rfl : j = 0 := (by omega); exact ⟨k1.cell 0, h.below x1, hn⟩) (by omega)
  have HV := Lib.hid hv
  have HH := Lib.hid h
  clear hv k1 h
  go_enter Try.func8, Try.ntmps8
  go_wp2_with fail
  refine HV.out.mono ?_
  rintro e w1 ⟨b, rfl, hb1, htot⟩
  have hB1 := below_then x1 hb1 x1.size
  cases b with
  | true =>
    go_wp2_with fail
    go_ret
    exact ⟨rfl, hB1⟩
  | false =>
    have htot := htot rfl
    simp only [tot, Nat.zero_add] at htot
    have HTOT := Lib.hid htot
    clear htot HV x1 hb1
    go_wp2_with fail
    go_loopw [3, 4, 17] (fun dv wv iv wr => ∃ k : Nat, ∃ D dc W wc G pb ls A Fr, k ≤ 2 ∧ iv = .int .i64 k ∧ dv = .slice D k dc ∧ wv = .slice W k wc ∧ Hid (Su w wr k D dc W wc G pb ls A Fr)) (fun _ _ iv _ => 2 - (intOf iv).toNat)
    case atStart => exact ⟨0, _, _, _, _, _, _, _, _, _, by omega, rfl, rfl, rfl, Lib.hid (Su.start hB1)⟩
    case round =>
      clear hB1
      obtain ⟨k, D, dc, W, wc, G, pb, ls, A0, Fr, hk, rfl, rfl, rfl, HSU⟩ := hrel
      by_cases hlt : k < 2
      · obtain ⟨m, hm⟩ : ∃ m : Nat, 2 + k = m := ⟨_, rfl⟩
        have hm2 : 2 + (k : Int) = (m : Int) := by omega
        have HM := Lib.hid hm
        have hm1 : 1 ≤ m := by omega
        have hm16 : m ≤ 16 := by omega
        clear hm
        go_wp2_with fail
        refine (refNew_any m wr hm1 hm16).mono ?_
        rintro e w2 ⟨q, rfl, hra, hb2⟩
        have x2 := below_alloc w2 (.cells #[.slice (some ⟨q, 0, none⟩) m m, .bool false] 48)
        have b2 := Blk.fresh w2 #[.slice (some ⟨q, 0, none⟩) m m, .bool false] 48
        have hB3 := below_then hb2 x2 hb2.size
        have hra3 := hra.at_.below x2
        clear hra
        go_wp2_with fail
        refine (diskNew_any m _ hm1 hm16).mono ?_
        rintro e w4 ⟨H, qb, gs, rfl, hd, hb4, hk4⟩
        have hra4 := hra3.below hb4
        have b4 := b2.keep hb4
        have hB4 := below_then hB3 hb4 hB3.size
        have HD4 := Lib.hid (hd 0)
        have HK4 : Hid (∀ x, dF H qb (fun j => ⟨gs j, none, 0⟩) m x → w2.heap.size < x) := Lib.hid (fun x e => by have := hk4 x e; rw [World.size_alloc] at this; omega)
        have HRA := Lib.hid hra4
        have HB4 := Lib.hid hB4
        have hz2 : w2.heap.size < w4.heap.size := b4.lt
        have HZ2 := Lib.hid (And.intro hb2.size hz2)
        clear hd hk4 hra4 hra3 b2 x2 hB3 hb2 hb4 hz2
        go_upto_region 12 with fail
        generalize w2.heap.size = gW at *
        have c0 : w4.cell? ⟨gW, 0, none⟩ = some (.slice (some ⟨q, 0, none⟩) m m) := b4.cell 0
        have c1 : w4.cell? ⟨gW, 1, none⟩ = some (.bool false) := b4.cell 1
        have hrd := own_below HSU.out.rd hB4
        have hrw := own_below HSU.out.rw hB4
        have hGW : ¬ (Value.ownBlock (.slice D k dc) = some gW ∨ Value.ownBlock (.slice W k wc) = some gW) := by
          have h1 := HZ2.out.1
          rintro (e | e)
          · have := (HSU.out.rd.lt _ e).2; omega
          · have := (HSU.out.rw.lt _ e).2; omega
        obtain ⟨y1, l1, y2, l2, l3⟩ := lits w4 #[.pointer (some ⟨H, 0, none⟩)] #[.slice (some ⟨q, 0, none⟩) m m, .bool false] 26 48
        obtain ⟨y3, l4, y4, l5, l6⟩ := lits w4 #[.slice (some ⟨q, 0, none⟩) m m, .bool false] #[.pointer (some ⟨H, 0, none⟩)] 48 26
        have hw4 : w.heap.size ≤ w4.heap.size := by have := HSU.out.low.size; have := hB4.size; omega
        have HC0 := Lib.hid (And.intro c0 c1)
        obtain ⟨FF, hFF⟩ : ∃ FF : Nat → Prop, (fun x => Value.ownBlock (.slice D k dc) = some x ∨ Value.ownBlock (.slice W k wc) = some x) = FF := ⟨_, rfl⟩
        have hGF : ¬ FF gW := by rw [← hFF]; exact hGW
        have HFD : ∀ x, Value.ownBlock (.slice D k dc) = some x → FF x := fun x e => by rw [← hFF]; exact .inl e
        have HFW : ∀ x, Value.ownBlock (.slice W k wc) = some x → FF x := fun x e => by rw [← hFF]; exact .inr e
        have HFF := Lib.hid hFF
        have HLD : ∀ x, Value.ownBlock (.slice D k dc) = some x → x < w4.heap.size := fun x e => (hrd.lt x e).2
        have HAP : ∀ x, Value.ownBlock (.slice W k wc) = some x → ¬ Value.ownBlock (.slice D k dc) = some x := fun x e e2 => own_two hrd hrw (by decide) x e2 e
        have C1 : Chg FF w4 _ := chg_below y1 _
        have C2 : Chg FF w4 _ := chg_below y2 _
        have C3 : Chg FF w4 _ := chg_below y3 _
        have C4 : Chg FF w4 _ := chg_below y4 _
        clear hFF hGW
        go_region_held3 (fun w' => w'.cell? ⟨gW, 0, none⟩ = some (.slice (some ⟨q, 0, none⟩) m m) ∧ w'.cell? ⟨gW, 1, none⟩ = some (.bool false) ∧ Chg FF w4 w')
          (first | with_reducible exact kT | with_reducible exact kS | with_reducible exact kU | with_reducible exact kV | with_reducible exact keepC hGF HC0.out.1 HC0.out.2 C1 | with_reducible exact keepC hGF HC0.out.1 HC0.out.2 C2 | with_reducible exact keepC hGF HC0.out.1 HC0.out.2 C3 | with_reducible exact keepC hGF HC0.out.1 HC0.out.2 C4 | with_reducible exact keepC hGF HC0.out.1 HC0.out.2 (Chg.refl _ _) | with_reducible exact keepC hGF HC0.out.1 HC0.out.2 ((Chg.refl _ _).then_ (Below.refl _ _).drew))
          (first
            | (refine step_append_any _ (by rfl) _ _ 70 (by rfl) w.heap.size 26 _ 1 8 Try.underlying70 info_dp rfl (by decide) (.slice D k dc) k (drv G k) (by rfl) (by first | with_reducible exact own_below hrd y1 | with_reducible exact own_below hrd y2 | with_reducible exact own_below hrd y4) _ 1 1 [.pointer (some ⟨H, 0, none⟩)] (by rfl) (by first | exact rdc_lit l1 | exact rdc_lit l2 | exact rdc_lit l6) (by simp [Value.oneCell']) (by decide) (by decide) (by omega) (by first | with_reducible exact Nat.le_trans hw4 y1.size | with_reducible exact Nat.le_trans hw4 y2.size | with_reducible exact Nat.le_trans hw4 y4.size) ?_; intro D5 dc5 w5 ho5 hg5 hne5 hnn5; have hC5 : Chg FF w4 w5 := (by first | exact C1.trans (chg_grown hg5) (fun x e => .inl (HFD x e)) | exact C2.trans (chg_grown hg5) (fun x e => .inl (HFD x e)) | exact C4.trans (chg_grown hg5) (fun x e => .inl (HFD x e))); have kS := keepC hGF HC0.out.1 HC0.out.2 hC5; have x6 := below_alloc w5 (.cells #[.slice (some ⟨q, 0, none⟩) m m, .bool false] 48); have kV := keepC hGF HC0.out.1 HC0.out.2 (hC5.then_ x6); have kU := keepC hGF HC0.out.1 HC0.out.2 (hC5.then_ x6.drew);
               have hrw5 : w5.ownsRow w.heap.size 48 2 (.slice W k wc) k (wrv A0 k) := (by first | exact own_chg (own_below hrw y1) (chg_grown hg5) HAP | exact own_chg (own_below hrw y2) (chg_grown hg5) HAP | exact own_chg (own_below hrw y4) (chg_grown hg5) HAP);
               have hod5 : Value.ownBlock (.slice D5 (k + 1) dc5) = Value.ownBlock (.slice D k dc) ∨ ∃ b, Value.ownBlock (.slice D5 (k + 1) dc5) = some b ∧ w4.heap.size ≤ b := hne5.imp id (fun ⟨b, e, h⟩ => ⟨b, e, Nat.le_trans (by first | exact y1.size | exact y2.size | exact y4.size) h⟩);
               first | (have q5 := rdc_lit (l3.chg (chg_grown hg5) (fun e => by have := HLD _ e; omega))) | (have q5 := rdc_lit (l5.chg (chg_grown hg5) (fun e => by have := HLD _ e; omega))) | skip)
            | (refine step_append_any _ (by rfl) _ _ 71 (by rfl) w.heap.size 48 _ 2 32 Try.underlying71 info_rd rfl (by decide) (.slice W k wc) k (wrv A0 k) (by rfl) (by first | with_reducible exact hrw5 | with_reducible exact own_below hrw5 x6 | with_reducible exact own_below hrw5 x6.drew) _ 1 1 [.slice (some ⟨q, 0, none⟩) m m, .bool false] (by rfl) (by first | exact q5 | exact rdc_lit (Blk.fresh w5 _ _) | exact rdc_lit ((Blk.fresh w5 _ _).keep (Below.refl _ _).drew)) (by simp [Value.oneCell']) (by decide) (by decide) (by omega) (by first | with_reducible exact Nat.le_trans hw4 hC5.size | with_reducible exact Nat.le_trans hw4 (hC5.then_ x6).size | with_reducible exact Nat.le_trans hw4 (hC5.then_ x6.drew).size) ?_; intro W7 wc7 w7 ho7 hg7 hne7 hnn7;
               have hC7 : Chg FF w4 w7 := (by first | exact hC5.trans (chg_grown hg7) (fun x e => .inl (HFW x e)) | exact (hC5.then_ x6).trans (chg_grown hg7) (fun x e => .inl (HFW x e)) | exact (hC5.then_ x6.drew).trans (chg_grown hg7) (fun x e => .inl (HFW x e))); have kT := keepC hGF HC0.out.1 HC0.out.2 hC7;
               have ho57 : w7.ownsRow w.heap.size 26 1 (.slice D5 (k + 1) dc5) (k + 1) (drv G k ++ [.pointer (some ⟨H, 0, none⟩)]) := (by first | exact own_chg ho5 (chg_grown hg7) (fun x e e2 => own_two ho5 hrw5 (by decide) x e e2) | exact own_chg (own_below ho5 x6) (chg_grown hg7) (fun x e e2 => own_two ho5 hrw5 (by decide) x e e2) | exact own_chg (own_below ho5 x6.drew) (chg_grown hg7) (fun x e e2 => own_two ho5 hrw5 (by decide) x e e2));
               have how7 : Value.ownBlock (.slice W7 (k + 1) wc7) = Value.ownBlock (.slice W k wc) ∨ ∃ b, Value.ownBlock (.slice W7 (k + 1) wc7) = some b ∧ w4.heap.size ≤ b := hne7.imp id (fun ⟨b, e, h⟩ => ⟨b, e, Nat.le_trans (by first | exact hC5.size | exact (hC5.then_ x6).size | exact (hC5.then_ x6.drew).size) h⟩)))
        all_goals
          have hm := HM.out
          subst hm
          have hz2 := HZ2.out
          have HS := Lib.hid (HSU.out.add HB4.out HRA.out (fun x e => ⟨e.1, by omega⟩) HD4.out (fun x e => by have := HK4.out x e; exact ⟨by omega, by omega⟩) (by rw [HFF.out]; exact hC7) ho57 ho7 hod5 how7)
          clear ho57 ho7 hod5 how7 hC7 kT kS kU kV x6 hrw5 hC5 ho5 hg5 hg7 hne5 hne7 hnn5 hnn7 y1 y2 y3 y4 l1 l2 l3 l4 l5 l6 C1 C2 C3 C4 hrd hrw HLD HAP HFD HFW
          go_wp2_with fail
          go_roundw
          case rel => exact ⟨k + 1, _, _, _, _, _, _, _, _, _, hlt, by go_num, rfl, rfl, HS⟩
          case measure => simp [intOf]; omega
      · obtain rfl : k = 2 := by omega
        obtain ⟨bd, bw, rfl, rfl, hDuo⟩ := HSU.out.duo
        have HD0 := Lib.hid hDuo
        clear hDuo HSU hlt hk
        rw [show ((2 : Nat) : Int) = (2 : Int) from rfl]
        go_wp2_with fail
        go_loopw [45] (fun iv wx => ∃ k : Nat, ∃ P A1 c1 Fx, k ≤ n ∧ iv = .int .i64 k ∧ Hid (Duo w wx G pb P (wrN ss k) Fx A1 c1 bd bw)) (fun iv _ => n - (intOf iv).toNat)
        case atStart => exact ⟨0, _, _, _, _, Nat.zero_le _, rfl, HD0⟩
        case round =>
          clear HD0
          obtain ⟨k, P, A1, c1, Fx, hk, rfl, HD⟩ := hrel
          by_cases hlt : k < n
          · have hBr := HD.out.two.low
            obtain ⟨b, o, s, C, mc, cc, FA, l, d, rfl, hsk, q0, q1, q2, q3, q4, q5, hpsA, hlm, hfa, hml⟩ := Script.at_all HH.out hBr k hlt
            have hsu := wrN_succ ss k s hsk
            have hmo := wrN_mono ss (k + 1) n hlt (by rw [hl.out]; exact Nat.le_refl _)
            obtain ⟨K1, hK1⟩ : ∃ K1, wrN ss k = K1 := ⟨_, rfl⟩
            obtain ⟨K2, hK2⟩ : ∃ K2, wrN ss (k + 1) = K2 := ⟨_, rfl⟩
            have hL : K1 + s.p.length + 1 ≤ K2 := by omega
            have hL2 : K2 ≤ 2147483648 := by have := HTOT.out; omega
            have HK2 := Lib.hid hK2
            have hD := HD.out
            rw [hK1] at hD
            have j0 : (0 : Int) ≤ (k : Int) := by omega
            have j1 : (k : Int) < (n : Int) := by omega
            obtain ⟨sk, si, sa, sb, sp, sf⟩ := s
            simp only at q0 q1 q2 q3 q4 q5 hlm hfa hL
            obtain ⟨r, hr⟩ : ∃ r, k % 2 = r := ⟨_, rfl⟩
            have hr2 : r < 2 := by omega
            have hrem : (k : Int) % 2 = (r : Int) := by omega
            have hrem2 : Int.tmod (k : Int) 2 = (r : Int) := by rw [Int.tmod_eq_emod_of_nonneg (by omega)]; exact hrem
            have r0 : (0 : Int) ≤ (r : Int) := by omega
            have r1 : (r : Int) < 2 := by omega
            clear hK1 hK2
            have x5 := below_alloc wr (.cells #[.int .i64 sk, .int .i64 si, .int .i64 sa, .int .i64 sb, .slice C mc cc, .slice FA l d] 33)
            have k5 := Blk.fresh wr #[.int .i64 sk, .int .i64 si, .int .i64 sa, .int .i64 sb, .slice C mc cc, .slice FA l d] 33
            have D5 := hD.below x5
            obtain ⟨wb0, wb1, wbf⟩ := D5.wr.cells r hr2
            obtain ⟨e0, e1, e2, e3, e4, e5, ef⟩ := six_cells k5
            have HC := Lib.hid (And.intro wb0 (And.intro wb1 (And.intro e0 (And.intro e1 (And.intro e2 (And.intro e3 (And.intro e4 e5)))))))
            have hps := (hpsA _ D5.two.low)
            have HD5 := Lib.hid D5
            have HK5 := Lib.hid k5
            have HPSA := Lib.hid hpsA
            have HPS := Lib.hid hps
            have HFA := Lib.hid hfa
            have HL := Lib.hid (And.intro hL hL2)
            obtain ⟨T, hT⟩ : ∃ T, (P r).told ⟨sk, si, sa, sb, sp, sf⟩ = T := ⟨_, rfl⟩
            obtain ⟨R, hR⟩ : ∃ R, (P r).step ⟨sk, si, sa, sb, sp, sf⟩ = R := ⟨_, rfl⟩
            have HTR := Lib.hid (And.intro hT hR)
            clear hT hR D5 k5 x5 hpsA hps hfa hL hL2 hsu hmo hD hBr hsk
            go_upto_region 17 with fail
            generalize wr.alloc (.cells #[.int .i64 sk, .int .i64 si, .int .i64 sa, .int .i64 sb, .slice C mc cc, .slice FA l d] 33) = w5 at *
            generalize wr.heap.size = ga at *
            obtain ⟨y1, l1, y2, l2, l3⟩ := lits w5 #[.int .i64 0, .int .i64 0, .int .i64 0, .int .i64 0, .slice none 0 0, .slice none 0 0] #[.slice none 0 0, .bool false] 36 48
            obtain ⟨y3, l4, y4, l5, l6⟩ := lits w5 #[.slice none 0 0, .bool false] #[.int .i64 0, .int .i64 0, .int .i64 0, .int .i64 0, .slice none 0 0, .slice none 0 0] 48 36
            go_cut [12, 13] from 50 to 59 (fun v1 v2 wx => ∃ gt gn A6 c6 Fy A7 m7 c7 B7 n7 d7, v1 = .pointer (some ⟨gt, 0, none⟩) ∧ v2 = .pointer (some ⟨gn, 0, none⟩) ∧ Hid (Duw w wx G pb P K1 Fy A1 c1 bd bw R A6 c6 #[.int .i64 T.e, .int .i64 T.x, .int .i64 T.y, .int .i64 T.z, .slice A7 m7 c7, .slice B7 n7 d7] T ga gt gn #[.int .i64 sk, .int .i64 si, .int .i64 sa, .int .i64 sb, .slice C mc cc, .slice FA l d]))
            case first =>
              go_region_held3 (fun w' => w'.cell? ⟨bw, r * 2, none⟩ = some (.slice (A1 r) (P r).n (c1 r)) ∧ w'.cell? ⟨bw, r * 2 + 1, none⟩ = some (.bool (P r).armed) ∧ w'.cell? ⟨ga, 0, none⟩ = some (.int .i64 sk) ∧ w'.cell? ⟨ga, 1, none⟩ = some (.int .i64 si) ∧ w'.cell? ⟨ga, 2, none⟩ = some (.int .i64 sa) ∧ w'.cell? ⟨ga, 3, none⟩ = some (.int .i64 sb) ∧ w'.cell? ⟨ga, 4, none⟩ = some (.slice C mc cc) ∧ w'.cell? ⟨ga, 5, none⟩ = some (.slice FA l d) ∧ Below w5.heap.size w5 w')
                ((refine keep8 HC.out ?_; repeat' first | with_reducible exact kB | with_reducible exact Below.refl _ _ | with_reducible apply Below.drew | with_reducible apply balloc | with_reducible refine bset ?_ ?_ | (with_reducible exact Nat.le_refl _) | omega))
                (first | (go_at_call 34; refine (want_at HD5.out hr2 HPS.out HL.out.1 (by have := HL.out.2; omega) (by first | with_reducible exact Below.refl _ _ | with_reducible exact (Below.refl _ _).drew | with_reducible exact y1 | with_reducible exact y2 | with_reducible exact y3 | with_reducible exact y4)).mono ?_; rw [HTR.out.1, HTR.out.2]; rintro e w6 ⟨v, A6, c6, rfl, htd, hra, hb6, hb1⟩; have kB := below_then hb1 hb6 hb1.size; have hz6 := kB.size; have htd0 := htd; obtain ⟨A7, m7, c7, B7, n7, d7, rfl, -, -⟩ := htd0; first | (have bt6 := l2.keep hb6; have bn6 := l3.keep hb6; obtain ⟨t0, t1, t2, t3, t4, t5, tf⟩ := six_cells bt6; obtain ⟨n0, n1, nf⟩ := two_cells bn6) | (have bt6 := l6.keep hb6; have bn6 := l5.keep hb6; obtain ⟨t0, t1, t2, t3, t4, t5, tf⟩ := six_cells bt6; obtain ⟨n0, n1, nf⟩ := two_cells bn6) | (have hl6 := (l1.keep hb6).lt; obtain ⟨p0, p1, p2, p3, p4, p5, pf⟩ := six_cells (l1.keep hb6); have hne6 : w5.heap.size ≠ w6.heap.size := Nat.ne_of_lt hl6; have hne7 : w6.heap.size ≠ w5.heap.size := Nat.ne_of_gt hl6; have bt6 := (l1.keep hb6).keep (below_alloc w6 (.cells #[.slice none 0 0, .bool false] 48)); obtain ⟨t0, t1, t2, t3, t4, t5, tf⟩ := six_cells bt6) | (have hl6 := (l4.keep hb6).lt; obtain ⟨p0, p1, pf⟩ := two_cells (l4.keep hb6); have hne6 : w5.heap.size ≠ w6.heap.size := Nat.ne_of_lt hl6; have hne7 : w6.heap.size ≠ w5.heap.size := Nat.ne_of_gt hl6; have bn6 := (l4.keep hb6).keep (below_alloc w6 (.cells #[.int .i64 0, .int .i64 0, .int .i64 0, .int .i64 0, .slice none 0 0, .slice none 0 0] 36)); obtain ⟨n0, n1, nf⟩ := two_cells bn6) | skip))
              · go_wp2_with fail
                go_meet
                refine ⟨_, _, A6, c6, _, A7, m7, c7, B7, n7, d7, rfl, rfl, Lib.hid (duw_of2 HD5.out HK5.out hb1 htd hra hb6 ?_ ?_ ?_)⟩
                · exact .inr (Nat.le_refl _)
                · exact .inr (Nat.le_add_right _ 1)
                · exact two_allocs w6 _ _ _ _ _
              · go_wp2_with fail
                go_meet
                refine ⟨_, _, A6, c6, _, A7, m7, c7, B7, n7, d7, rfl, rfl, Lib.hid (duw_of2 HD5.out HK5.out hb1 htd hra hb6 ?_ ?_ ?_)⟩
                · exact .inr (Nat.le_add_right _ 1)
                · exact .inr (Nat.le_refl _)
                · have L := two_allocs w6 #[.slice A6 R.n c6, .bool R.armed] #[.int .i64 T.e, .int .i64 T.x, .int .i64 T.y, .int .i64 T.z, .slice A7 m7 c7, .slice B7 n7 d7] 48 36 (fun k => k = w6.heap.size + 1 ∨ k = w6.heap.size)
                  exact ⟨L.2.1, L.1, L.2.2⟩
              · go_wp2_with fail
                go_meet
                refine ⟨_, _, A6, c6, _, A7, m7, c7, B7, n7, d7, rfl, rfl, Lib.hid (duw_of2 HD5.out HK5.out hb1 htd hra hb6 ?_ ?_ ?_)⟩
                · exact .inl ⟨Nat.le_refl _, l1.lt⟩
                · exact .inr (Nat.le_refl _)
                · exact set_alloc (l1.keep hb6) (fun k => six_set k _ _ _ _ _ _) (by simp [World.setCell]) (.inl rfl)
              · go_wp2_with fail
                go_meet
                refine ⟨_, _, A6, c6, _, A7, m7, c7, B7, n7, d7, rfl, rfl, Lib.hid (duw_of2 HD5.out HK5.out hb1 htd hra hb6 ?_ ?_ ?_)⟩
                · exact .inl ⟨Nat.le_refl _, l2.lt⟩
                · exact .inl ⟨Nat.le_add_right _ 1, l3.lt⟩
                · exact both_set bt6 bn6 (blk_type bt6 bn6 (by decide)) (fun k => six_set k _ _ _ _ _ _) (fun k => two_set k _ _)
              · go_wp2_with fail
                go_meet
                refine ⟨_, _, A6, c6, _, A7, m7, c7, B7, n7, d7, rfl, rfl, Lib.hid (duw_of2 HD5.out HK5.out hb1 htd hra hb6 ?_ ?_ ?_)⟩
                · exact .inr (Nat.le_refl _)
                · exact .inl ⟨Nat.le_refl _, l4.lt⟩
                · have L := set_alloc (q := #[.int .i64 T.e, .int .i64 T.x, .int .i64 T.y, .int .i64 T.z, .slice A7 m7 c7, .slice B7 n7 d7]) (u := 36) (l4.keep hb6) (fun k => two_set k (.slice A6 R.n c6) (.bool R.armed)) (by simp [World.setCell]) (F := fun k => k = w6.heap.size ∨ k = w5.heap.size) (.inr rfl)
                  exact ⟨L.2.1, L.1, L.2.2⟩
              · go_wp2_with fail
                go_meet
                refine ⟨_, _, A6, c6, _, A7, m7, c7, B7, n7, d7, rfl, rfl, Lib.hid (duw_of2 HD5.out HK5.out hb1 htd hra hb6 ?_ ?_ ?_)⟩
                · exact .inl ⟨Nat.le_add_right _ 1, l6.lt⟩
                · exact .inl ⟨Nat.le_refl _, l5.lt⟩
                · exact both_set bt6 bn6 (blk_type bt6 bn6 (by decide)) (fun k => six_set k _ _ _ _ _ _) (fun k => two_set k _ _)
            case rest =>
              clear y1 l1 y2 l2 l3 y3 l4 y4 l5 l6 e0 e1 e2 e3 e4 e5 ef wb0 wb1 wbf HC HK5 HPS q0 q1 q2 q3 q4 q5
              obtain ⟨gt, gn, A6, c6, Fy, A7, m7, c7, B7, n7, d7, rfl, rfl, HM⟩ := hcut
              have hTS : T.s.length ≤ 281474976710656 := by rw [← HTR.out.1]; exact told_len _ _ (HM.out.duo.at_ hr2).lim
              have HTS := Lib.hid hTS
              have HASK := Lib.hid (ask2_any (HM.out.duo.at_ hr2) (HPSA.out _ HM.out.duo.two.low) HFA.out HL.out.1 (by have := HL.out.2; omega))
              clear hTS
              go_upto_region 18 with fail
              go_region_held3 (fun w' => w'.cell? ⟨bd, r, none⟩ = some (.pointer (some ⟨G r, 0, none⟩)) ∧ w'.cell? ⟨ga, 0, none⟩ = some (.int .i64 sk) ∧ w'.cell? ⟨ga, 1, none⟩ = some (.int .i64 si) ∧ w'.cell? ⟨ga, 2, none⟩ = some (.int .i64 sa) ∧ w'.cell? ⟨ga, 3, none⟩ = some (.int .i64 sb) ∧ w'.cell? ⟨ga, 4, none⟩ = some (.slice C mc cc) ∧ w'.cell? ⟨ga, 5, none⟩ = some (.slice FA l d) ∧
                w'.cell? ⟨gt, 0, none⟩ = some (.int .i64 T.e) ∧ w'.cell? ⟨gt, 1, none⟩ = some (.int .i64 T.x) ∧ w'.cell? ⟨gt, 2, none⟩ = some (.int .i64 T.y) ∧ w'.cell? ⟨gt, 3, none⟩ = some (.int .i64 T.z) ∧ w'.cell? ⟨gt, 4, none⟩ = some (.slice A7 m7 c7) ∧ w'.cell? ⟨gt, 5, none⟩ = some (.slice B7 n7 d7))
                (first | with_reducible exact kB | with_reducible exact kA | with_reducible exact keep13 hr2 HM.out.duo.dr HM.out.bs HM.out.bt (Below.refl _ _) | with_reducible exact keep13 hr2 HM.out.duo.dr HM.out.bs HM.out.bt (Below.refl _ _).drew)
                (first | (go_at_call 16; refine (HASK.out _ (Below.refl _ _).drew).mono ?_; rintro e w3 ⟨v3, rfl, ht3, ha3, hc3, hk3⟩; rw [HTR.out.1] at ht3; have hd3 := HM.out.duo.dr.keep (w1 := w3) (fun cs hc => hk3 _ _ _ hc (by decide) (by decide) (by decide) (by decide)); have kS := hk3 _ _ _ HM.out.bs (by decide) (by decide) (by decide) (by decide); have kT := hk3 _ _ _ HM.out.bt (by decide) (by decide) (by decide) (by decide); have kA := keep13 hr2 hd3 kS kT (Below.refl _ _); have htt3 := (HM.out.td.chg hc3).at_) | (go_at_call 35; refine (alike_same _ _ _ _ ht3 htt3 HTS.out).mono ?_; rintro e w4 ⟨rfl, hb4⟩; have kB := keep13 hr2 hd3 kS kT hb4))
              obtain ⟨nb, wrow, D4⟩ := HM.out.after hr2 ha3 HTR.out.2 hc3 hk3 hb4
              obtain ⟨n0, n1, nf⟩ := two_cells nb
              obtain ⟨o0, o1, of⟩ := wrow.cells r hr2
              have HD4 := Lib.hid D4
              clear D4 nb wrow ht3 ha3 hc3 hk3 hd3 kS kT kA kB htt3 hb4 HASK HM
              go_wp2_with fail
              go_roundw
              case rel => exact ⟨k + 1, _, _, _, _, hlt, by go_num, by rw [HK2.out]; exact HD4⟩
              case measure => simp [intOf]; omega
          · obtain rfl : k = n := by omega
            have hK := HTOT.out
            have hK2 : wrN ss k ≤ 2147483648 := by omega
            clear hlt hk
            go_upto_region 22 with fail
            go_region_held3 (fun w' => w'.cell? ⟨bd, 0, none⟩ = some (.pointer (some ⟨G 0, 0, none⟩)) ∧ w'.cell? ⟨bd, 1, none⟩ = some (.pointer (some ⟨G 1, 0, none⟩)) ∧ w'.cell? ⟨bw, 0, none⟩ = some (.slice (A1 0) (P 0).n (c1 0)) ∧ w'.cell? ⟨bw, 1, none⟩ = some (.bool (P 0).armed) ∧ w'.cell? ⟨bw, 2, none⟩ = some (.slice (A1 1) (P 1).n (c1 1)) ∧ w'.cell? ⟨bw, 3, none⟩ = some (.bool (P 1).armed))
              (first | with_reducible exact kC | with_reducible exact kB | with_reducible exact kA | with_reducible exact rows6 HD.out.dr HD.out.wr (Below.refl _ _) | with_reducible exact rows6 HD.out.dr HD.out.wr (Below.refl _ _).drew)
              (first
                | (go_at_call 24; with_reducible refine (does_first HD.out (Below.refl _ _).drew hK2).mono ?_; rintro e w3 ⟨rfl, h3⟩; have kA := rows6 h3.dr h3.wr (Below.refl _ _))
                | (go_at_call 24; with_reducible refine (does_second h3 hK2).mono ?_; rintro e w4 ⟨rfl, hB4, hd4, hw4⟩; have kB := rows6 hd4 hw4 (Below.refl _ _))
                | (go_at_call 15; refine (fixed_any _).mono ?_; rintro e w5 ⟨rfl, hb5⟩; have kC := rows6 hd4 hw4 hb5))
            have HB5 := Lib.hid (below_then hB4 hb5 hB4.size)
            clear hB4 hb5 kA kB kC h3 hd4 hw4 HD
            go_wp2_with fail
            go_ret
            exact ⟨rfl, HB5.out⟩
end Go.Proofs.Ytodaplkijdjbpaa
