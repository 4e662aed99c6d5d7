/- DiskSafe, walked. -/
import Derived.Test.YtodaplkijdjbpaaSafeP
namespace Go.Proofs.Ytodaplkijdjbpaa
open Go.RowKit
set_option linter.unusedVariables false
set_option linter.unusedSimpArgs false
theorem image_at (P : Pd) (j : Nat) (hj : j < P.n) : P.image.getD j (0, []) = ((P.p j).base, (P.p j).bs.take (P.p j).safe) := by
  simp [Pd.image, Pd.imageK, List.getD_eq_getElem?_getD, hj]
/-- The disk, and what was safe of its two areas. -/
structure SafeS (w wr : World) (G pb q : Nat) (P : Pd) (K : Nat) (F : Nat → Prop) (R : Nat → Rw) : Prop where
  apt : Apt w wr G pb P K F
  n2 : P.n = 2
  box : Blk wr q #[(R 0).val, (R 1).val] 31
  q0 : w.heap.size ≤ q
  o0 : Out F wr (R 0).A (R 0).n (R 0).bs
  o1 : Out F wr (R 1).A (R 1).n (R 1).bs
  inv : SInv P (fun i => (R i).bs)
section
variable {w wr w1 : World} {G pb q K L : Nat} {P Q : Pd} {F : Nat → Prop} {R : Nat → Rw}
theorem SafeS.below (h : SafeS w wr G pb q P K F R) (hb : Below wr.heap.size wr w1) : SafeS w w1 G pb q P K (fun k => F k ∨ (wr.heap.size ≤ k ∧ k < w1.heap.size)) R :=
  ⟨h.apt.below hb, h.n2, h.box.keep hb, h.q0, (h.o0.below hb).mono (fun k e => .inl e), (h.o1.below hb).mono (fun k e => .inl e), h.inv⟩
theorem SafeS.mono (h : SafeS w wr G pb q P K F R) (hk : K ≤ L) : SafeS w wr G pb q P L F R := ⟨h.apt.mono hk, h.n2, h.box, h.q0, h.o0, h.o1, h.inv⟩
theorem SafeS.next (h : SafeS w wr G pb q P K F R) : ∃ ls, DAt wr G pb ls P K ∧ (w.heap.size ≤ G ∧ w.heap.size ≤ pb) ∧ ∀ Q L w', DTo wr G pb ls Q L w' P.n → Q.n = P.n → SInv Q (fun i => (R i).bs) → SafeS w w' G pb q Q L F R := by
  obtain ⟨ls, hd, hg, nx⟩ := h.apt.next
  refine ⟨ls, hd, hg, fun Q L w' ht hn hi => ?_⟩
  obtain ⟨ha, hc, hb⟩ := nx Q L w' ht hn
  exact ⟨ha, hn.trans h.n2, ht.blk hd h.box (by decide) (by decide) (by decide) (by decide), h.q0, h.o0.chg hc, h.o1.chg hc, hi⟩
theorem SafeS.lim (h : SafeS w wr G pb q P K F R) : P.lim K := h.apt.lim
theorem SafeS.cell_at (h : SafeS w wr G pb q P K F R) (i : Nat) (hi : i < 2) : wr.cell? ⟨q, i, none⟩ = some (.slice (R i).A (R i).n (R i).c) := by
  match i, hi with
  | 0, _ => exact h.box.cell 0
  | 1, _ => exact h.box.cell 1
theorem SafeS.out_at (h : SafeS w wr G pb q P K F R) (i : Nat) (hi : i < 2) : Out F wr (R i).A (R i).n (R i).bs := by
  match i, hi with
  | 0, _ => exact h.o0
  | 1, _ => exact h.o1
/-- A row is put into its place. -/
theorem SafeS.put (h : SafeS w wr G pb q P K F R) (i : Nat) (hi : i < 2) (r : Rw) (ho : Out F wr r.A r.n r.bs) (hv : SInv P (upd (fun i => (R i).bs) i r.bs)) : SafeS w (wr.setCell ⟨q, i, none⟩ r.val) G pb q P K F (upd R i r) := by
  have hc := chg_set wr q i r.val
  have ha := h.apt.other hc (fun k e => by subst e; exact ⟨_, _, h.box, by decide, by decide, by decide, by decide⟩) (fun k e => by subst e; exact h.q0)
  have hcF : ∀ {A : Option Addr} {l : Nat} {bs : List UInt8}, Out F wr A l bs → (∀ k, blkO A = some k → l ≠ 0 → k ≠ q) → Out F (wr.setCell ⟨q, i, none⟩ r.val) A l bs := fun {A l bs} h1 h2 => by
    refine ⟨?_, h1.2⟩
    by_cases h0 : l = 0
    · exact ⟨h1.1.1, h1.1.2.1, .inl h0⟩
    · exact h1.1.chg hc (fun k e e2 => h2 k e h0 e2)
  have hne : ∀ {A : Option Addr} {l : Nat} {bs : List UInt8}, Out F wr A l bs → ∀ k, blkO A = some k → l ≠ 0 → k ≠ q := fun {A l bs} h1 k e h0 e2 => by
    subst e2
    rcases h1.1.2.2 with h2 | ⟨b, o, rfl, h2⟩
    · exact h0 h2
    · injection e with e
      simp only at e
      subst e
      have h3 := h2 0 (by omega)
      rw [h.box.cell] at h3
      have hb0 := h.box.cell (o + 0)
      rcases Nat.eq_zero_or_pos o with e0 | e0
      · subst e0; simp [Rw.val] at h3
      · rcases Nat.lt_or_ge o 2 with e1 | e1
        · obtain rfl : o = 1 := by omega
          simp [Rw.val] at h3
        · simp [show ¬ o < 2 by omega] at h3
  have hbx := h.box.set i r.val
  refine ⟨ha, h.n2, ?_, h.q0, ?_, ?_, ?_⟩
  · match i, hi with
    | 0, _ => exact hbx
    | 1, _ => exact hbx
  · match i, hi with
    | 0, _ => exact hcF ho (hne ho)
    | 1, _ => exact hcF h.o0 (hne h.o0)
  · match i, hi with
    | 0, _ => exact hcF h.o1 (hne h.o1)
    | 1, _ => exact hcF ho (hne ho)
  · intro j hj
    obtain ⟨t, ht⟩ := hv j hj
    refine ⟨t, ht.trans ?_⟩
    by_cases e : j = i
    · subst e; simp only [upd_same]
    · simp only [upd_other _ _ _ _ e]
end
set_option maxRecDepth 100000 in
set_option maxHeartbeats 3200000 in
theorem diskSafe_any (A : Option Addr) (n c : Nat) (ss : List Ps) (A2 : Option Addr) (n2 c2 : Nat) (fs : List Ft) (w : World) (h : Script w A n ss) (hn : n ≤ 140737488351232) (hf : FtAt w A2 n2 fs) :
    Calls Try.prog 4 #[.slice A n c, .slice A2 n2 c2] w fun e w' => e = .returned (.bool true) ∧ Below w.heap.size w w' := by
  have hl := Lib.hid h.1
  have HF := Lib.hid hf
  clear hf
  have x1 := below_alloc w (.cells #[.slice A n c] 23)
  have k1 := Blk.fresh w #[.slice A n c] 23
  have hv := vast_any w.heap.size 1 1 (fun _ => ⟨A, n, c, ss⟩) (w.alloc (.cells #[.slice A n c] 23)) (fun j hj => by obtain rfl : j = 0 := (by omega); exact ⟨k1.cell 0, h.below x1, hn⟩) (by omega)
  have HV := Lib.hid hv
  clear hv k1
  go_enter Try.func4, Try.ntmps4
  go_wp2_with fail
  refine HV.out.mono ?_
  rintro e w1 ⟨b, rfl, hb1, htot⟩
  have hB1 := below_then x1 hb1 x1.size
  cases b with
  | true =>
    go_wp2_with fail
    go_ret
    exact ⟨rfl, hB1⟩
  | false =>
    have htot := htot rfl
    simp only [tot, Nat.zero_add] at htot
    have HTOT := Lib.hid htot
    clear htot HV x1 hb1
    go_wp2_with fail
    refine (diskNew_any 2 w1 (by omega) (by omega)).mono ?_
    rintro e w2 hh
    obtain ⟨G, pb, rfl, hb2, hA⟩ := apt_new hB1 hh
    have hA2 := (hA 0).sub (F' := fun k => False) (fun k e => e.elim)
    clear hh hA
    go_wp2_with fail
    refine (fixed_any _).mono ?_
    rintro e w3 ⟨rfl, hb3⟩
    have hA3 := (hA2.below hb3).sub (F' := fun k => False) (fun k e => e.elim)
    have hB3 := hA3.low
    have x4 := below_alloc w3 (.cells #[.slice none 0 0, .slice none 0 0] 31)
    have hA4 := (hA3.below x4).sub (F' := fun k => False) (fun k e => e.elim)
    have hS4 : SafeS w _ G pb w3.heap.size (Pd.new 2) 0 (fun k => False) (fun _ => ⟨none, 0, 0, []⟩) := ⟨hA4, rfl, Blk.fresh w3 #[.slice none 0 0, .slice none 0 0] 31, hB3.size, Out.nil _ _ _, Out.nil _ _ _, fun i hi => ⟨[], rfl⟩⟩
    have hq : w.heap.size ≤ w3.heap.size := hB3.size
    clear hA2 hA3 hA4 hb2 hb3
    go_wp2_with fail
    clear x4 htot hB1 hB3
    generalize w3.alloc (.cells #[.slice none 0 0, .slice none 0 0] 31) = w4 at *
    generalize w3.heap.size = q at *
    go_loopw [35] (fun i wr => ∃ k : Nat, ∃ P F R, k ≤ n ∧ i = .int .i64 k ∧ SafeS w wr G pb q P (wrN ss k) F R) (fun i _ => n - (intOf i).toNat)
    case atStart => exact ⟨0, _, _, _, Nat.zero_le _, rfl, hS4⟩
    case round =>
      clear hS4
      obtain ⟨k, P, F, R, hk, rfl, hS⟩ := hrel
      by_cases hlt : k < n
      · have hBr := hS.apt.low
        obtain ⟨b, o, s, C, m, cc, FA, l, d, rfl, hs, q0, q1, q2, q3, q4, q5, hps, hm, hfa, hml⟩ := Script.at_ h hBr k hlt
        have hsu := wrN_succ ss k s hs
        have hmo := wrN_mono ss (k + 1) n hlt (by rw [hl.out]; exact Nat.le_refl _)
        have HSU := Lib.hid hsu
        have hL : wrN ss k + s.p.length + 1 ≤ wrN ss (k + 1) := by omega
        have hL2 : wrN ss (k + 1) ≤ 1073741824 := by have := HTOT.out; omega
        have j0 : (0 : Int) ≤ (k : Int) := by omega
        have j1 : (k : Int) < (n : Int) := by omega
        obtain ⟨sk, si, sa, sb, sp, sf⟩ := s
        simp only at q0 q1 q2 q3 q4 q5 hm hfa hL
        have HPS := Lib.hid hps
        have HFA := Lib.hid hfa
        clear hps hsu hmo hs hm hfa
        have x5 := below_alloc wr (.cells #[.int .i64 sk, .int .i64 si, .int .i64 sa, .int .i64 sb, .slice C m cc, .slice FA l d] 33)
        have hS5 := hS.below x5
        have k5 := Blk.fresh wr #[.int .i64 sk, .int .i64 si, .int .i64 sa, .int .i64 sb, .slice C m cc, .slice FA l d] 33
        have hps5 := HPS.out.below x5
        by_cases hk2 : sk = 2
        · subst hk2
          go_wp2_with fail
          go_roundw
          case rel => exact ⟨k + 1, P, _, R, hlt, by go_num, hS5.mono (by omega)⟩
          case measure => simp [intOf]; omega
        by_cases hk3 : sk = 3
        · subst hk3
          go_wp2_with fail
          go_roundw
          case rel => exact ⟨k + 1, P, _, R, hlt, by go_num, hS5.mono (by omega)⟩
          case measure => simp [intOf]; omega
        obtain ⟨ls, hD, ⟨hg1, hg2⟩, nx⟩ := hS5.next
        have hcall := call_any hD hps5 (fun hne q' hq' => by have := HFA.out hne q' hq'; exact ⟨by omega, by omega⟩) hL (by omega)
        have hkd2 : (sk == 2) = false := by rw [beq_eq_false_iff_ne]; exact hk2
        have hkd3 : (sk == 3) = false := by rw [beq_eq_false_iff_ne]; exact hk3
        have HCALL := Lib.hid hcall
        have HNX := Lib.hid nx
        have HD := Lib.hid hD
        have HS5 := Lib.hid hS5
        have HK5 := Lib.hid k5
        clear hcall nx hS hps5 hD hS5 k5 hBr x5
        go_wp2_with fail
        refine HCALL.out.mono ?_
        rintro e w6 ⟨v, rfl, ⟨A6, m6, c6, B6, n6, d6, rfl, -, -⟩, hT⟩
        have hS6 := HNX.out _ _ _ hT (P.step_n _) (inv_step HS5.out.inv HS5.out.lim _ hk2 hk3)
        have k6 := hT.blk HD.out HK5.out (by decide) (by decide) (by decide) (by decide)
        obtain ⟨E, hE⟩ : ∃ E, (P.told ⟨sk, si, sa, sb, sp, sf⟩).e = E := ⟨_, rfl⟩
        have HSY : sk = 1 → E = 0 → ∃ j : Nat, si = j ∧ j < P.n ∧ ((P.step ⟨sk, si, sa, sb, sp, sf⟩).p j).safe = ((P.step ⟨sk, si, sa, sb, sp, sf⟩).p j).bs.length := fun h1 h2 => sync_done (s := ⟨sk, si, sa, sb, sp, sf⟩) h1 (hE.trans h2)
        have HST : sk = 8 → ∀ j, j < P.n → ((P.step ⟨sk, si, sa, sb, sp, sf⟩).p j).safe = ((P.step ⟨sk, si, sa, sb, sp, sf⟩).p j).bs.length := fun h1 => by
          subst h1
          have e8 : P.step ⟨8, si, sa, sb, sp, sf⟩ = P.strike := by simp [Pd.step]
          rw [e8]
          exact (inv_strike HS5.out.inv HS5.out.lim).2
        rw [hE]
        have hn2 : P.n = 2 := HS5.out.n2
        rw [hn2] at HSY HST
        generalize P.step ⟨sk, si, sa, sb, sp, sf⟩ = Q at *
        generalize (P.told ⟨sk, si, sa, sb, sp, sf⟩).x = TX at *
        generalize (P.told ⟨sk, si, sa, sb, sp, sf⟩).y = TY at *
        generalize (P.told ⟨sk, si, sa, sb, sp, sf⟩).z = TZ at *
        have x7 := below_alloc w6 (.cells #[.int .i64 E, .int .i64 TX, .int .i64 TY, .int .i64 TZ, .slice A6 m6 c6, .slice B6 n6 d6] 36)
        have hS7 := hS6.below x7
        have k7 := k6.keep x7
        have t7 := Blk.fresh w6 #[.int .i64 E, .int .i64 TX, .int .i64 TY, .int .i64 TZ, .slice A6 m6 c6, .slice B6 n6 d6] 36
        have hSY := Lib.hid HSY
        have hST := Lib.hid HST
        clear HCALL HNX HD HS5 HK5 hT hS6 k6 HSY HST hE q0 q1 q2 q3 q4 q5 HPS HFA hkd2 hkd3 x7
        obtain ⟨y0, y1, y2, y3, y4, y5, yf⟩ := six_cells k7
        obtain ⟨z0, z1, z2, z3, z4, z5, zf⟩ := six_cells t7
        by_cases hk8 : sk = 8
        · subst hk8
          have hfull := Lib.hid (hST.out rfl)
          go_wp2_with fail
          have hQ2 := hS7.n2
          have HK7 := Lib.hid (And.intro k7 t7)
          have HBK := Lib.hid hS7
          generalize w6.alloc (.cells #[.int .i64 E, .int .i64 TX, .int .i64 TY, .int .i64 TZ, .slice A6 m6 c6, .slice B6 n6 d6] 36) = w7 at *
          generalize w6.heap.size = t10 at *
          generalize wr.heap.size = t9 at *
          clear k7 t7 hS7 y0 y1 y2 y3 y4 y5 yf z0 z1 z2 z3 z4 z5 zf hSY hST
          go_loopw [53] (fun i wx => ∃ u : Nat, ∃ F R, u ≤ 2 ∧ i = .int .i64 u ∧ SafeS w wx G pb q Q (wrN ss (k + 1)) F R ∧ Hid (Blk wx t9 #[.int .i64 8, .int .i64 si, .int .i64 sa, .int .i64 sb, .slice C m cc, .slice FA l d] 33 ∧ Blk wx t10 #[.int .i64 E, .int .i64 TX, .int .i64 TY, .int .i64 TZ, .slice A6 m6 c6, .slice B6 n6 d6] 36)) (fun i _ => 2 - (intOf i).toNat)
          case atStart => exact ⟨0, _, R, by omega, rfl, HBK.out, HK7⟩
          case round =>
            clear HBK HK7
            obtain ⟨u, F2, R2, hu, rfl, hSx, HKx⟩ := hrel
            by_cases hu2 : u < 2
            · obtain ⟨ls2, hD2, -, -⟩ := hSx.next
              have hof := bytesOf_any hD2 (by omega) u (by omega)
              have hfu := hfull.out u hu2
              obtain ⟨t, ht⟩ := hSx.inv u (by omega)
              rw [hfu, List.take_length] at ht
              have hlenL := (hSx.lim.a u (by omega)).n
              have hinv2 := inv_set hSx.inv u hfu
              have hou := hSx.out_at u hu2
              have hcu := hSx.cell_at u hu2
              generalize Q.p u = pa at *
              obtain ⟨len, hlen⟩ : ∃ len, pa.bs.length = len := ⟨_, rfl⟩
              have HS := Lib.hid (And.intro hfu hlen)
              rw [hlen] at hlenL
              have hRn := hou.1.1
              have hle : (R2 u).n ≤ len := by rw [← hlen, ht, List.length_append, hRn]; omega
              have htk : pa.bs.take (R2 u).n = (R2 u).bs := by rw [ht]; exact List.take_left' hRn
              have HTK := Lib.hid htk
              have HINV := Lib.hid hinv2
              have HSX := Lib.hid hSx
              generalize hRA : (R2 u).A = RA at *
              generalize hRN : (R2 u).n = RN at *
              generalize hRC : (R2 u).c = RC at *
              have hof2 := Lib.hid hof
              have u0 : (0 : Int) ≤ (u : Int) := by omega
              have u1 : (u : Int) < 2 := by omega
              clear hof ht htk hinv2 hfu hlen hSx hRA hRN hRC hD2
              go_wp2_with fail
              refine hof2.out.mono ?_
              rintro e w8 ⟨A8, c8, rfl, ho8, hb8⟩
              rw [HS.out.2] at ho8
              rw [HS.out.1, HS.out.2]
              have hS8 := HSX.out.below hb8
              have hc8 := (hb8.cell (p := ⟨q, u, none⟩) (block_lt_of_cell hcu)).trans hcu
              have hcap := own_cap8 ho8
              have hb1 := (own_bytes' ho8 (by omega)).take RN hle
              rw [HTK.out] at hb1
              have hb2 := (hou.below hb8).1
              have hd1 : decide (len < RN) = false := decide_eq_false (by omega)
              have i0 : (RN : Int) ≤ (c8 : Int) := by omega
              have i1 : ¬ (len : Int) < (RN : Int) := by omega
              have hon : Out (fun k => F2 k ∨ (wr.heap.size ≤ k ∧ k < w8.heap.size)) w8 A8 len pa.bs := Out.new ho8 (by omega) (fun k e => .inr e)
              have HON := Lib.hid hon
              have HS8 := Lib.hid hS8
              have k8 := HKx.out.1.keep hb8
              have t8 := HKx.out.2.keep hb8
              have HKT := Lib.hid (And.intro k8 t8)
              have bf := hS8.box.frozen u
              clear hon hS8 ho8 hcu hou hof2 HSX HKx k8 t8
              go_wp2_with fail
              go_quiet ((go_at_call 18; exact Calls.quiet_of (equal_val hb1 hb2 _)))
              have hS9 := (HS8.out.below (below_drew7 w8 nq)).put u hu2 ⟨A8, len, c8, pa.bs⟩ ((HON.out.below (below_drew7 w8 nq)).mono (fun k e => .inl e)) HINV.out
              have HS9 := Lib.hid hS9
              have k9 := (HKT.out.1.keep (below_drew7 w8 nq)).chg (chg_set _ q u (.slice A8 len c8)) (blk_type HKT.out.1 HS8.out.box (by decide))
              have t9' := (HKT.out.2.keep (below_drew7 w8 nq)).chg (chg_set _ q u (.slice A8 len c8)) (blk_type HKT.out.2 HS8.out.box (by decide))
              have HK9 := Lib.hid (And.intro k9 t9')
              clear hS9 k9 t9' HS8 HON HKT hb1 hb2 hb8
              go_wp2_with fail
              go_roundw
              case rel => exact ⟨u + 1, _, _, hu2, by go_num, HS9.out, HK9⟩
              case measure => simp [intOf]; omega
            · obtain rfl : u = 2 := by omega
              obtain ⟨kk, tt⟩ := HKx.out
              obtain ⟨y0, y1, y2, y3, y4, y5, yf⟩ := six_cells kk
              go_wp2_with fail
              go_roundw
              case rel => exact ⟨k + 1, Q, _, R2, hlt, by go_num, hSx⟩
              case measure => simp [intOf]; omega
        have hkd8 : (sk == 8) = false := by rw [beq_eq_false_iff_ne]; exact hk8
        by_cases hk1 : sk = 1 ∧ E = 0
        · obtain ⟨rfl, rfl⟩ := hk1
          obtain ⟨j, rfl, hj, hfj⟩ := hSY.out rfl rfl
          have hHFJ := Lib.hid hfj
          have hQ2 := hS7.n2
          clear hSY hST hfj
          obtain ⟨ls7, hD7, -, -⟩ := hS7.next
          have hof := bytesOf_any hD7 (by omega) j (by omega)
          have hinv2 := inv_set hS7.inv j hHFJ.out
          have hlenL := (hS7.lim.a j (by omega)).n
          generalize Q.p j = pa at *
          obtain ⟨len, hlen⟩ : ∃ len, pa.bs.length = len := ⟨_, rfl⟩
          rw [hlen] at hlenL
          have HS := Lib.hid (And.intro hHFJ.out hlen)
          have HINV := Lib.hid hinv2
          have HS7 := Lib.hid hS7
          have HOF := Lib.hid hof
          have i0 : (0 : Int) ≤ (j : Int) := by omega
          have i1 : (j : Int) < 2 := by omega
          have hcj := hS7.cell_at j hj
          generalize (R j).A = RA at *
          generalize (R j).n = RN at *
          generalize (R j).c = RC at *
          clear hinv2 hof hS7 hD7 hlen hHFJ t7
          go_wp2_with fail
          generalize w6.alloc (.cells #[.int .i64 0, .int .i64 TX, .int .i64 TY, .int .i64 TZ, .slice A6 m6 c6, .slice B6 n6 d6] 36) = w7 at *
          refine HOF.out.mono ?_
          rintro e w8 ⟨A8, c8, rfl, ho8, hb8⟩
          rw [HS.out.2] at ho8
          rw [HS.out.1, HS.out.2]
          have hS8 := HS7.out.below hb8
          have hS9 := hS8.put j hj ⟨A8, len, c8, pa.bs⟩ (Out.new ho8 (by simp only; omega) (fun k e => .inr e)) HINV.out
          have HS9 := Lib.hid hS9
          have hc8 := (hb8.cell (p := ⟨q, j, none⟩) (block_lt_of_cell hcj)).trans hcj
          have bf := hS8.box.frozen j
          have y18 := (hb8.cell (p := ⟨wr.heap.size, 1, none⟩) (block_lt_of_cell y1)).trans y1
          clear hS8 hS9 ho8 HS7 HOF hcj hb8 y0 y1 y2 y3 y4 y5 yf z0 z1 z2 z3 z4 z5 zf k7
          go_wp2_with fail
          go_roundw
          case rel => exact ⟨k + 1, _, _, _, hlt, by go_num, HS9.out⟩
          case measure => simp [intOf]; omega
        by_cases hk11 : sk = 1
        · subst hk11
          have hE0 : (E == 0) = false := by rw [beq_eq_false_iff_ne]; exact fun e => hk1 ⟨rfl, e⟩
          go_wp2_with fail
          go_roundw
          case rel => exact ⟨k + 1, Q, _, R, hlt, by go_num, hS7⟩
          case measure => simp [intOf]; omega
        · have hk1d : (sk == 1) = false := by rw [beq_eq_false_iff_ne]; exact hk11
          go_wp2_with fail
          go_roundw
          case rel => exact ⟨k + 1, Q, _, R, hlt, by go_num, hS7⟩
          case measure => simp [intOf]; omega
      · obtain rfl : k = n := by omega
        obtain ⟨ls, hD, ⟨hg1, hg2⟩, nx⟩ := hS.next
        have hfx : n2 ≠ 0 → ∀ q', blkO A2 = some q' → q' ≠ G ∧ q' ≠ pb := fun h0 q' hq' => by
          have := HF.out.lt (fun e => h0 (by rw [← HF.out.1, e]; rfl)) q' hq'
          exact ⟨by omega, by omega⟩
        have hK := HTOT.out
        have hff := HF.out.below hS.apt.low
        have hin := hS.inv
        clear hS
        go_wp2_with fail
        refine (diskArm_any hD A2 n2 c2 fs hff hfx).mono ?_
        rintro e w5 ⟨rfl, hT⟩
        have hS1 := nx _ _ _ hT rfl (inv_arm hin fs true)
        obtain ⟨ls1, hD1, -, nx1⟩ := hS1.next
        have hst := inv_strike hS1.inv hS1.lim
        clear hD nx hT hff hfx hS1 hin
        go_wp2_with fail
        refine (diskStrike_any hD1).mono ?_
        rintro e w6 ⟨rfl, hT⟩
        have hS2 := nx1 _ _ _ hT rfl hst.1
        clear hD1 nx1 hT
        generalize (P.arm fs true).strike = Q at *
        obtain ⟨ls2, hD2, -, -⟩ := hS2.next
        go_wp2_with fail
        refine (diskImage_any hD2).mono ?_
        rintro e w7 ⟨A9, n9, c9, qs, rfl, hSp, hqs, hb7⟩
        have hsp := hSp.at_ (fun x hx => image_len hD2 hSp hqs (by omega) x hx)
        rw [hqs] at hsp
        have hS3 := hS2.below hb7
        have h9 : n9 = 2 := by rw [← hsp.1]; simp [Pd.image, Pd.imageK, hS2.n2]
        subst h9
        clear hSp hqs hD2 hb7 hS2 hst
        go_wp2_with fail
        go_loopw [133] (fun i wx => ∃ u F, u ≤ 2 ∧ i = .int .i64 (u : Nat) ∧ SafeS w wx G pb q Q (wrN ss k) F R ∧ SpAt wx A9 2 Q.image) (fun i _ => 2 - (intOf i).toNat)
        case atStart => exact ⟨0, _, by omega, rfl, hS3, hsp⟩
        case round =>
          clear hS3 hsp
          obtain ⟨u, F2, hu, rfl, hS4, hsp4⟩ := hrel
          by_cases hu2 : u < 2
          · obtain ⟨sb, so, A', m', c', rfl, p0, p1, p2, pc, p3⟩ := hsp4.at_ u hu2
            have hn4 := hS4.n2
            rw [image_at Q u (by omega)] at p0 p2 p3
            obtain ⟨t, ht⟩ := hS4.inv u (by omega)
            have hou := hS4.out_at u hu2
            have hcu := hS4.cell_at u hu2
            simp only at p0 p2 p3
            rw [ht] at p2 p3
            have hRn := hou.1.1
            have hmn : (R u).n ≤ m' := by rw [← p3, List.length_append, hRn]; omega
            have p4 := p2.take (R u).n hmn
            rw [List.take_left' hRn] at p4
            have hb2 := hou.1
            generalize (R u).A = RA at *
            generalize (R u).n = RN at *
            generalize (R u).c = RC at *
            have u0 : (0 : Int) ≤ (u : Int) := by omega
            have u1 : (u : Int) < 2 := by omega
            have hd1 : decide (m' < RN) = false := decide_eq_false (by omega)
            have i1 : ¬ (m' : Int) < (RN : Int) := by omega
            have i2 : (RN : Int) ≤ (c' : Int) := by omega
            have HSP := Lib.hid hsp4
            have HS4 := Lib.hid hS4
            have h20 : decide ((2 : Int) ≠ 2) = false := by decide
            clear p0 p2 p3 ht hou hRn hsp4 hS4 pc
            go_wp2_with fail
            go_quiet ((go_at_call 18; exact Calls.quiet_of (equal_val p4 hb2 _)))
            have hS5 := HS4.out.below (below_drew7 _ nq)
            have hsp5 := HSP.out.draws nq
            clear HS4 HSP p4 hb2
            go_wp2_with fail
            go_roundw
            case rel => exact ⟨u + 1, _, hu2, by go_num, hS5, hsp5⟩
            case measure => simp [intOf]; omega
          · obtain rfl : u = 2 := by omega
            go_wp2_with fail
            go_ret
            exact ⟨rfl, hS4.apt.low⟩
end Go.Proofs.Ytodaplkijdjbpaa
