/- The law AreaLeft, walked. -/
import Derived.Test.YtbfnmfakagdpfaaPlayAt
import Derived.Test.YtbfnmfakagdpfaaStays
import Derived.Test.YtbfnmfakagdpfaaRefRead
namespace Go.Proofs.Ytbfnmfakagdpfaa
open Go.RowKit
set_option linter.unusedVariables false
set_option linter.unusedSimpArgs false
theorem Mine.chg7 {B : Nat} {w0 w w' : World} {g : Nat} {A : Option Addr} {c T : Nat} {base : Int} {bs : List UInt8} {s : Nat} {F : Nat → Prop} (h : Mine B w0 w g A c T base bs s) (hc : Chg F w w') (hn : ∀ k, arF g A k → ¬ F k) (hF : ∀ k, F k → B ≤ k) : Mine B w0 w' g A c T base bs s :=
  ⟨h.ar.chg hc hn, fun q e => ⟨(h.fr q e).1, Nat.lt_of_lt_of_le (h.fr q e).2 hc.size⟩, h.n1, h.e1, h.bel.trans (hc.below h.le hF), Nat.le_trans h.le hc.size⟩
/-- Two areas that share nothing. -/
def Apart (g1 : Nat) (A1 : Option Addr) (g2 : Nat) (A2 : Option Addr) : Prop := ∀ q, arF g1 A1 q → ¬ arF g2 A2 q
/-- The first of two areas went on. -/
theorem Mine.one {B : Nat} {w0 w w' : World} {g : Nat} {A : Option Addr} {c T T' : Nat} {base base' : Int} {bs bs' : List UInt8} {s s' : Nat} {r : Int} {e : Ending} {g2 : Nat} {A2 : Option Addr} {c2 T2 : Nat} {base2 : Int} {bs2 : List UInt8} {s2 : Nat} (h : Mine B w0 w g A c T base bs s) (h2 : Mine B w0 w g2 A2 c2 T2 base2 bs2 s2) (hap : Apart g A g2 A2) (ht : ArTo w (arF g A) g base' bs' s' r e w')
    (hn : bs'.length ≤ T') (he : base' + bs'.length ≤ 4611686018427387904 + (T' : Int)) : e = .returned (.int .i64 r) ∧ ∃ A' c', Mine B w0 w' g A' c' T' base' bs' s' ∧ Mine B w0 w' g2 A2 c2 T2 base2 bs2 s2 ∧ Apart g A' g2 A2 ∧ Chg (arF g A) w w' ∧ ∀ q, arF g A' q → arF g A q ∨ w.heap.size ≤ q := by
  obtain ⟨h1, A', c', hM, hC, hq⟩ := h.to ht hn he
  refine ⟨h1, A', c', hM, h2.chg7 hC (fun q e e2 => hap q e2 e) (fun q e => (h.fr q e).1), fun q e e2 => ?_, hC, hq⟩
  rcases hq q e with e3 | e3
  · exact hap q e3 e2
  · have := (h2.fr q e2).2; omega
theorem Apart.symm {g1 : Nat} {A1 : Option Addr} {g2 : Nat} {A2 : Option Addr} (h : Apart g1 A1 g2 A2) : Apart g2 A2 g1 A1 := fun q e e2 => h q e2 e
theorem crash_again (bs : List UInt8) (keep : Int) (t : UInt8) : crashK bs.length bs.length keep = 0 ∧ crashB bs bs.length 0 t = bs := by
  constructor
  · unfold crashK; omega
  · unfold crashB; rw [if_pos rfl, List.take_length]
theorem crash_none (bs : List UInt8) (s : Nat) (t : UInt8) : crashK bs.length s 0 = 0 ∧ crashB bs s 0 t = bs.take s := by
  constructor
  · unfold crashK; omega
  · unfold crashB; rw [if_pos rfl]
theorem own_len7 {w : World} {B : Nat} {e : TypeId} {n c : Nat} {A : Option Addr} {bs : List UInt8} (h : w.ownsRow B e 1 (.slice A n c) n (bvals bs)) : bs.length = n := by have := h.1; rwa [bvals_length, Nat.mul_one] at this
theorem own_some7 {w : World} {B : Nat} {e : TypeId} {n c : Nat} {A : Option Addr} {xs : List Value} (h : w.ownsRow B e 1 (.slice A n c) n xs) (hn : n ≠ 0) : ∃ b, A = some ⟨b, 0, none⟩ := by
  rcases h.2 with ⟨h0, _⟩ | ⟨bF, cp, cur, he, _⟩
  · injection h0 with _ h0 _; omega
  · injection he with he
    exact ⟨bF, he⟩
theorem crash_get (bs : List UInt8) (s kp : Nat) (t : UInt8) (k : Nat) (h : s + kp ≤ bs.length) (hk : k < s + kp) : (crashB bs s kp t).getD k 0 = if 0 < kp ∧ k = s + kp - 1 then bs.getD k 0 ^^^ t else bs.getD k 0 := by
  unfold crashB
  by_cases h0 : kp = 0
  · rw [if_pos h0, if_neg (by omega), List.getD_eq_getElem?_getD, List.getElem?_take_of_lt (by omega), List.getD_eq_getElem?_getD]
  · rw [if_neg h0, List.getD_eq_getElem?_getD, List.getElem?_set]
    by_cases h1 : s + kp - 1 = k
    · subst h1
      rw [if_pos rfl, if_pos (by rw [List.length_take]; omega), if_pos ⟨by omega, rfl⟩]
      rfl
    · rw [if_neg h1, if_neg (by omega), List.getElem?_take_of_lt hk, List.getD_eq_getElem?_getD]
set_option maxRecDepth 100000 in
set_option maxHeartbeats 6400000 in
theorem areaLeft_any (A : Option Addr) (n c : Nat) (xs : List StepR) (D : Option Addr) (m mc : Nat) (d : List UInt8) (keep torn : Int) (w : World) (h : RecS IsStep w 4 A n xs) (hn : n ≤ 140737488351232) (hd : Bytes w D m d) (hm : m ≤ 140737488355328) (hk0 : -9223372036854775808 ≤ keep) (hk1 : keep ≤ 9223372036854775807) (ht0 : 0 ≤ torn) (ht1 : torn < 256) :
    Calls Try.prog 8 #[.slice A n c, .slice D m mc, .int .i64 keep, .int .u8 torn] w fun e w' => e = .returned (.bool true) ∧ Below w.heap.size w w' := by
  have hb1 := below_alloc w (.cells #[.slice A n c] 40)
  have HLn := Lib.hid h.1
  have HLd := Lib.hid hd.1
  go_enter Try.func8, Try.ntmps8
  go_wp2_with fail
  refine (vast_any _ 1 _ [xs] _ (scr_one h hn _) (by omega)).mono ?_
  rintro e w1 ⟨b, rfl, hb2, hv⟩
  have hB1 := below_then hb1 hb2 hb1.size
  clear hb1 hb2
  cases b with
  | true =>
    go_wp2
    go_ret
    exact ⟨rfl, hB1⟩
  | false =>
    have hv2 : wrN xs n ≤ 1073741824 := by have := hv rfl; rwa [show ([xs] : List (List StepR)).length = 1 from rfl, tot_one, h.1] at this
    clear hv
    have HV := Lib.hid hv2
    clear hv2
    have h1 := h.below hB1 (fun _ _ k => IsStep.below hB1 _ _ k)
    go_wp2_with fail
    refine (played_at A n c xs _ h1 hn HV.out).mono ?_
    rintro e w2 ⟨g, B, bc, rfl, hA, hF, hT, hE, hB2⟩
    obtain ⟨base, bs, s, hst⟩ : ∃ base bs s, stateF xs n = (base, bs, s) := ⟨_, _, _, rfl⟩
    rw [hst] at hA hT hE
    have HST := Lib.hid hst
    clear hst
    simp only at hA hT hE
    have hM : Mine w.heap.size w w2 g B bc (wrN xs n) base bs s := ⟨hA, fun q e => ⟨Nat.le_trans hB1.size (hF q e).1, (hF q e).2⟩, hT, hE, below_then hB1 hB2 hB1.size, Nat.le_trans hB1.size hB2.size⟩
    have h2 := h1.below hB2 (fun _ _ k => IsStep.below hB2 _ _ k)
    clear hA hF hT hE h1
    go_wp2_with fail
    refine (played_at A n c xs _ h2 hn HV.out).mono ?_
    rintro e w3 ⟨g', B', bc', rfl, hA, hF, hT, hE, hB3⟩
    rw [HST.out] at hA hT hE
    simp only at hA hT hE
    have hB13 := hM.bel
    have hz2 := hM.le
    have hN : Mine w.heap.size w w3 g' B' bc' (wrN xs n) base bs s := ⟨hA, fun q e => ⟨Nat.le_trans hz2 (hF q e).1, (hF q e).2⟩, hT, hE, below_then hB13 hB3 hz2, Nat.le_trans hz2 hB3.size⟩
    have hap : Apart g B g' B' := fun q e e2 => by have := (hM.fr q e).2; have := (hF q e2).1; omega
    have hM3 := hM.below hB3
    clear hM hA hF hT hE h2 hB13 hz2 hB2 hB3
    go_wp2_with fail
    refine (awake_any _).mono ?_
    rintro e w4 ⟨rfl, hb4⟩
    have hM4 := hM3.below hb4
    have hN4 := hN.below hb4
    have hd4 := hd.below hM4.bel
    clear hM3 hN hb4
    have hvv := HV.out
    have hn1 := hM4.n1
    have he1 := hM4.e1
    have a1 : bs.length + m ≤ 214748364800000 := by omega
    have a2 : base + (bs.length : Int) + (m : Int) ≤ 4612811918334230528 := by omega
    have hl : (bs ++ d).length = bs.length + m := by rw [List.length_append, hd.1]
    have A3 := Lib.hid (show (bs ++ d).length ≤ wrN xs n + m by omega)
    have A4 := Lib.hid (show base + ((bs ++ d).length : Int) ≤ 4611686018427387904 + ((wrN xs n + m : Nat) : Int) by omega)
    have hs1 : s ≤ 1073741824 := by have := hM4.ar.sle; omega
    clear hl hvv hn1 he1
    have H0 := World.ownsRow_nil w4 w4.heap.size 5 1
    go_upto_region 7 with (first | (at_builtin; (refine wpl_append _ rfl _ _ 23 rfl w4.heap.size 5 _ 1 1 Try.underlying23 info_byte7 rfl (by decide) (.slice none 0 0) 0 [] rfl H0 D m mc (bvals d) rfl hd4.rdc (bvals_one _) (by decide) (by decide) (by omega) (by simp) ?_); intro F5 c5 w5 ho5 hg5 hne5 hnn5; simp only [Nat.zero_add, List.nil_append] at ho5 ⊢; clear hnn5 hne5; have hb5 : Below w4.heap.size w4 w5 := (Below.refl _ w4).grown hg5 (by simp) (fun k h => by simp [Value.ownBlock] at h); have hM5 := hM4.below hb5; have hN5 := hN4.below hb5; have h55 := own_bytes' ho5 (by omega); clear hM4 hN4 hb5 ho5 H0 hg5 hd4) | (go_at_call 14; refine (areaAppend_any hM5.ar F5 m c5 d h55 a1 a2).mono ?_; intro e w6 hs; obtain ⟨rfl, B6, c6, hM6, hN6, hap6, _, _⟩ := hM5.one hN5 hap hs A3.out A4.out; clear hM5 hN5 hs h55 hap))
    have hd6 := hd.below hM6.bel
    have H6 := World.ownsRow_nil w6 w6.heap.size 5 1
    go_upto_region 8 with (first | (at_builtin; (refine wpl_append _ rfl _ _ 23 rfl w6.heap.size 5 _ 1 1 Try.underlying23 info_byte7 rfl (by decide) (.slice none 0 0) 0 [] rfl H6 D m mc (bvals d) rfl hd6.rdc (bvals_one _) (by decide) (by decide) (by omega) (by simp) ?_); intro F7 c7 w7 ho7 hg7 hne7 hnn7; simp only [Nat.zero_add, List.nil_append] at ho7 ⊢; clear hnn7 hne7; have hb7 : Below w6.heap.size w6 w7 := (Below.refl _ w6).grown hg7 (by simp) (fun k h => by simp [Value.ownBlock] at h); have hM7 := hM6.below hb7; have hN7 := hN6.below hb7; have h77 := own_bytes' ho7 (by omega); clear hM6 hN6 hb7 ho7 H6 hg7 hd6) | (go_at_call 14; refine (areaAppend_any hN7.ar F7 m c7 d h77 a1 a2).mono ?_; intro e w8 hs; obtain ⟨rfl, B8, c8, hN8, hM8, hap8, _, _⟩ := hN7.one hM7 hap6.symm hs A3.out A4.out; clear hM7 hN7 hs h77 hap6))
    have hsl := hM8.ar.sle
    have lm8 := fun q e => (hM8.fr q e).2
    have ln8 := fun q e => (hN8.fr q e).2
    generalize hbd : bs ++ d = bd at *
    clear hbd
    go_wp2_with fail
    refine (whole_any hM8.ar).mono ?_
    rintro e w9 ⟨W0, wcp, rfl, hoW, hb9⟩
    have hM9 := hM8.below hb9
    have hN9 := hN8.below hb9
    go_wp2_with fail
    refine (areaBounds_any hM9.ar).mono ?_
    rintro e w10 ⟨rfl, q10, rfl⟩
    have hb10 := below_drew7 w9 q10
    have hM10 := hM9.below hb10
    have hN10 := hN9.below hb10
    clear hM8 hN8 hM9 hN9
    go_wp2_with fail
    refine (areaImage_any hM10.ar).mono ?_
    rintro e w11 ⟨I0, i0c, rfl, hoI, hb11⟩
    have hM11 := hM10.below hb11
    have hN11 := hN10.below hb11
    clear hM10 hN10
    have hX := Blk.fresh w11 #[.int .i64 base, .slice I0 s i0c] 33
    have hb12 := below_alloc w11 (.cells #[.int .i64 base, .slice I0 s i0c] 33)
    have hM12 := hM11.below hb12
    have hN12 := hN11.below hb12
    have zw9 := hb9.size
    have zw10 := hb10.size
    have zw11 : w9.heap.size ≤ w11.heap.size := hb11.size
    have fW : ∀ q, blkO W0 = some q → w8.heap.size ≤ q ∧ q < w9.heap.size := own_lt7 hoW
    have fI : ∀ q, blkO I0 = some q → w9.heap.size ≤ q ∧ q < w11.heap.size := own_lt7 hoI
    have hz12 : (w11.alloc (.cells #[.int .i64 base, .slice I0 s i0c] 33)).heap.size = w11.heap.size + 1 := by simp
    have lm : ∀ q, arF g B6 q → q < w8.heap.size := fun q e => lm8 q e
    have ln : ∀ q, arF g' B8 q → q < w8.heap.size := fun q e => ln8 q e
    have hW12 := own_below hoW (below_then hb10 (below_then hb11 hb12 hb11.size) hb10.size)
    have hI12 := own_below hoI hb12
    have hn1 := hM12.ar.n1
    have hb0 := hM12.ar.b0
    have hb1' := hM12.ar.b1
    have hcW := own_cap7 hW12
    have hBW := own_bytes' hW12 (by omega)
    have hBI := own_bytes' hI12 (by omega)
    have t1 : decide (base + (s : Int) < base) = false := decide_eq_false (by omega)
    have t2 : decide (bd.length < s) = false := decide_eq_false (by omega)
    have t3 : decide ((bd.length : Int) < (s : Int)) = false := decide_eq_false (by omega)
    have HZ12 := Lib.hid hz12
    clear hM11 hN11 hoW hoI hb9 hb10 hb11 hb12 zw10 hz12
    go_upto_region 13 with fail
    generalize w11.alloc (.cells #[.int .i64 base, .slice I0 s i0c] 33) = w12 at *
    obtain ⟨t, rfl⟩ : ∃ t : UInt8, torn = ((t.toNat : Nat) : Int) := ⟨UInt8.ofNat torn.toNat, by rw [UInt8.toNat_ofNat']; omega⟩
    obtain ⟨kp, hkp⟩ : ∃ kp, crashK bd.length s keep = kp := ⟨_, rfl⟩
    have hkl := crashK_le bd.length s keep hsl
    rw [hkp] at hkl
    have hcl := crashB_length bd s kp t hkl
    have HKP := Lib.hid hkp
    have HCL := Lib.hid hcl
    have hXn : ¬ arF g B6 w11.heap.size := fun e => by have := lm _ e; omega
    have x0 : w12.cell? ⟨w11.heap.size, 0, none⟩ = some (.int .i64 base) := hX.cell 0
    have x1 : w12.cell? ⟨w11.heap.size, 1, none⟩ = some (.slice I0 s i0c) := hX.cell 1
    have hc3 : (crashB bd s kp t).length ≤ wrN xs n + m := by rw [hcl]; have := A3.out; omega
    have hc4 : base + ((crashB bd s kp t).length : Int) ≤ 4611686018427387904 + ((wrN xs n + m : Nat) : Int) := by rw [hcl]; have := A4.out; omega
    have C3 := Lib.hid hc3
    have C4 := Lib.hid hc4
    clear hkp hcl hc3 hc4
    go_cut [112] from 87 to 111 (fun v wx => v = .bool false ∧ ∃ B13 c13, Mine w.heap.size w wx g B13 c13 (wrN xs n + m) base (crashB bd s kp t) (s + kp) ∧ Mine w.heap.size w wx g' B8 c8 (wrN xs n + m) base bd s ∧ Apart g B13 g' B8 ∧ Chg (arF g B6) w12 wx ∧ ∀ q, arF g B13 q → arF g B6 q ∨ w12.heap.size ≤ q)
    case first =>
      have e1 : base + (s : Int) - base = (s : Int) := by omega
      have e2 : IntKind.i64.wrap (base + (s : Int) - base) = (s : Int) := by rw [e1]; exact IntWalk.i64_in _ (by omega)
      have e3 : IntKind.i64.wrap (s : Int) = (s : Int) := IntWalk.i64_in _ (by omega)
      have j0 : (0 : Int) ≤ (s : Int) := by omega
      have j1 : (s : Int) ≤ (wcp : Int) := by omega
      have t4 : (base != base) = false := by simp
      clear e1
      go_region_held3 (fun w' => w'.cell? ⟨w11.heap.size, 0, none⟩ = some (.int .i64 base) ∧ w'.cell? ⟨w11.heap.size, 1, none⟩ = some (.slice I0 s i0c))
        (first | exact ⟨x0, x1⟩ | exact kS)
        (first | (go_at_call 25; refine (same_any _ _ _ _ _ _ _ _ _ (hBI.below (Below.refl _ _).drew) ((hBW.take s hsl).below (Below.refl _ _).drew)).mono ?_; rintro e w3 ⟨rfl, rfl⟩; rw [show (bd.take s == bd.take s) = true from beq_self_eq_true _]) | (go_at_call 18; refine (areaCrash_any (hM12.below (Below.refl _ _).drew).ar keep _ t rfl).mono ?_; rw [HKP.out]; intro e w3 hs; obtain ⟨rfl, B13, c13, hM13, hN13, hap13, hC13, hq13⟩ := (hM12.below (Below.refl _ _).drew).one (hN12.below (Below.refl _ _).drew) hap8.symm hs C3.out C4.out; have kS := And.intro (hC13.cell x0 hXn) (hC13.cell x1 hXn)))
      all_goals go_wp2_with fail
      all_goals go_meet
      all_goals exact ⟨rfl, B13, c13, hM13, hN13, hap13, Chg.after (Below.refl _ w12).drew hC13, hq13⟩
    case rest =>
      obtain ⟨rfl, B13, c13, hM13, hN13, hap13, hC13, hq13⟩ := hcut
      have lmc := fun q e => (hM13.fr q e).2
      have hWc := own_chg hW12 hC13 (fun q e e2 => by have := (own_lt7 hW12 q (by rwa [ownBlock_slice] at e)).1; have := lm q e2; omega)
      have hIc := own_chg hI12 hC13 (fun q e e2 => by have : w9.heap.size ≤ q := (own_lt7 hI12 q (by rwa [ownBlock_slice] at e)).1; have := lm q e2; omega)
      have hXc := hX.chg hC13 hXn
      clear hW12 hI12 hX hM12 hN12 hBW hBI x0 x1 hXn hap8
      obtain ⟨cb, hcb⟩ : ∃ cb, crashB bd s kp t = cb := ⟨_, rfl⟩
      rw [hcb] at hM13 HCL C3 C4
      have HCB := Lib.hid hcb
      clear hcb
      go_wp2_with fail
      refine (whole_any hM13.ar).mono ?_
      rintro e w14 ⟨W2, w2c, rfl, hoW2, hb14⟩
      rw [HCL.out] at hoW2 ⊢
      have hM14 := hM13.below hb14
      have hN14 := hN13.below hb14
      have hW14 := own_below hWc hb14
      have hI14 := own_below hIc hb14
      have hX14 := hXc.keep hb14
      have z14 := hb14.size
      have z13 := hC13.size
      clear hM13 hN13 hWc hIc hXc hb14 hC13
      go_wp2_with fail
      refine (areaBounds_any hM14.ar).mono ?_
      rintro e w15 ⟨rfl, q15, rfl⟩
      rw [HCL.out]
      have hb15 := below_drew7 w14 q15
      have hM15 := hM14.below hb15
      have hN15 := hN14.below hb15
      have hW15 := own_below hW14 hb15
      have hI15 := own_below hI14 hb15
      have hX15 := hX14.keep hb15
      have hoW3 := own_below hoW2 hb15
      have lm15 := fun q e => (hM14.fr q e).2
      have ln15 := fun q e => (hN14.fr q e).2
      clear hM14 hN14 hW14 hI14 hX14 hb15
      have zz15 : w14.heap.size ≤ (w14.drewN q15).heap.size := Nat.le_refl _
      generalize w14.drewN q15 = w15 at *
      go_upto_region 17 with fail
      go_cut [23] from 125 to 127 (fun v wx => v = .int .i64 (kp : Nat) ∧ w15 = wx)
      case first =>
        go_wp2_with fail
        go_meet
        exact ⟨by go_num, rfl⟩
      case rest =>
        obtain ⟨rfl, rfl⟩ := hcut
        go_upto_region 18 with fail
        go_cut [181] from 128 to 180 (fun v wx => v = .bool false ∧ w15 = wx)
        case first =>
          have hk := HKP.out
          unfold crashK at hk
          have t4 : (base != base) = false := by simp
          have t5 : (base + ((s : Int) + (kp : Int)) != base + ((s : Int) + (kp : Int))) = false := by simp
          have e1 : base + (bd.length : Int) - (base + (s : Int)) = (bd.length : Int) - (s : Int) := by omega
          have E1 := Lib.hid e1
          by_cases h1 : keep < 1
          · have h3 : kp = 0 := by omega
            have t6 : ((kp : Int) != 0) = false := by rw [bne_eq_false_iff_eq]; omega
            have t7 : ¬ 0 < keep := by omega
            have t8 : ¬ 0 < (kp : Int) := by omega
            have t9 : decide (keep < 1) = true := decide_eq_true h1
            clear hk e1 h3
            by_cases h4 : (kp : Int) < base + (bd.length : Int) - (base + (s : Int))
            · by_cases h5 : ((kp : Int) != keep) = true
              · go_wp2_with fail
                go_meet
                exact ⟨congrArg Value.bool (by rw [Bool.or_eq_false_iff]; exact ⟨decide_eq_false (by omega), decide_eq_false (by omega)⟩), rfl⟩
              · have h6 : ((kp : Int) != keep) = false := by simpa using h5
                clear h5
                go_wp2_with fail
                go_meet
                exact ⟨congrArg Value.bool (by rw [Bool.or_eq_false_iff]; exact ⟨decide_eq_false (by omega), decide_eq_false (by omega)⟩), rfl⟩
            · go_wp2_with fail
              go_meet
              exact ⟨congrArg Value.bool (by rw [Bool.or_eq_false_iff]; exact ⟨decide_eq_false (by omega), decide_eq_false (by omega)⟩), rfl⟩
          · by_cases h2 : keep ≤ (bd.length : Int) - (s : Int)
            · obtain rfl : keep = (kp : Int) := by omega
              have t6 : ((kp : Int) != (kp : Int)) = false := by simp
              have t7 : ¬ (kp : Int) < 1 := h1
              clear hk h1 e1
              go_wp2_with fail
              all_goals go_meet
              all_goals exact ⟨congrArg Value.bool (by rw [Bool.or_eq_false_iff]; exact ⟨decide_eq_false (by omega), decide_eq_false (by omega)⟩), rfl⟩
            · have h3 : (kp : Int) = (bd.length : Int) - (s : Int) := by omega
              have t6 : ¬ (kp : Int) < base + (bd.length : Int) - (base + (s : Int)) := by omega
              have t7 : ¬ keep < (kp : Int) := by omega
              have t8 : ¬ keep < 1 := h1
              clear hk h1 e1 h3
              go_wp2_with fail
              all_goals go_meet
              all_goals exact ⟨congrArg Value.bool (by rw [Bool.or_eq_false_iff]; exact ⟨decide_eq_false (by omega), decide_eq_false (by omega)⟩), rfl⟩
        case rest =>
          obtain ⟨rfl, rfl⟩ := hcut
          have HLW := Lib.hid (own_len7 hW15)
          have HL2 := Lib.hid (own_len7 hoW3)
          go_wp2_with fail
          go_loop [24] (fun i => ∃ k : Nat, k ≤ s + kp ∧ i = .int .i64 k) (fun i => s + kp - (intOf i).toNat)
          case atStart => exact ⟨0, by omega, rfl⟩
          case round =>
            obtain ⟨k, hk, rfl⟩ := hrel
            by_cases hlt : k < s + kp
            · obtain ⟨bW, rfl⟩ := own_some7 hW15 (by omega)
              obtain ⟨b2, rfl⟩ := own_some7 hoW3 (by omega)
              have hlW := HLW.out
              have hl2 := HL2.out
              have cW : w15.cell? ⟨bW, k, none⟩ = some (.int .u8 (((bd.getD k 0).toNat : Nat) : Int)) := (hW15.cellAt k (by omega)).trans (bvals_at _ _ (by omega))
              have c2 : w15.cell? ⟨b2, k, none⟩ = some (.int .u8 (((cb.getD k 0).toNat : Nat) : Int)) := (hoW3.cellAt k (by omega)).trans (bvals_at _ _ (by omega))
              have i0 : (0 : Int) ≤ (k : Int) := by omega
              have i1 : (k : Int) < (bd.length : Int) := by omega
              have i2 : (k : Int) < (s : Int) + (kp : Int) := by omega
              have hcg := crash_get bd s kp t k hkl hlt
              rw [HCB.out] at hcg
              by_cases h1 : 0 < kp ∧ k = s + kp - 1
              · rw [if_pos h1] at hcg
                have hx := xor_byte7 (bd.getD k 0) t
                rw [hcg, ← hx] at c2
                generalize (((bd.getD k 0).toNat : Nat) : Int) = x at *
                have t4 : (0 : Int) < (kp : Int) := by omega
                have t5 : ((k : Int) == (s : Int) + (kp : Int) - 1) = true := by rw [beq_iff_eq]; omega
                have t6 : (bits .xor .u8 x ((t.toNat : Nat) : Int) != bits .xor .u8 x ((t.toNat : Nat) : Int)) = false := by simp
                clear hcg hx hlW hl2 h1
                go_wp2_with fail
                go_round
                case rel => exact ⟨k + 1, by omega, by go_num⟩
                case measure => simp [intOf]; omega
              · rw [if_neg h1] at hcg
                rw [hcg] at c2
                generalize (((bd.getD k 0).toNat : Nat) : Int) = x at *
                have t6 : (x != x) = false := by simp
                clear hcg hlW hl2
                by_cases h2 : 0 < kp
                · have t4 : (0 : Int) < (kp : Int) := by omega
                  have t5 : ((k : Int) == (s : Int) + (kp : Int) - 1) = false := by rw [beq_eq_false_iff_ne]; omega
                  clear h1
                  go_wp2_with fail
                  go_round
                  case rel => exact ⟨k + 1, by omega, by go_num⟩
                  case measure => simp [intOf]; omega
                · have t4 : ¬ (0 : Int) < (kp : Int) := by omega
                  clear h1
                  go_wp2_with fail
                  go_round
                  case rel => exact ⟨k + 1, by omega, by go_num⟩
                  case measure => simp [intOf]; omega
            · obtain rfl : k = s + kp := by omega
              have hca := crash_again cb keep t
              have hca2 := crash_again cb 0 255
              have c5a : cb.length ≤ wrN xs n + m := C3.out
              go_wp2_with fail
              refine (areaCrash_any hM15.ar keep _ t rfl).mono ?_
              rw [← HCL.out, hca.1, hca.2, Nat.add_zero]
              rw [← HCL.out] at hoW3
              have fW2 : ∀ q, blkO W2 = some q → wc.heap.size ≤ q ∧ q < w15.heap.size := own_lt7 hoW3
              have fI2 : ∀ q, blkO I0 = some q → w9.heap.size ≤ q ∧ q < w11.heap.size := fI
              have zz1 := HZ12.out
              intro e w16 hs
              obtain ⟨rfl, B16, c16, hM16, hN16, hap16, hC16, hq16⟩ := hM15.one hN15 hap13 hs C3.out C4.out
              have hP13 : ∀ q, (blkO W2 = some q ∨ blkO I0 = some q ∨ q = w11.heap.size) → ¬ arF g B13 q := fun q e e2 => by
                have l2 := lmc q e2
                rcases e with e | e | e
                · have := (fW2 q e).1; omega
                · have h1 := fI2 q e
                  rcases hq13 q e2 with e3 | e3
                  · have := lm q e3; omega
                  · omega
                · rcases hq13 q e2 with e3 | e3
                  · have := lm q e3; omega
                  · omega
              have hP16 : ∀ q, (blkO W2 = some q ∨ blkO I0 = some q ∨ q = w11.heap.size) → ¬ arF g B16 q := fun q e e2 => by
                rcases hq16 q e2 with e3 | e3
                · exact hP13 q e e3
                · have z15 := hM15.le
                  rcases e with e | e | e
                  · have := (fW2 q e).2; omega
                  · have := (fI2 q e).2; omega
                  · omega
              have hW16 := own_chg hoW3 hC16 (fun q e => hP13 q (.inl (by rwa [ownBlock_slice] at e)))
              have hI16 := own_chg hI15 hC16 (fun q e => hP13 q (.inr (.inl (by rwa [ownBlock_slice] at e))))
              have hX16 := hX15.chg hC16 (hP13 _ (.inr (.inr rfl)))
              have z16 := hC16.size
              clear hoW3 hI15 hX15 hM15 hN15 hap13 hs hC16 hP13 hW15
              go_wp2_with fail
              refine (areaCrash_any hM16.ar 0 255 255 rfl).mono ?_
              rw [hca2.1, hca2.2, Nat.add_zero]
              intro e w17 hs
              obtain ⟨rfl, B17, c17, hM17, hN17, hap17, hC17, hq17⟩ := hM16.one hN16 hap16 hs C3.out C4.out
              have hW17 := own_chg hW16 hC17 (fun q e => hP16 q (.inl (by rwa [ownBlock_slice] at e)))
              have hI17 := own_chg hI16 hC17 (fun q e => hP16 q (.inr (.inl (by rwa [ownBlock_slice] at e))))
              have hX17 := hX16.chg hC17 (hP16 _ (.inr (.inr rfl)))
              have z17 := hC17.size
              clear hW16 hI16 hX16 hM16 hN16 hap16 hs hC17 hP16
              go_wp2_with fail
              refine (whole_any hM17.ar).mono ?_
              rintro e w18 ⟨W3, w3c, rfl, hoG, hb18⟩
              have hM18 := hM17.below hb18
              have hN18 := hN17.below hb18
              have hW18 := own_below hW17 hb18
              have hI18 := own_below hI17 hb18
              have hX18 := hX17.keep hb18
              clear hM17 hN17 hW17 hI17 hX17
              have hcn := crash_none bd s t
              go_wp2_with fail
              refine (areaCrash_any hN18.ar 0 _ t rfl).mono ?_
              rw [hcn.1, hcn.2, Nat.add_zero]
              intro e w19 hs
              have hbs3 : (bd.take s).length ≤ wrN xs n + m := by rw [List.length_take]; have := A3.out; omega
              have hbs4 : base + ((bd.take s).length : Int) ≤ 4611686018427387904 + ((wrN xs n + m : Nat) : Int) := by rw [List.length_take]; have := A4.out; omega
              obtain ⟨rfl, B19, c19, hN19, hM19, hap19, hC19, hq19⟩ := hN18.one hM18 hap17.symm hs hbs3 hbs4
              have hnW : ∀ q, blkO W2 = some q → ¬ arF g' B8 q := fun q e e2 => by have := (fW2 q e).1; have := ln q e2; omega
              have hnI : ∀ q, blkO I0 = some q → ¬ arF g' B8 q := fun q e e2 => by have := (fI2 q e).1; have := ln q e2; omega
              have hnX : ¬ arF g' B8 w11.heap.size := fun e2 => by have := ln _ e2; omega
              have hnG : ∀ q, blkO W3 = some q → ¬ arF g' B8 q := fun q e e2 => by have := (own_lt7 hoG q e).1; have := ln q e2; omega
              have hW19 := own_chg hW18 hC19 (fun q e => hnW q (by rwa [ownBlock_slice] at e))
              have hI19 := own_chg hI18 hC19 (fun q e => hnI q (by rwa [ownBlock_slice] at e))
              have hX19 := hX18.chg hC19 hnX
              have hG19 := own_chg hoG hC19 (fun q e => hnG q (by rwa [ownBlock_slice] at e))
              clear hW18 hI18 hX18 hoG hM18 hN18 hs hC19 hap17 hbs3 hbs4
              have c3b : cb.length ≤ 214748364800000 := by have := HCL.out; omega
              have BG := own_bytes' hG19 (by omega)
              have BW2 := own_bytes' hW19 (by omega)
              have BI := own_bytes' hI19 (by omega)
              clear hG19 hW19 hI19
              go_wp2_with fail
              refine (same_any _ _ _ _ _ _ _ _ _ BG BW2).mono ?_
              rintro e w20 ⟨rfl, rfl⟩
              rw [show (cb == cb) = true from beq_self_eq_true _]
              have y0 : w19.cell? ⟨w11.heap.size, 0, none⟩ = some (.int .i64 base) := hX19.cell 0
              have y1 : w19.cell? ⟨w11.heap.size, 1, none⟩ = some (.slice I0 s i0c) := hX19.cell 1
              by_cases hbig : 4611686018427387904 < base
              · go_wp2_with fail
                go_ret
                exact ⟨rfl, hM19.bel⟩
              · have t7 : decide (4611686018427387904 < base) = false := decide_eq_false hbig
                go_wp2_with fail
                refine (areaLoad_any I0 s i0c (bd.take s) base _ BI (by omega) hb0 (by omega)).mono ?_
                rintro e w21 ⟨g4, B21, c21, rfl, hL, hb21, hg21⟩
                have hN21 := hN19.below hb21
                have hM21 := hM19.below hb21
                go_wp2_with fail
                refine (whole_any hL).mono ?_
                rintro e w22 ⟨X4, x4c, rfl, hoX, hb22⟩
                have HTK : Hid ((bd.take s).length = s) := Lib.hid (by rw [List.length_take]; omega)
                rw [HTK.out] at hoX ⊢
                have hN22 := hN21.below hb22
                have hM22 := hM21.below hb22
                go_wp2_with fail
                refine (whole_any hN22.ar).mono ?_
                rintro e w23 ⟨Y4, y4c, rfl, hoY, hb23⟩
                rw [HTK.out] at hoY ⊢
                have hM23 := hM22.below hb23
                have hlt5 : s ≤ 281474976710656 := by omega
                have BX := (own_bytes' hoX hlt5).below hb23
                have BY := own_bytes' hoY hlt5
                clear hoX hoY hL hN21 hM21 hN22 hM22 hN19 hM19 BI BG BW2 hX19
                go_wp2_with fail
                refine (same_any _ _ _ _ _ _ _ _ _ BX BY).mono ?_
                rintro e w24 ⟨rfl, rfl⟩
                go_wp2_with fail
                go_ret
                exact ⟨by simp, hM23.bel⟩
end Go.Proofs.Ytbfnmfakagdpfaa
