/- The law AreaStays, walked. -/
import Derived.Test.YtbfnmfakagdpfaaBeside
import Derived.Test.YtbfnmfakagdpfaaPlayed
import Derived.Test.YtbfnmfakagdpfaaWhole
import Derived.Deep.RegionHeld3
import Derived.Deep.CutRange
import Derived.Deep.CutBlock
namespace Go.Proofs.Ytbfnmfakagdpfaa
open Go.RowKit
set_option linter.unusedVariables false
set_option linter.unusedSimpArgs false
/-- An area from block B on. -/
structure Mine (B : Nat) (w0 w : World) (g : Nat) (A : Option Addr) (c T : Nat) (base : Int) (bs : List UInt8) (s : Nat) : Prop where
  ar : Ar w g A c base bs s
  fr : ∀ q, arF g A q → B ≤ q ∧ q < w.heap.size
  n1 : bs.length ≤ T
  e1 : base + bs.length ≤ 4611686018427387904 + (T : Int)
  bel : Below B w0 w
  le : B ≤ w.heap.size
theorem Mine.below {B : Nat} {w0 w w' : World} {g : Nat} {A : Option Addr} {c T : Nat} {base : Int} {bs : List UInt8} {s : Nat} (h : Mine B w0 w g A c T base bs s) (hb : Below w.heap.size w w') : Mine B w0 w' g A c T base bs s :=
  ⟨h.ar.below hb, fun q e => ⟨(h.fr q e).1, Nat.lt_of_lt_of_le (h.fr q e).2 hb.size⟩, h.n1, h.e1, below_then h.bel hb h.le, Nat.le_trans h.le hb.size⟩
theorem Mine.to {B : Nat} {w0 w w' : World} {g : Nat} {A : Option Addr} {c T T' : Nat} {base base' : Int} {bs bs' : List UInt8} {s s' : Nat} {r : Int} {e : Ending} (h : Mine B w0 w g A c T base bs s) (ht : ArTo w (arF g A) g base' bs' s' r e w')
    (hn : bs'.length ≤ T') (he : base' + bs'.length ≤ 4611686018427387904 + (T' : Int)) : e = .returned (.int .i64 r) ∧ ∃ A' c', Mine B w0 w' g A' c' T' base' bs' s' ∧ Chg (arF g A) w w' ∧ ∀ q, arF g A' q → arF g A q ∨ w.heap.size ≤ q := by
  obtain ⟨h1, A', c', hA, hC, hF⟩ := ht
  have hs : w.heap.size ≤ w'.heap.size := hC.size
  have hq : ∀ q, arF g A' q → arF g A q ∨ w.heap.size ≤ q := fun q e => e.elim (fun e => .inl (.inl e)) (fun e => hF q e)
  refine ⟨h1, A', c', ⟨hA, fun q e => ⟨?_, ?_⟩, hn, he, h.bel.trans (hC.below h.le (fun q e => (h.fr q e).1)), Nat.le_trans h.le hs⟩, hC, hq⟩
  · rcases hq q e with e | e
    · exact (h.fr q e).1
    · exact Nat.le_trans h.le e
  · rcases e with e | e
    · subst e; exact hA.blk.lt
    · exact (own_lt7 hA.own q e).2
theorem Mine.mono {B : Nat} {w0 w : World} {g : Nat} {A : Option Addr} {c T T' : Nat} {base : Int} {bs : List UInt8} {s : Nat} (h : Mine B w0 w g A c T base bs s) (hT : T ≤ T') : Mine B w0 w g A c T' base bs s :=
  ⟨h.ar, h.fr, Nat.le_trans h.n1 hT, by have := h.e1; omega, h.bel, h.le⟩
/-- An area that keeps the bytes bf ahead of its safe end; bf lies elsewhere. -/
def Held (B : Nat) (w0 w : World) (g T : Nat) (base : Int) (R : Option Addr) (n0 : Nat) (bf : List UInt8) : Prop :=
  ∃ A c bs s, Mine B w0 w g A c T base bs s ∧ n0 ≤ s ∧ bs.take n0 = bf ∧ Bytes w R n0 bf ∧ ∀ q, blkO R = some q → q < w.heap.size ∧ ¬ arF g A q
theorem held_to {B : Nat} {w0 w w' : World} {g : Nat} {A : Option Addr} {c T T' : Nat} {base : Int} {bs bs' : List UInt8} {s s' : Nat} {r : Int} {e : Ending} {R : Option Addr} {n0 : Nat} {bf : List UInt8} (hM : Mine B w0 w g A c T base bs s) (hR : Bytes w R n0 bf) (hF : ∀ q, blkO R = some q → q < w.heap.size ∧ ¬ arF g A q)
    (ht : ArTo w (arF g A) g base bs' s' r e w') (hn : bs'.length ≤ T') (he : base + bs'.length ≤ 4611686018427387904 + (T' : Int)) (h1 : n0 ≤ s') (h2 : bs'.take n0 = bf) : e = .returned (.int .i64 r) ∧ Chg (arF g A) w w' ∧ Held B w0 w' g T' base R n0 bf := by
  obtain ⟨he, A', c', hM', hC, hq⟩ := hM.to ht hn he
  exact ⟨he, hC, A', c', bs', s', hM', h1, h2, hR.chg hC (fun q e e2 => (hF q e).2 e2), fun q e => ⟨Nat.lt_of_lt_of_le (hF q e).1 hC.size, fun e2 => (hq q e2).elim (hF q e).2 (fun h => by have := (hF q e).1; omega)⟩⟩
theorem crash_take {bs : List UInt8} {s kp n0 : Nat} {t : UInt8} (h : n0 ≤ s) : (crashB bs s kp t).take n0 = bs.take n0 := by
  unfold crashB
  split
  · rw [List.take_take, Nat.min_eq_left h]
  · rw [List.take_set_of_le (by omega), List.take_take, Nat.min_eq_left (by omega)]
theorem u8_wrap9 (b : Int) : ∃ t : UInt8, IntKind.u8.wrap b = ((t.toNat : Nat) : Int) := ⟨UInt8.ofNat (IntKind.u8.wrap b).toNat, by have h1 : IntKind.u8.wrap b = b % 256 := IntKind.wrap_u8' b; rw [UInt8.toNat_ofNat']; omega⟩
set_option maxRecDepth 100000 in
set_option maxHeartbeats 3200000 in
theorem areaStays_any (A : Option Addr) (n c : Nat) (xs : List StepR) (A2 : Option Addr) (n2 c2 : Nat) (ys : List StepR) (w : World) (h : RecS IsStep w 4 A n xs) (hn : n ≤ 140737488351232) (h2 : RecS IsStep w 4 A2 n2 ys) (hn2 : n2 ≤ 140737488351232) :
    Calls Try.prog 7 #[.slice A n c, .slice A2 n2 c2] w fun e w' => e = .returned (.bool true) ∧ Below w.heap.size w w' := by
  have hb1 := below_alloc w (.cells #[.slice A n c, .slice A2 n2 c2] 40)
  have HLn := Lib.hid h.1
  have HLn2 := Lib.hid h2.1
  go_enter Try.func7, Try.ntmps7
  go_wp2_with fail
  refine (vast_any _ 2 _ [xs, ys] _ (scr_two h hn h2 hn2 _) (by omega)).mono ?_
  rintro e w1 ⟨b, rfl, hb2, hv⟩
  have hB1 := below_then hb1 hb2 hb1.size
  clear hb1 hb2
  cases b with
  | true =>
    go_wp2
    go_ret
    exact ⟨rfl, hB1⟩
  | false =>
    have hv2 : wrN xs n + wrN ys n2 ≤ 1073741824 := by have := hv rfl; rwa [show ([xs, ys] : List (List StepR)).length = 2 from rfl, tot_two, h.1, h2.1] at this
    clear hv
    have HV := Lib.hid hv2
    clear hv2
    have h1 := h.below hB1 (fun _ _ k => IsStep.below hB1 _ _ k)
    go_wp2_with fail
    refine (played_any A n c xs _ h1 hn (by have := HV.out; omega)).mono ?_
    rintro e w2 ⟨g, B, bc, base, bs, s, rfl, hA, hF, hT, hE, hB2⟩
    have hM : Mine w.heap.size w w2 g B bc (wrN xs n) base bs s := ⟨hA, fun q e => ⟨Nat.le_trans hB1.size (hF q e).1, (hF q e).2⟩, hT, hE, below_then hB1 hB2 hB1.size, Nat.le_trans hB1.size hB2.size⟩
    clear hA hF hT hE hB2 h1
    go_wp2_with fail
    refine (awake_any _).mono ?_
    rintro e w3 ⟨rfl, hb3⟩
    have hM3 := hM.below hb3
    clear hM hb3
    go_wp2_with fail
    refine (areaSync_any hM3.ar).mono ?_
    rintro e w4 hs
    obtain ⟨rfl, B4, c4, hM4, _, _⟩ := hM3.to hs hM3.n1 hM3.e1
    clear hM3 hs
    go_wp2_with fail
    refine (whole_any hM4.ar).mono ?_
    rintro e w5 ⟨R, rc, rfl, ho, hb5⟩
    have hM5 := hM4.below hb5
    have hs5 := hb5.size
    have hR5 := own_bytes' ho (by have := hM4.ar.n1; omega)
    have hRF : ∀ q, blkO R = some q → q < w5.heap.size ∧ ¬ arF g B4 q := fun q e => ⟨(own_lt7 ho q e).2, fun e2 => by have := (own_lt7 ho q e).1; have := (hM4.fr q e2).2; omega⟩
    clear hM4 hb5 ho
    obtain ⟨n0, hn0⟩ : ∃ n0, bs.length = n0 := ⟨_, rfl⟩
    have hb0 : bs.take n0 = bs := by rw [← hn0]; exact List.take_length
    generalize hbb : bs = before at hR5
    subst hbb
    have HB := Lib.hid hR5
    clear hR5
    go_wp2_with fail
    go_loopw [9] (fun i wr => ∃ k : Nat, k ≤ n2 ∧ i = .int .i64 k ∧ Held w.heap.size w wr g (wrN xs n + wrN ys k) base R n0 bs) (fun i _ => n2 - (intOf i).toNat)
    case atStart => exact ⟨0, by omega, rfl, B4, c4, bs, bs.length, hM5.mono (by omega), by omega, hb0, hn0 ▸ HB.out, hRF⟩
    case round =>
      clear hM5 hb0 hRF HB
      obtain ⟨k, hk, rfl, B, bc, bs', s', hM, hns, htk, hRb, hRF⟩ := hrel
      by_cases hlt : k < n2
      · obtain ⟨b, o, x, A', l, cc, rfl, hx, hlx, SA⟩ := step_at h2 hM.bel k hlt
        have hw := wr_step HLn2.out hx hlx (by have := HV.out; omega)
        have hmo := wrN_mono ys (k + 1) n2 hlt (by rw [HLn2.out]; exact Nat.le_refl _)
        have hvv := HV.out
        have hsl := hM.ar.sle
        have hn1 := hM.n1
        have he1 := hM.e1
        have hm1 : bs'.length + l ≤ 214748364800000 := by omega
        have hm2 : base + (bs'.length : Int) + (l : Int) ≤ 4612811918334230528 := by omega
        have hT1 : bs'.length + l ≤ wrN xs n + wrN ys (k + 1) := by omega
        have hE1 : base + ((bs'.length + l : Nat) : Int) ≤ 4611686018427387904 + ((wrN xs n + wrN ys (k + 1) : Nat) : Int) := by omega
        have hT2 : wrN xs n + wrN ys k ≤ wrN xs n + wrN ys (k + 1) := by omega
        have hn2' : l ≤ 214748364800000 := by omega
        clear hw hmo hvv hx hlx
        have q0 := SA.r0
        have q1 := SA.r1
        have q2 := SA.r2
        have q3 := SA.r3
        have hd := SA.hb
        have hbw : b < w.heap.size := by
          obtain ⟨b', o', cs', x', e', _, _, ⟨_, _, _, rfl, _⟩, hcell⟩ := h2.at_ k hlt
          injection e' with e'
          injection e' with e1 _
          subst e1
          exact block_lt_of_cell (hcell 0 _ rfl)
        generalize x.kind = kd at q0
        generalize x.a = xa at q1
        generalize x.b = xb at q2
        clear SA
        go_upto_block 2 with fail
        go_cut [51] from 52 to 79 (fun v wx => Held w.heap.size w wx g (wrN xs n + wrN ys (k + 1)) base R n0 bs)
        case first =>
          by_cases k1 : kd = 1
          · subst k1
            have H0 := World.ownsRow_nil wr wr.heap.size 5 1
            go_wp2_with (at_builtin; (refine wpl_append _ rfl _ _ 23 rfl wr.heap.size 5 _ 1 1 Try.underlying23 info_byte7 rfl (by decide) (.slice none 0 0) 0 [] rfl H0 A' l cc (bvals x.d) rfl hd.rdc (bvals_one _) (by decide) (by decide) (by omega) (by simp) ?_); intro A6 c6 w6 ho6 hg6 hne6 hnn6; simp only [Nat.zero_add, List.nil_append] at ho6 ⊢; clear hnn6 hne6)
            have hb6 : Below wr.heap.size wr w6 := (Below.refl _ wr).grown hg6 (by simp) (fun k h => by simp [Value.ownBlock] at h)
            have hM6 := hM.below hb6
            have hl : x.d.length = l := hd.1
            have hb6' := own_bytes' ho6 (by omega)
            refine (areaAppend_any hM6.ar A6 l c6 x.d hb6' hm1 hm2).mono ?_
            intro e w7 hs
            obtain ⟨rfl, _, hH⟩ := held_to hM6 (hRb.below hb6) (fun q e => ⟨Nat.lt_of_lt_of_le (hRF q e).1 hb6.size, (hRF q e).2⟩) hs (by rw [List.length_append, hl]; exact hT1) (by rw [List.length_append, hl]; exact hE1) hns (by rw [List.take_append_of_le_length (by omega)]; exact htk)
            go_wp2_with fail
            go_meet
            exact hH
          have k1' : (kd == 1) = false := by rw [beq_eq_false_iff_ne]; exact k1
          by_cases k2 : kd = 2
          · subst k2
            go_wp2_with fail
            refine (areaSync_any hM.ar).mono ?_
            intro e w7 hs
            obtain ⟨rfl, _, hH⟩ := held_to hM hRb hRF hs (by omega) (by omega) (by omega) htk (T' := wrN xs n + wrN ys (k + 1))
            go_wp2_with fail
            go_meet
            exact hH
          have k2' : (kd == 2) = false := by rw [beq_eq_false_iff_ne]; exact k2
          by_cases k7 : kd = 7
          · subst k7
            obtain ⟨t, ht⟩ := u8_wrap9 xb
            have HT := Lib.hid ht
            clear ht
            have hqb : ¬ arF g B b := fun e => by have := (hM.fr b e).1; have := hbw; omega
            have hwd : Below wr.heap.size wr wr.drew := (Below.refl _ wr).drew
            have hMd := hM.below hwd
            go_upto_region 18 with fail
            go_region_held3 (fun w' => w'.cell? ⟨b, o + k * 4 + 1, none⟩ = some (.int .i64 xa) ∧ w'.cell? ⟨b, o + k * 4 + 2, none⟩ = some (.int .i64 xb))
              (first | exact ⟨q1, q2⟩ | exact kS)
              (first | (go_at_call 18; refine (areaCrash_any hMd.ar xa _ t HT.out).mono ?_; intro e w3 hs; obtain ⟨rfl, hC, hH⟩ := held_to hMd (hRb.below hwd) hRF hs (T' := wrN xs n + wrN ys (k + 1)) (by rw [crashB_length _ _ _ _ (crashK_le _ _ _ hsl)]; have := crashK_le bs'.length s' xa hsl; omega) (by rw [crashB_length _ _ _ _ (crashK_le _ _ _ hsl)]; have := crashK_le bs'.length s' xa hsl; omega) (by omega) ((crash_take hns).trans htk); have kS := And.intro (hC.cell q1 hqb) (hC.cell q2 hqb)))
            all_goals go_wp2_with fail
            all_goals go_meet
            all_goals exact hH
          have k7' : (kd == 7) = false := by rw [beq_eq_false_iff_ne]; exact k7
          go_wp2_with fail
          go_meet
          exact ⟨B, bc, bs', s', hM.mono hT2, hns, htk, hRb, hRF⟩
        case rest =>
          obtain ⟨B2, bc2, bs2, s2, hM2, hns2, htk2, hR2, hF2⟩ := hcut
          have hsl2 := hM2.ar.sle
          have b02 := hM2.ar.b0
          have b12 := hM2.ar.b1
          have n12 := hM2.ar.n1
          clear q0 q1 q2 q3 hd hM hns htk hRb hRF hm1 hm2 hT1 hE1 hT2 hn2' hsl hn1 he1
          go_wp2_with fail
          refine (areaRead_at hM2.ar _ _ 0 n0 (by simp) rfl (by omega)).mono ?_
          rintro e w8 ⟨R8, c8, rfl, ho8, hb8⟩
          rw [List.drop_zero, htk2] at ho8
          have hM8 := hM2.below hb8
          have hR8 := hR2.below hb8
          go_wp2_with fail
          refine (areaBounds_any hM8.ar).mono ?_
          rintro e w9 ⟨rfl, m, rfl⟩
          have hb9 := below_drew7 w8 m
          have hM9 := hM8.below hb9
          have hR9 := hR8.below hb9
          have h89 := (own_bytes' ho8 (by omega)).below hb9
          have hz9 := Nat.le_trans hb8.size hb9.size
          clear ho8 hM8 hR8 hR2
          go_wp2_with fail
          refine (same_any _ _ _ _ _ _ _ _ _ h89 hR9).mono ?_
          rintro e w10 ⟨rfl, rfl⟩
          rw [show (bs == bs) = true from beq_self_eq_true _]
          have t1 : IntKind.i64.wrap (base + (n0 : Int)) = base + (n0 : Int) := IntWalk.i64_in _ (by omega)
          have t2 : decide (base + (s2 : Int) < base + (n0 : Int)) = false := decide_eq_false (by omega)
          have t3 : decide (base + (bs2.length : Int) < base + (s2 : Int)) = false := decide_eq_false (by omega)
          go_wp2_with fail
          go_roundw
          case rel => exact ⟨k + 1, by omega, by go_num, B2, bc2, bs2, s2, hM9, hns2, htk2, hR9, fun q e => ⟨Nat.lt_of_lt_of_le (hF2 q e).1 hz9, (hF2 q e).2⟩⟩
          case measure => simp [intOf]; omega
      · obtain rfl : k = n2 := by omega
        go_wp2
        go_ret
        exact ⟨rfl, hM.bel⟩
end Go.Proofs.Ytbfnmfakagdpfaa
