/- The document's area, walked: Crash, Load. -/
import Derived.Test.YtbfnmfakagdpfaaRefRead
import Derived.Test.YtbfnmfakagdpfaaAreaC
namespace Go.Proofs.Ytbfnmfakagdpfaa
open Go.RowKit
set_option linter.unusedVariables false
set_option linter.unusedSimpArgs false
theorem docM_torn {w2 wx : World} {O : Nat} {base : Int} {s kp : Nat} {bs : List UInt8} {S : Option Addr} {g c mc : Nat} (h : DocM w2 wx O base (s + kp) (s + kp) s (bs.take (s + kp)) (some ⟨g, 0, none⟩) c S mc) (hk : kp ≠ 0) (t : UInt8) :
    DocM w2 (wx.setCell ⟨g, s + kp - 1, none⟩ (.int .u8 (((bs.getD (s + kp - 1) 0 ^^^ t).toNat : Nat) : Int))) O base (s + kp) (s + kp) s (crashB bs s kp t) (some ⟨g, 0, none⟩) c S mc := by
  have hst := h.oa.stored (s + kp - 1) (.int .u8 (((bs.getD (s + kp - 1) 0 ^^^ t).toNat : Nat) : Int))
  have e : crashB bs s kp t = (bs.take (s + kp)).set (s + kp - 1) (bs.getD (s + kp - 1) 0 ^^^ t) := by unfold crashB; rw [if_neg hk]
  rw [bvals_set7, ← e] at hst
  have hg : w2.heap.size ≤ g := own_base h.oa g rfl
  have e2 : (bs.take (s + kp)).set (s + kp - 1) (bs.getD (s + kp - 1) 0 ^^^ t) = crashB bs s kp t := e.symm
  exact ⟨Blk.grown h.blk hst.2 (own_not_blk7 h.oa h.blk (by decide)), hst.1, h.os.kept hst.2 (own_apart7 h.os h.oa (by decide)), h.b.setCell (p := ⟨g, s + kp - 1, none⟩) hg _, h.lo⟩
/-- What lies in the result's variable behind a call that answered a new area. -/
theorem docTo_ret {w w2 wr : World} {R : Nat} {base : Int} {bs : List UInt8} {s : Nat} {A S : Option Addr} {c mc : Nat} {cs : Array Value} (hA : wr.ownsRow w2.heap.size 5 1 (.slice A bs.length c) bs.length (bvals bs)) (hS : wr.ownsRow w2.heap.size 4 1 (.slice S bs.length mc) bs.length (sv bs.length s)) (hb2 : Below w2.heap.size w2 wr)
    (hR : Blk wr R cs 46) (h3 : cs.size = 3) (hw : w.heap.size ≤ R) (hb : Below w.heap.size w w2) :
    Blk (((wr.setCell ⟨R, 0, none⟩ (.int .i64 base)).setCell ⟨R, 1, none⟩ (.slice A bs.length c)).setCell ⟨R, 2, none⟩ (.slice S bs.length mc)) R #[.int .i64 base, .slice A bs.length c, .slice S bs.length mc] 46 ∧
    (((wr.setCell ⟨R, 0, none⟩ (.int .i64 base)).setCell ⟨R, 1, none⟩ (.slice A bs.length c)).setCell ⟨R, 2, none⟩ (.slice S bs.length mc)).ownsRow w.heap.size 5 1 (.slice A bs.length c) bs.length (bvals bs) ∧
    (((wr.setCell ⟨R, 0, none⟩ (.int .i64 base)).setCell ⟨R, 1, none⟩ (.slice A bs.length c)).setCell ⟨R, 2, none⟩ (.slice S bs.length mc)).ownsRow w.heap.size 4 1 (.slice S bs.length mc) bs.length (sv bs.length s) ∧
    Below w.heap.size w (((wr.setCell ⟨R, 0, none⟩ (.int .i64 base)).setCell ⟨R, 1, none⟩ (.slice A bs.length c)).setCell ⟨R, 2, none⟩ (.slice S bs.length mc)) := by
  have hC := ((chg_set wr R 0 (.int .i64 base)).set (.inl rfl) 1 (.slice A bs.length c)).set (.inl rfl) 2 (.slice S bs.length mc)
  have hB := below_then hb hb2 hb.size
  refine ⟨?_, own_mono (own_chg hA hC (fun k e e2 => own_not_blk7 hA hR (by decide) (by rw [e, e2]))) hb.size, own_mono (own_chg hS hC (fun k e e2 => own_not_blk7 hS hR (by decide) (by rw [e, e2]))) hb.size, hB.trans (hC.below hB.size (fun k e => e ▸ hw))⟩
  have := Blk.set (Blk.set (Blk.set hR 0 (.int .i64 base)) 1 (.slice A bs.length c)) 2 (.slice S bs.length mc)
  rcases cs with ⟨_ | ⟨a, _ | ⟨b, _ | ⟨c, _ | ⟨d, l⟩⟩⟩⟩⟩ <;> simp at h3
  exact this
set_option maxHeartbeats 3200000 in
theorem refCrash_any (base : Int) (A : Option Addr) (n c : Nat) (S : Option Addr) (mc s : Nat) (bs : List UInt8) (w : World) (keep x : Int) (t : UInt8) (hx : x = ((t.toNat : Nat) : Int)) (hk1 : -9223372036854775808 ≤ keep) (hk2 : keep ≤ 9223372036854775807) (hA : Bytes w A n bs) (hS : Safes w S n s) (hs : s ≤ n) (hn : n ≤ 214748364800000) (h0 : 0 ≤ base) (h1 : base + n ≤ 4612811918334230528) :
    Calls Try.prog 35 #[.agg #[.int .i64 base, .slice A n c, .slice S n mc], .int .i64 keep, .int .u8 x] w (DocTo w base (crashB bs s (crashK n s keep) t) (s + crashK n s keep)) := by
  have hB1 := below_alloc w (.cells #[.int .i64 base, .slice A n c, .slice S n mc] 46)
  have hD1 := Blk.fresh w #[.int .i64 base, .slice A n c, .slice S n mc] 46
  have hb2 := below_alloc (w.alloc (.cells #[.int .i64 base, .slice A n c, .slice S n mc] 46)) (.cells #[.int .i64 0, .slice none 0 0, .slice none 0 0] 46)
  have hR2 := Blk.fresh (w.alloc (.cells #[.int .i64 base, .slice A n c, .slice S n mc] 46)) #[.int .i64 0, .slice none 0 0, .slice none 0 0] 46
  have hB2 := below_then hB1 hb2 hB1.size
  have hD2 : Blk _ _ _ _ := hD1.keep hb2
  have hz : (w.alloc (.cells #[.int .i64 base, .slice A n c, .slice S n mc] 46)).heap.size = w.heap.size + 1 := by simp
  rw [hz] at hR2
  have HXX := Lib.hid hx
  clear hx
  have hkp := crashK_le n s keep hs
  have HK : Hid (crashK n s keep = (max 0 (min keep ((n - s : Nat) : Int))).toNat) := Lib.hid rfl
  generalize crashK n s keep = kp at *
  go_enter Try.func35, Try.ntmps35
  go_wp2_with fail
  generalize (w.alloc (.cells #[.int .i64 base, .slice A n c, .slice S n mc] 46)).alloc (.cells #[.int .i64 0, .slice none 0 0, .slice none 0 0] 46) = w2 at *
  obtain ⟨G, hG⟩ : ∃ G, w.heap.size = G := ⟨_, rfl⟩
  rw [hG] at hR2 hD2 ⊢
  have HG := Lib.hid hG
  clear hG hb2 hB1 hD1 hz
  have HLb := Lib.hid hA.1
  have d0 : w2.cell? ⟨G, 0, none⟩ = some (.int .i64 base) := hD2.cell 0
  have d1 : w2.cell? ⟨G, 1, none⟩ = some (.slice A n c) := hD2.cell 1
  have d2 : w2.cell? ⟨G, 2, none⟩ = some (.slice S n mc) := hD2.cell 2
  refine (refCopy_any base A n c S mc s bs w2 (hA.below hB2) (hS.below hB2) hs hn).mono ?_
  rintro e w4 ⟨A3, c3, A4, c4, rfl, ho3, ho4, hb4⟩
  have hcA := own_cap7 ho3
  have hcS := own_cap7 ho4
  have hM0 := docM_alloc (base := base) ho3 ho4 hb4
  have hD5 := hD2.keep hM0.b
  clear ho3 ho4 hb4 d0 d1 d2
  go_wp2_with fail
  generalize w4.alloc (.cells #[.int .i64 base, .slice A3 n c3, .slice A4 n c4] 46) = w5 at *
  generalize w4.heap.size = O at *
  have hB5 := below_then hB2 hM0.b hB2.size
  have hS5 := hS.below hB5
  have kk := keepDoc hD5 (Below.refl _ w5).drew
  have hbn : base + (n : Int) ≤ 9223372036854775807 := by omega
  have hw : IntKind.i64.wrap (base + (s : Int) - base) = (s : Int) := by rw [show base + (s : Int) - base = s by omega]; exact IntWalk.i64_in _ (by omega)
  go_cut [8] from 12 to 16 (fun v wx => v = .int .i64 s ∧ Below w5.heap.size w5 wx)
  case first =>
    go_region_held3 (fun w' => w'.cell? ⟨G, 0, none⟩ = some (.int .i64 base) ∧ w'.cell? ⟨G, 1, none⟩ = some (.slice A n c) ∧ w'.cell? ⟨G, 2, none⟩ = some (.slice S n mc) ∧ Below w5.heap.size w5 w')
      (first | exact kk | exact kS)
      (first | (go_at_call 33; refine (refSafeEnd_any base _ S n mc s _ (hS5.below (hd4 (by assumption))) h0 hbn hs).mono ?_; rintro e w6 ⟨rfl, hb6'⟩; have hb6 := hd4b hb6' (by assumption); have kS := keepDoc hD5 hb6))
    all_goals go_wp2_with fail
    all_goals go_meet
    all_goals exact ⟨by first | rfl | simp, hb6⟩
  case rest =>
    obtain ⟨rfl, hb6⟩ := hcut
    clear hw kk
    have hM6 := hM0.below hb6
    have hD6 := hD5.keep hb6
    have hR6 := (hR2.keep hM0.b).keep hb6
    clear hM0 hb6 hS5 hD5
    have o1 : wc.cell? ⟨O, 1, none⟩ = some (.slice A3 n c3) := hM6.blk.cell 1
    have o2 : wc.cell? ⟨O, 2, none⟩ = some (.slice A4 n c4) := hM6.blk.cell 2
    have f1 := hM6.blk.frozen 1
    have f2 := hM6.blk.frozen 2
    go_upto_if 23 with fail
    go_cut [1] from 23 to 23 (fun v wx => v = .int .i64 (max keep 0) ∧ wc = wx)
    case first =>
      by_cases hk : keep < 0
      · go_wp2_with fail
        go_meet
        exact ⟨by congr 1; omega, rfl⟩
      · have hk' : decide (keep < 0) = false := decide_eq_false hk
        go_wp2_with fail
        go_meet
        exact ⟨by congr 1; omega, rfl⟩
    case rest =>
      obtain ⟨rfl, rfl⟩ := hcut
      obtain ⟨q, hq⟩ : ∃ q, max keep 0 = q := ⟨_, rfl⟩
      rw [hq]
      have hq0 : 0 ≤ q := by omega
      have HQ := Lib.hid hq
      clear hq
      go_upto_if 26 with fail
      go_cut [9] from 26 to 27 (fun v wx => v = .int .i64 kp ∧ wc = wx)
      case first =>
        by_cases hl : q < (n : Int) - (s : Int)
        · go_wp2_with fail
          go_meet
          exact ⟨by congr 1; have := HK.out; have := HQ.out; omega, rfl⟩
        · have hl' : decide (q < (n : Int) - (s : Int)) = false := decide_eq_false hl
          go_wp2_with fail
          go_meet
          exact ⟨by congr 1; have := HK.out; have := HQ.out; omega, rfl⟩
      case rest =>
        obtain ⟨rfl, rfl⟩ := hcut
        have hkA : s + kp ≤ c3 := by omega
        have hkS : s + kp ≤ c4 := by omega
        go_wp2_with fail
        go_cut [28] from 29 to 41 (fun u wx => DocM w2 wx O base (s + kp) (s + kp) s (bs.take (s + kp)) A3 c3 A4 c4)
        case first =>
          go_region
          all_goals go_wp2_with fail
          all_goals go_meet
          all_goals exact (docM_cut hM6 (s + kp) hkp).below (below_drew7 _ 1)
        case rest =>
          clear hM6 hD6 hR6 o1 o2 f1 f2
          have hM := hcut
          have o1 := hM.blk.cell 1
          simp at o1
          go_upto_if 43 with fail
          go_cut [44] from 45 to 54 (fun u wx => DocM w2 wx O base (s + kp) (s + kp) s (crashB bs s kp t) A3 c3 A4 c4)
          case first =>
            by_cases hk0 : kp = 0
            · have hz : decide (0 < (kp : Int)) = false := decide_eq_false (by omega)
              have e : crashB bs s kp t = bs.take (s + kp) := by unfold crashB; rw [if_pos hk0, hk0]; rfl
              have HE := Lib.hid e
              clear e
              go_wp2_with fail
              go_meet
              rw [HE.out]
              exact hM
            · have hz : 0 < (kp : Int) := by omega
              obtain ⟨g, rfl⟩ := hM.aAddr (by omega)
              have hl : (bs.take (s + kp)).length = s + kp := by rw [List.length_take, HLb.out]; omega
              have hcell := (hM.oa.cellAt (s + kp - 1) (by omega)).trans (hx7 bs (s + kp) hl (by omega))
              have hfr := hM.oa.frozenAt (s + kp - 1)
              have HV := Lib.hid (xor_byte7 (bs.getD (s + kp - 1) 0) t)
              have hT := docM_torn hM hk0 t
              have HT := Lib.hid hT
              clear hT
              generalize (((bs.getD (s + kp - 1) 0).toNat : Nat) : Int) = m0 at hcell HV
              have i0 : (0 : Int) ≤ (s : Int) + (kp : Int) - 1 := by omega
              have i1 : (s : Int) + (kp : Int) - 1 < (s : Int) + (kp : Int) := by omega
              go_wp2_with fail
              go_meet
              rw [HXX.out, HV.out]
              exact HT.out
          case rest =>
            clear hM o1
            have hM := hcut
            have hcl := crashB_length bs s kp t (by rw [HLb.out]; exact hkp)
            have o0 := hM.blk.cell 0
            have o1 := hM.blk.cell 1
            have o2 := hM.blk.cell 2
            simp at o0 o1 o2
            have hsk : s + kp ≤ 214748364800000 := by omega
            have hss : s ≤ s + kp := by omega
            have hBy := below_then hB2 hM.b hB2.size
            have HC := Lib.hid hcl
            clear hcl
            have hyA := own_bytes' hM.oa (by omega)
            have hyS := own_safes hM.os (by omega)
            go_wp2_with fail
            refine (refSync_any base A3 (s + kp) c3 A4 c4 s (crashB bs s kp t) _ hyA hyS hss hsk).mono ?_
            intro e w8 h8
            obtain ⟨A5, c5, A6, c6, rfl, ho5, ho6, hb8⟩ := h8.at_
            have hR := (hR2.keep hM.b).keep hb8
            have hF := docTo_ret (w := w) (base := base) ho5 ho6 hb8 hR rfl (by rw [HG.out]; omega) hBy
            rw [HC.out] at hF ⊢
            have g0 : w8.cell? ⟨G + 1, 0, none⟩ = some (.int .i64 0) := hR.cell 0
            have g1 : w8.cell? ⟨G + 1, 1, none⟩ = some (.slice none 0 0) := hR.cell 1
            have g2 : w8.cell? ⟨G + 1, 2, none⟩ = some (.slice none 0 0) := hR.cell 2
            have r0 := hR.frozen 0
            have r1 := hR.frozen 1
            have r2 := hR.frozen 2
            clear o0 o1 o2
            go_wp2
            refine bodyPost_ret (results_cell_row rfl _ _ (G + 1) 46 _ (0, 0) _ rfl hF.1 Try.underlying46 rfl (by kernel_rfl)) rfl ⟨A5, c5, A6, c6, ?_, ?_, ?_, hF.2.2.2⟩
            · rw [HC.out]; rfl
            · rw [HC.out]; exact hF.2.1
            · rw [HC.out]; exact hF.2.2.1
set_option maxHeartbeats 1600000 in
theorem refLoad_any (base : Int) (B : Option Addr) (m bc : Nat) (b : List UInt8) (w : World) (hb : Bytes w B m b) (hm : m ≤ 140737488355328) (h0 : 0 ≤ base) (h1 : base ≤ 4611686018427387904) :
    Calls Try.prog 37 #[.int .i64 base, .slice B m bc] w (DocRet base m b m 0 w) := by
  have hB1 := below_alloc w (.cells #[.int .i64 0, .slice none 0 0, .slice none 0 0] 46)
  have hR1 := Blk.fresh w #[.int .i64 0, .slice none 0 0, .slice none 0 0] 46
  have t1 : decide (base < 0) = false := decide_eq_false (by omega)
  have t2 : decide (4611686018427387904 < base) = false := decide_eq_false (by omega)
  have HL := Lib.hid hb.1
  go_enter Try.func37, Try.ntmps37
  go_wp2_with fail
  have hb2 := below_alloc (w.alloc (.cells #[.int .i64 0, .slice none 0 0, .slice none 0 0] 46)) (.cells #[.int .i64 base, .slice none 0 0, .slice none 0 0] 46)
  have hO2 := Blk.fresh (w.alloc (.cells #[.int .i64 0, .slice none 0 0, .slice none 0 0] 46)) #[.int .i64 base, .slice none 0 0, .slice none 0 0] 46
  have hz : (w.alloc (.cells #[.int .i64 0, .slice none 0 0, .slice none 0 0] 46)).heap.size = w.heap.size + 1 := by simp
  have hR2 : Blk _ _ _ _ := hR1.keep hb2
  have hB2 := below_then hB1 hb2 hB1.size
  rw [hz] at hO2
  generalize (w.alloc (.cells #[.int .i64 0, .slice none 0 0, .slice none 0 0] 46)).alloc (.cells #[.int .i64 base, .slice none 0 0, .slice none 0 0] 46) = w2 at *
  obtain ⟨G, hG⟩ : ∃ G, w.heap.size = G := ⟨_, rfl⟩
  rw [hG] at hR2 hO2 ⊢
  have HG := Lib.hid hG
  clear hG hb2 hR1 hz hB1
  refine (refAppend_any base none 0 0 none 0 0 [] B m bc b w2 (Bytes.empty _ _) (Safes.empty _ _ _) (Nat.le_refl _) (hb.below hB2) (by omega)).mono ?_
  intro e w3 h3
  rw [List.nil_append] at h3
  obtain ⟨A3, c3, A4, c4, rfl, ho3, ho4, hb3⟩ := h3.at_
  rw [HL.out] at ho3 ho4 ⊢
  have hO3 := hO2.keep hb3
  have hR3 := hR2.keep hb3
  have d0 : w3.cell? ⟨G + 1, 0, none⟩ = some (.int .i64 base) := hO3.cell 0
  have d1 : w3.cell? ⟨G + 1, 1, none⟩ = some (.slice none 0 0) := hO3.cell 1
  have d2 : w3.cell? ⟨G + 1, 2, none⟩ = some (.slice none 0 0) := hO3.cell 2
  have f0 := hO3.frozen 0
  have f1 := hO3.frozen 1
  have f2 := hO3.frozen 2
  have hC := ((chg_set w3 (G + 1) 0 (.int .i64 base)).set (.inl rfl) 1 (.slice A3 m c3)).set (.inl rfl) 2 (.slice A4 m c4)
  have hO4 : Blk _ (G + 1) #[.int .i64 base, .slice A3 m c3, .slice A4 m c4] 46 := Blk.set (Blk.set (Blk.set hO3 0 (.int .i64 base)) 1 (.slice A3 m c3)) 2 (.slice A4 m c4)
  have ho3' := own_chg ho3 hC (fun k e e2 => own_not_blk7 ho3 hO3 (by decide) (by rw [e, e2]))
  have ho4' := own_chg ho4 hC (fun k e e2 => own_not_blk7 ho4 hO3 (by decide) (by rw [e, e2]))
  have hR4 := hR3.chg hC (by omega)
  have hB3 := below_then hB2 hb3 hB2.size
  have hB4 := hB3.trans (hC.below hB3.size (fun k e => by have := HG.out; omega))
  go_wp2_with fail
  generalize ((w3.setCell ⟨G + 1, 0, none⟩ (.int .i64 base)).setCell ⟨G + 1, 1, none⟩ (.slice A3 m c3)).setCell ⟨G + 1, 2, none⟩ (.slice A4 m c4) = w4 at *
  refine (refSync_any base A3 m c3 A4 c4 0 b w4 (own_bytes' ho3' (by omega)) (own_safes ho4' (by omega)) (Nat.zero_le _) (by omega)).mono ?_
  intro e w8 h8
  obtain ⟨A5, c5, A6, c6, rfl, ho5, ho6, hb8⟩ := h8.at_
  have hR := hR4.keep hb8
  have hF := docTo_ret (w := w) (base := base) ho5 ho6 hb8 hR rfl (by rw [HG.out]; omega) hB4
  rw [HL.out] at hF ⊢
  clear d0 d1 d2 f0 f1 f2
  have g0 : w8.cell? ⟨G, 0, none⟩ = some (.int .i64 0) := hR.cell 0
  have g1 : w8.cell? ⟨G, 1, none⟩ = some (.slice none 0 0) := hR.cell 1
  have g2 : w8.cell? ⟨G, 2, none⟩ = some (.slice none 0 0) := hR.cell 2
  have r0 := hR.frozen 0
  have r1 := hR.frozen 1
  have r2 := hR.frozen 2
  go_wp2
  exact bodyPost_ret (results_row_tmp rfl _ _ G 46 _ (0, 0) _ rfl hF.1 Try.underlying46 rfl (by kernel_rfl) _ rfl) rfl (docRet_own hF (by omega))
theorem refLoad_no (base : Int) (v : Value) (w : World) (h : base < 0 ∨ 4611686018427387904 < base) :
    Calls Try.prog 37 #[.int .i64 base, v] w fun e w' => e = .returned (.tuple #[.agg #[.int .i64 0, .slice none 0 0, .slice none 0 0], .int .i64 2]) ∧ Below w.heap.size w w' := by
  have hB1 := below_alloc w (.cells #[.int .i64 0, .slice none 0 0, .slice none 0 0] 46)
  by_cases t1 : base < 0
  · go_enter Try.func37, Try.ntmps37
    go_wp2
    exact bodyPost_ret (results_row_tmp rfl _ _ w.heap.size 46 _ (0, 0) _ rfl (Blk.fresh _ _ _) Try.underlying46 rfl (by kernel_rfl) _ rfl) rfl ⟨rfl, hB1⟩
  · have t2 : 4611686018427387904 < base := by omega
    have t1 : decide (base < 0) = false := decide_eq_false t1
    clear h
    go_enter Try.func37, Try.ntmps37
    go_wp2
    exact bodyPost_ret (results_row_tmp rfl _ _ w.heap.size 46 _ (0, 0) _ rfl (Blk.fresh _ _ _) Try.underlying46 rfl (by kernel_rfl) _ rfl) rfl ⟨rfl, hB1⟩
end Go.Proofs.Ytbfnmfakagdpfaa
