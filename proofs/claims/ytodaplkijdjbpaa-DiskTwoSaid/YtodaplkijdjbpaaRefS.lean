/- The document's disk, walked: Strike. -/
import Derived.Test.YtodaplkijdjbpaaRefA
import Derived.Deep.CutBlock
namespace Go.Proofs.Ytodaplkijdjbpaa
open Go.RowKit
set_option linter.unusedVariables false
set_option linter.unusedSimpArgs false
def Pa.struck (P : Pd) (a : Pa) : Pa := (a.crash (P.fate a)).arm Ft.no
def Pd.strR (P : Pd) (k : Nat) : Pd := { P with p := fun j => if j < k then (P.p j).struck P else P.p j }
theorem strR_zero (P : Pd) : P.strR 0 = P := by simp [Pd.strR]
theorem strR_succ (P : Pd) (k : Nat) : (P.strR k).set k ((P.p k).struck P) = P.strR (k + 1) := by
  simp only [Pd.set, Pd.strR]
  congr 1
  funext j
  by_cases e : j = k
  · subst e; rw [upd_same, if_pos (by omega)]
  · rw [upd_other _ _ _ _ e]
    by_cases e2 : j < k
    · rw [if_pos e2, if_pos (by omega)]
    · rw [if_neg e2, if_neg (by omega)]
/-- The bytes when k of the loose ones are kept. -/
def strkB (bs : List UInt8) (s kp : Nat) (t : UInt8) (k : Nat) : List UInt8 := if k = kp then crashB bs s kp t else bs.take (s + k)
theorem strkB_zero (bs : List UInt8) (s kp : Nat) (t : UInt8) : strkB bs s kp t 0 = bs.take s := by
  unfold strkB crashB
  split
  · rename_i h; rw [if_pos h.symm]
  · rfl
theorem take_push {bs : List UInt8} {n : Nat} (h : n < bs.length) : bs.take (n + 1) = bs.take n ++ [bs.getD n 0] := by
  rw [List.take_succ_eq_append_getElem h]
  simp [List.getD_eq_getElem?_getD, h]
theorem strkB_push {bs : List UInt8} {s kp : Nat} {t : UInt8} {k : Nat} (hk : k < kp) (hl : s + kp ≤ bs.length) (hn : k + 1 ≠ kp) : strkB bs s kp t (k + 1) = strkB bs s kp t k ++ [bs.getD (s + k) 0] := by
  unfold strkB
  rw [if_neg hn, if_neg (by omega), ← Nat.add_assoc, take_push (by omega)]
theorem strkB_torn {bs : List UInt8} {s kp : Nat} {t : UInt8} {k : Nat} (hl : s + kp ≤ bs.length) (hn : k + 1 = kp) : strkB bs s kp t (k + 1) = strkB bs s kp t k ++ [bs.getD (s + k) 0 ^^^ t] := by
  subst hn
  unfold strkB crashB
  rw [if_pos rfl, if_neg (by omega), if_neg (by omega), ← Nat.add_assoc, take_push (by omega), Nat.add_sub_cancel]
  have h1 : (bs.take (s + k)).length = s + k := by rw [List.length_take]; omega
  rw [List.set_append, if_neg (by omega), h1, Nat.sub_self]
  rfl
theorem drop_getD (bs : List UInt8) (s k : Nat) : (bs.drop s).getD k 0 = bs.getD (s + k) 0 := by simp [List.getD_eq_getElem?_getD]
theorem keep_last {n s : Nat} {keep : Int} {k : Nat} (hs : s ≤ n) (h1 : (k : Int) < keep) (h2 : k < n - s) : k + 1 ≤ crashK n s keep ∧ (k + 1 = crashK n s keep ↔ ((k : Int) = keep - 1 ∨ k = n - s - 1)) := by
  unfold crashK
  omega
theorem keep_stop {n s : Nat} {keep : Int} {k : Nat} (hs : s ≤ n) (h0 : k ≤ crashK n s keep) (h1 : keep ≤ (k : Int) ∨ k = n - s) : k = crashK n s keep := by
  unfold crashK at h0 ⊢
  omega
theorem fate_new {w : World} (f : Ft) : Below w.heap.size w (w.alloc (.cells #[.int .i64 f.d, .int .i64 f.k, .int .u8 ((f.t.toNat : Nat) : Int)] 55)) ∧ Blk (w.alloc (.cells #[.int .i64 f.d, .int .i64 f.k, .int .u8 ((f.t.toNat : Nat) : Int)] 55)) w.heap.size #[.int .i64 f.d, .int .i64 f.k, .int .u8 ((f.t.toNat : Nat) : Int)] 55 := ⟨below_alloc _ _, Blk.fresh _ _ _⟩
set_option maxHeartbeats 6400000 in
theorem refStrike_any {w : World} {A0 : Option Addr} {P : Pd} {F : Nat → Prop} {K : Nat} (h : RAt w A0 P F) (hF : ∀ k, F k → k < w.heap.size) (hl : P.lim K) (hK : K ≤ 4294967296) (c0 : Nat) :
    Calls Try.prog 61 #[rV P A0 c0] w (RTo P.strike F w) := by
  have hn := hl.n1
  obtain ⟨q, rfl⟩ := h.addr
  unfold rV
  obtain ⟨ar, har⟩ : ∃ ar, P.armed = ar := ⟨_, rfl⟩
  have HAR := Lib.hid har
  have x1 := below_alloc w (.cells #[.slice (some ⟨q, 0, none⟩) P.n c0, .bool P.armed] 48)
  have b1 := Blk.fresh w #[.slice (some ⟨q, 0, none⟩) P.n c0, .bool P.armed] 48
  have z1 : w.heap.size < (w.alloc (.cells #[.slice (some ⟨q, 0, none⟩) P.n c0, .bool P.armed] 48)).heap.size := by simp
  generalize hw1 : w.alloc (.cells #[.slice (some ⟨q, 0, none⟩) P.n c0, .bool P.armed] 48) = w1 at *
  have x2 := below_alloc w1 (.cells #[.slice none 0 0, .bool false] 48)
  have b2 := Blk.fresh w1 #[.slice none 0 0, .bool false] 48
  have d1 := b1.keep x2
  have y2 := below_then x1 x2 x1.size
  have hz2 := x2.size
  generalize hw2 : w1.alloc (.cells #[.slice none 0 0, .bool false] 48) = w2 at *
  have LP : Lp w w2 w.heap.size w1.heap.size q P (P.strR 0) F (some ⟨q, 0, none⟩) c0 :=
    ⟨d1, b2, by rw [strR_zero]; exact (h.below y2).mono (fun k e => ⟨.inl e, by have := hF k e; omega, by have := hF k e; omega⟩), h.below y2, y2, Nat.le_refl _, by omega, by omega⟩
  have g0 : w2.cell? ⟨w.heap.size, 0, none⟩ = some (.slice (some ⟨q, 0, none⟩) P.n c0) := d1.cell 0
  rw [har] at hw1 ⊢
  have HLP := Lib.hid LP
  have HFF := Lib.hid hF
  have HL := Lib.hid hl
  clear h hF hl x1 b1 x2 b2 d1 y2 LP hz2 har
  go_enter Try.func61, Try.ntmps61
  go_wp2_with fail
  go_loopw [12] (fun i wr => ∃ k : Nat, ∃ Ak ck, k ≤ P.n ∧ i = .int .i64 k ∧ Hid (Lp w wr w.heap.size w1.heap.size q P (P.strR k) F Ak ck)) (fun i _ => P.n - (intOf i).toNat)
  case atStart => exact ⟨0, _, _, Nat.zero_le _, rfl, HLP⟩
  case round =>
    clear g0 HLP hw1 hw2
    obtain ⟨k, Ak, ck, hk, rfl, HLP⟩ := hrel
    by_cases hlt : k < P.n
    · have hj0 : (0 : Int) ≤ (k : Int) := by omega
      have hj1 : (k : Int) < (P.n : Int) := by omega
      obtain ⟨q', B, cc, hq', a0, a1, a2, a3, a4, a5, a6, a7, a8⟩ := HLP.out.r0.at_ k hlt
      injection hq' with hq'
      injection hq' with hq'
      subst hq'
      have HPA : Hid ((P.strR k).set k ((P.p k).struck P) = P.strR (k + 1)) := Lib.hid (strR_succ P k)
      have hla := HL.out.a k hlt
      have l1 := hla.b0
      have l3 := hla.n
      have l4 := hla.s
      have l6 := hla.f
      obtain ⟨pa, hpa⟩ : ∃ pa, P.p k = pa := ⟨_, rfl⟩
      rw [hpa] at a0 a1 a2 a3 a4 a5 a6 a7 a8 HPA l1 l3 l4 l6
      clear hpa hla
      have hx0 := below_alloc wr (.cells (rArr pa B cc) 96)
      have hA0 := Blk.fresh wr (rArr pa B cc) 96
      have hO1 := a7.below hx0
      have hB01 : Hid (Below wr.heap.size wr (wr.alloc (.cells (rArr pa B cc) 96))) := Lib.hid hx0
      have HX := Lib.hid (And.intro hA0 hO1)
      clear a7 hx0 hA0 hO1
      unfold rArr at HX hB01
      go_upto_region 4 with fail
      generalize wr.alloc (.cells #[.int .i64 pa.base, .int .i64 (pa.safe : Nat), .int .i64 (pa.done : Nat), .slice B pa.bs.length cc, .int .i64 pa.f.d, .int .i64 pa.f.k, .int .u8 ((pa.f.t.toNat : Nat) : Int)] 96) = w3 at *
      have hlw := HLP.out.b.size
      obtain ⟨gA, hgA⟩ : ∃ gA, wr.heap.size = gA := ⟨_, rfl⟩
      rw [hgA] at HX hB01 hlw ⊢
      have HGA := Lib.hid hgA
      clear hgA a0 a1 a2 a3 a4 a5 a6
      have m4 : w3.cell? ⟨gA, 4, none⟩ = _ := HX.out.1.cell 4
      have m5 : w3.cell? ⟨gA, 5, none⟩ = _ := HX.out.1.cell 5
      have m6 : w3.cell? ⟨gA, 6, none⟩ = _ := HX.out.1.cell 6
      simp at m4 m5 m6
      have hl3 := HX.out.1.lt
      have HFN := Lib.hid (fate_new (w := w3) pa.f)
      go_upto_region 5 with fail
      generalize w3.alloc (.cells #[.int .i64 pa.f.d, .int .i64 pa.f.k, .int .u8 ((pa.f.t.toNat : Nat) : Int)] 55) = w4 at *
      obtain ⟨gF, hgF⟩ : ∃ gF, w3.heap.size = gF := ⟨_, rfl⟩
      rw [hgF] at HFN hl3 ⊢
      have HA4 : Hid (Blk w4 gA (rArr pa B cc) 96 ∧ Out F w4 B pa.bs.length pa.bs) := Lib.hid ⟨HX.out.1.keep (by rw [hgF]; exact HFN.out.1), HX.out.2.below (by rw [hgF]; exact HFN.out.1)⟩
      have HB4 : Hid (Below gA wr w4) := Lib.hid (hB01.out.trans (HFN.out.1.mono (by omega)))
      have HF4 := Lib.hid HFN.out.2
      clear hgF m4 m5 m6 HX hB01 HFN
      have HL4 := Lib.hid (HLP.out.below (by rw [HGA.out]; exact HB4.out))
      have g1 : w4.cell? ⟨w.heap.size, 1, none⟩ = some (.bool ar) := by rw [← HAR.out]; exact HL4.out.d.cell 1
      have m0 : w4.cell? ⟨gF, 0, none⟩ = _ := HF4.out.cell 0
      have m1 : w4.cell? ⟨gF, 1, none⟩ = _ := HF4.out.cell 1
      have m2 : w4.cell? ⟨gF, 2, none⟩ = _ := HF4.out.cell 2
      simp at m0 m1 m2
      have mf := HF4.out.frozen
      obtain ⟨f, hf⟩ : ∃ f, P.fate pa = f := ⟨_, rfl⟩
      have hfa : f = if ar then pa.f else Ft.no := by rw [← hf, ← HAR.out]; rfl
      have HFT := Lib.hid hf
      have HFA := Lib.hid hfa
      have lf : f.ok := by rw [hfa]; split; exact l6; exact Ft.no_ok
      obtain ⟨lf0, lf1, lf2, lf3⟩ := lf
      clear hf hfa l6
      go_upto_if 21 with fail
      go_cut [17] from 17 to 22 (fun v wx => Hid (Blk wx gF #[.int .i64 f.d, .int .i64 f.k, .int .u8 ((f.t.toNat : Nat) : Int)] 55) ∧ Hid (Chg (fun q => q = gF) w4 wx))
      case first =>
        cases ar with
        | true =>
          have hff : f = pa.f := HFA.out
          have HFE := Lib.hid hff
          clear hff
          go_wp2_with fail
          go_meet
          exact ⟨by rw [HFE.out]; exact HF4, Lib.hid (Chg.refl _ _)⟩
        | false =>
          have hff : f = Ft.no := HFA.out
          have HFE := Lib.hid hff
          clear hff
          go_wp2_with fail
          go_meet
          exact ⟨by rw [HFE.out]; exact Lib.hid (((HF4.out.set 0 (.int .i64 0)).set 1 (.int .i64 0)).set 2 (.int .u8 0)), Lib.hid (((chg_set w4 gF 0 (.int .i64 0)).set (.inl rfl) 1 _).set (.inl rfl) 2 _)⟩
      case rest =>
        obtain ⟨HF5, HC5⟩ := hcut
        have hAc : Blk wc gA (rArr pa B cc) 96 := HA4.out.1.chg HC5.out (by omega)
        have hOc : Out F wc B pa.bs.length pa.bs := HA4.out.2.chg (HC5.out.mono (fun k e e2 => by subst e; have := HFF.out k e2; omega))
        have hBc : Below gA wr wc := HB4.out.trans (HC5.out.below (Nat.le_of_lt HA4.out.1.lt) (fun k e => by subst e; omega))
        have HLc := Lib.hid (HLP.out.below (by rw [HGA.out]; exact hBc))
        have HAc := Lib.hid (And.intro hAc hOc)
        have HFc := HF5
        clear g1 m0 m1 m2 mf HA4 HB4 HF4 HL4 HLP HC5 HF5 hBc
        have x5 := below_alloc wc (.cells #[] 5)
        have o5 := World.ownsRow_made (e := 5) (size := 1) (base := wc.heap.size) wc #[] 0 (Nat.le_refl _) (by simp [maxLen]) rfl
        have o5' : (wc.alloc (.cells #[] 5)).ownsRow wc.heap.size 5 1 (.slice (some ⟨wc.heap.size, 0, none⟩) 0 0) 0 [] := o5
        have hB5 := (hOc.1.take pa.safe l4).below x5
        have k3 : (wc.alloc (.cells #[] 5)).cell? ⟨gA, 3, none⟩ = some (.slice B pa.bs.length cc) := (hAc.keep x5).cell 3
        have k1 : (wc.alloc (.cells #[] 5)).cell? ⟨gA, 1, none⟩ = some (.int .i64 (pa.safe : Nat)) := (hAc.keep x5).cell 1
        have hsc : (pa.safe : Int) ≤ (cc : Int) := by omega
        have hs0 : (0 : Int) ≤ (pa.safe : Int) := by omega
        have hsl : (pa.safe : Int) ≤ (pa.bs.length : Int) := by omega
        clear o5 hAc hOc
        go_upto_region 8 with (at_builtin; ((refine wpl_append _ rfl _ _ 30 rfl wc.heap.size 5 _ 1 1 Try.underlying30 info_byte7 rfl (by decide) (.slice (some ⟨wc.heap.size, 0, none⟩) 0 0) 0 [] rfl o5' B pa.safe cc _ rfl hB5.rdc (bvals_one _) (by decide) (by decide) (by omega) x5.size ?_); intro A6 c6 w6 ho6 hg6 hne6 hnn6; simp only [Nat.zero_add, List.nil_append] at ho6 ⊢; clear hnn6 hne6))
        have hB6 := x5.grown hg6 x5.size (own_base o5')
        have q3 : w6.cell? ⟨gA, 3, none⟩ = some (.slice B pa.bs.length cc) := (HAc.out.1.keep hB6).cell 3
        have q1 : w6.cell? ⟨gA, 1, none⟩ = some (.int .i64 (pa.safe : Nat)) := (HAc.out.1.keep hB6).cell 1
        have HX6 := Lib.hid (bytes_opt HAc.out.2.1 pa.safe l4 a8)
        have HO6 := Lib.hid ho6
        have HB6 := Lib.hid hB6
        clear x5 o5' hB5 k3 k1 hg6 ho6 hB6
        go_upto_block 2 with fail
        generalize (if cc = pa.safe then B else Option.map (fun x => x.add pa.safe) B) = BX at *
        obtain ⟨kp, hkp⟩ : ∃ kp, crashK pa.bs.length pa.safe f.k = kp := ⟨_, rfl⟩
        have HKP := Lib.hid hkp
        have hkl := crashK_le pa.bs.length pa.safe f.k l4
        rw [hkp] at hkl
        clear hkp q3 q1
        go_cut [6] from 36 to 69 (fun v wx => ∃ A6 c6, v = .slice A6 (pa.safe + kp) c6 ∧ Hid (wx.ownsRow wc.heap.size 5 1 (.slice A6 (pa.safe + kp) c6) (pa.safe + kp) (bvals (crashB pa.bs pa.safe kp f.t))) ∧ Hid (Below wc.heap.size wc wx))
        case first =>
          go_wp2_with fail
          go_loopw [6, 36] (fun b i wx => ∃ m : Nat, ∃ A c, m ≤ kp ∧ i = .int .i64 m ∧ b = .slice A (pa.safe + m) c ∧ wx.ownsRow wc.heap.size 5 1 (.slice A (pa.safe + m) c) (pa.safe + m) (bvals (strkB pa.bs pa.safe kp f.t m)) ∧ Hid (Below wc.heap.size wc wx)) (fun _ i _ => kp - (intOf i).toNat)
          case atStart => exact ⟨0, A6, c6, Nat.zero_le _, rfl, rfl, by rw [strkB_zero]; exact HO6.out, HB6⟩
          case round =>
            obtain ⟨m, A, c, hm, rfl, rfl, hO, HB⟩ := hrel
            have HO := Lib.hid hO
            clear hO
            have HD : m = kp → Hid (wr.ownsRow wc.heap.size 5 1 (.slice A (pa.safe + m) c) (pa.safe + m) (bvals (crashB pa.bs pa.safe kp f.t))) := fun e => Lib.hid (by have := HO.out; unfold strkB at this; rw [if_pos e] at this; exact this)
            have f1 : wr.cell? ⟨gF, 1, none⟩ = some (.int .i64 f.k) := (HFc.out.keep HB.out).cell 1
            have f2 : wr.cell? ⟨gF, 2, none⟩ = some (.int .u8 ((f.t.toNat : Nat) : Int)) := (HFc.out.keep HB.out).cell 2
            have b1 : wr.cell? ⟨gA, 1, none⟩ = some (.int .i64 (pa.safe : Nat)) := (HAc.out.1.keep HB.out).cell 1
            have b3 : wr.cell? ⟨gA, 3, none⟩ = some (.slice B pa.bs.length cc) := (HAc.out.1.keep HB.out).cell 3
            by_cases hlt2 : m < pa.bs.length - pa.safe
            · have HBX := HX6.out.below HB.out
              obtain ⟨bb, bo, x, rfl, hx, hxv⟩ := HBX.at_ m hlt2
              rw [drop_getD] at hxv
              have m0 : (0 : Int) ≤ (m : Int) := by omega
              have m1 : (m : Int) < ((pa.bs.length - pa.safe : Nat) : Int) := by omega
              by_cases hkeep : f.k ≤ (m : Int)
              · have hmk : m = kp := by rw [← HKP.out]; exact keep_stop l4 (by rw [HKP.out]; exact hm) (.inl hkeep)
                subst hmk
                have HD2 := HD rfl
                clear HD HBX
                go_wp2_with fail
                go_meet
                exact ⟨A, c, rfl, HD2, HB⟩
              · have hkl2 : (m : Int) < f.k := by omega
                have hlast := keep_last l4 hkl2 hlt2
                rw [HKP.out] at hlast
                obtain ⟨hm1, hm2⟩ := hlast
                clear HBX
                have HXV := Lib.hid hxv
                clear hxv
                go_upto_region 12 with fail
                go_cut [60] from 45 to 60 (fun v wx => v = .bool (decide (m + 1 = kp)) ∧ wr = wx)
                case first =>
                  by_cases e1 : (m : Int) = f.k - 1
                  · have hb1 : ((m : Int) == f.k - 1) = true := by simpa using e1
                    have hv : decide (m + 1 = kp) = true := decide_eq_true (hm2.2 (.inl e1))
                    have HV := Lib.hid hv
                    clear hv hm2 e1
                    go_wp2_with fail
                    go_meet
                    exact ⟨by rw [HV.out], rfl⟩
                  · have hb1 : ((m : Int) == f.k - 1) = false := by simpa using e1
                    by_cases e2 : m = pa.bs.length - pa.safe - 1
                    · have hb2 : ((m : Int) == (pa.bs.length : Int) - (pa.safe : Int) - 1) = true := by simp; omega
                      have hv : decide (m + 1 = kp) = true := decide_eq_true (hm2.2 (.inr e2))
                      have HV := Lib.hid hv
                      clear hv hm2 e2 e1
                      go_wp2_with fail
                      go_meet
                      exact ⟨by rw [HV.out], rfl⟩
                    · have hb2 : ((m : Int) == (pa.bs.length : Int) - (pa.safe : Int) - 1) = false := by simp; omega
                      have hv : decide (m + 1 = kp) = false := decide_eq_false (fun e => by rcases hm2.1 e with h | h; exact e1 h; exact e2 h)
                      have HV := Lib.hid hv
                      clear hv hm2
                      go_wp2_with fail
                      go_meet
                      exact ⟨by rw [HV.out], rfl⟩
                case rest =>
                  obtain ⟨rfl, hww⟩ := hcut
                  subst hww
                  clear hm2
                  have hsz := (below_then HB.out (below_alloc wr (.cells #[.int .u8 0] 5)) HB.out.size).size
                  by_cases hl2 : m + 1 = kp
                  · have hdl : decide (m + 1 = kp) = true := decide_eq_true hl2
                    have hxr := xor_byte7 (pa.bs.getD (pa.safe + m) 0) f.t
                    rw [← HXV.out] at hxr
                    obtain ⟨gy, hgy⟩ : ∃ gy : Int, (((pa.bs.getD (pa.safe + m) 0 ^^^ f.t).toNat : Nat) : Int) = gy := ⟨_, rfl⟩
                    rw [hgy] at hxr
                    have HGY := Lib.hid hgy
                    have HL2 := Lib.hid hl2
                    have hO1 := own_below HO.out (below_alloc wr (.cells #[.int .u8 gy] 5))
                    have HBA := Lib.hid (below_then HB.out (below_alloc wr (.cells #[.int .u8 gy] 5)) HB.out.size)
                    have hsz1 := HBA.out.size
                    clear f1 b1 b3 hx HO hgy hl2
                    go_wp2_with (at_builtin; ((refine wpl_append _ rfl _ _ 30 rfl wc.heap.size 5 _ 1 1 Try.underlying30 info_byte7 rfl (by decide) (.slice A (pa.safe + m) c) (pa.safe + m) _ rfl hO1 _ 1 1 [.int .u8 gy] rfl (rdc_block (cs := #[_]) (t := 5) (fr := (0, 0)) (heap_alloc_new _ _)) (by simp [Value.oneCell']) (by decide) (by decide) (by omega) hsz1 ?_); intro A8 c8 w8 ho8 hg8 hne8 hnn8; clear hnn8 hne8))
                    have hO8 : w8.ownsRow wc.heap.size 5 1 (.slice A8 (pa.safe + (m + 1)) c8) (pa.safe + (m + 1)) (bvals (strkB pa.bs pa.safe kp f.t (m + 1))) := by
                      rw [strkB_torn hkl HL2.out, bvals_append]
                      rw [← HGY.out] at ho8
                      exact ho8
                    have HB8 := Lib.hid (HBA.out.grown hg8 HBA.out.size (own_base hO1))
                    clear ho8 hg8 hO1 HBA HB
                    go_roundw
                    case rel => exact ⟨m + 1, A8, c8, hm1, by go_num, rfl, hO8, HB8⟩
                    case measure => simp [intOf]; omega
                  · have hdl : decide (m + 1 = kp) = false := decide_eq_false hl2
                    have hO1 := own_below HO.out (below_alloc wr (.cells #[.int .u8 x] 5))
                    have HBA := Lib.hid (below_then HB.out (below_alloc wr (.cells #[.int .u8 x] 5)) HB.out.size)
                    have hsz1 := HBA.out.size
                    clear f1 f2 b1 b3 hx HO
                    go_wp2_with (at_builtin; ((refine wpl_append _ rfl _ _ 30 rfl wc.heap.size 5 _ 1 1 Try.underlying30 info_byte7 rfl (by decide) (.slice A (pa.safe + m) c) (pa.safe + m) _ rfl hO1 _ 1 1 [.int .u8 x] rfl (rdc_block (cs := #[_]) (t := 5) (fr := (0, 0)) (heap_alloc_new _ _)) (by simp [Value.oneCell']) (by decide) (by decide) (by omega) hsz1 ?_); intro A8 c8 w8 ho8 hg8 hne8 hnn8; clear hnn8 hne8))
                    have hO8 : w8.ownsRow wc.heap.size 5 1 (.slice A8 (pa.safe + (m + 1)) c8) (pa.safe + (m + 1)) (bvals (strkB pa.bs pa.safe kp f.t (m + 1))) := by
                      rw [strkB_push (by omega) hkl hl2, bvals_append]
                      rw [HXV.out] at ho8
                      exact ho8
                    have HB8 := Lib.hid (HBA.out.grown hg8 HBA.out.size (own_base hO1))
                    clear ho8 hg8 hO1 HBA HB
                    go_roundw
                    case rel => exact ⟨m + 1, A8, c8, hm1, by go_num, rfl, hO8, HB8⟩
                    case measure => simp [intOf]; omega
            · have hmk : m = kp := by rw [← HKP.out]; exact keep_stop l4 (by rw [HKP.out]; exact hm) (.inr (by have := crashK_le pa.bs.length pa.safe f.k l4; rw [HKP.out] at this; omega))
              subst hmk
              have HD2 := HD rfl
              have m1 : ¬ ((m : Int) < ((pa.bs.length - pa.safe : Nat) : Int)) := by omega
              clear HD
              go_wp2_with fail
              go_meet
              exact ⟨A, c, rfl, HD2, HB⟩
        case rest =>
          obtain ⟨A7, c7, rfl, HO, HB⟩ := hcut
          obtain ⟨n6, hn6⟩ : ∃ n6, pa.safe + kp = n6 := ⟨_, rfl⟩
          rw [hn6] at HO hkl ⊢
          have hlen : (crashB pa.bs pa.safe kp f.t).length = n6 := by rw [crashB_length _ _ _ _ (by omega), hn6]
          have hax : pa.struck P = ⟨pa.base, crashB pa.bs pa.safe kp f.t, n6, Ft.no, 0⟩ := by simp only [Pa.struck, Pa.crash, Pa.arm, HFT.out, HKP.out, hn6]
          rw [hax] at HPA
          have HLd := Lib.hid (HLc.out.below HB.out)
          have e1 := HLc.out.d.lt
          have e2 := HLc.out.r.lt
          have e3 := HLc.out.b.size
          have hO5 : Out (fun x => New F w wc x ∧ x ≠ w.heap.size ∧ x ≠ w1.heap.size) wc A7 (crashB pa.bs pa.safe kp f.t).length (crashB pa.bs pa.safe kp f.t) := by
            rw [hlen]
            refine ⟨own_bytes' HO.out (by omega), fun _ x e => ?_⟩
            have := HO.out.lt x (by rw [ownBlock_slice]; exact e)
            exact ⟨.inr ⟨by omega, by omega⟩, by omega, by omega⟩
          have hc7 := own_cap8 HO.out
          have hcall : Calls Try.prog 69 #[.agg #[.slice Ak P.n ck, .bool P.armed], .int .i64 (k : Int), .agg #[.int .i64 pa.base, .int .i64 (n6 : Nat), .int .i64 0, .slice A7 n6 c7, .int .i64 0, .int .i64 0, .int .u8 0]] wc (RTo (P.strR (k + 1)) (fun x => New F w wc x ∧ x ≠ w.heap.size ∧ x ≠ w1.heap.size) wc) := by
            have := refWith_any HLd.out.ra hn ck k hlt ⟨pa.base, crashB pa.bs pa.safe kp f.t, n6, Ft.no, 0⟩ A7 c7 hO5 (by rw [hlen]; exact hc7)
            rw [HPA.out] at this
            simp only [rAgg, hlen] at this
            exact this
          have HC := Lib.hid hcall
          have g0 : wc.cell? ⟨w.heap.size, 0, none⟩ = some (.slice Ak P.n ck) := HLd.out.d.cell 0
          have g1 : wc.cell? ⟨w.heap.size, 1, none⟩ = some (.bool P.armed) := HLd.out.d.cell 1
          have t0 : wc.cell? ⟨gA, 0, none⟩ = some (.int .i64 pa.base) := (HAc.out.1.keep HB.out).cell 0
          have HHN := Lib.hid hn6
          clear hO5 hcall hax hlen hn6 e1 e2 e3 hc7 HO HO6 HB6 HX6
          go_wp2_with fail
          refine HC.out.mono ?_
          rintro e w5 ⟨A5, c5, rfl, hR5, hb5⟩
          have HLN := Lib.hid (HLd.out.next (c5 := c5) hR5 hb5 HFF.out)
          have dg := HLd.out.d.keep hb5
          have p0 : w5.cell? ⟨w.heap.size, 0, none⟩ = some (.slice Ak P.n ck) := dg.cell 0
          have p1 : w5.cell? ⟨w.heap.size, 1, none⟩ = some (.bool P.armed) := dg.cell 1
          have pf := dg.frozen
          clear g0 g1 t0 HC HLc HLd HAc HB hR5 hb5 dg
          go_wp2_with fail
          go_roundw
          case rel => exact ⟨k + 1, A5, c5, hlt, by go_num, HLN⟩
          case measure => simp [intOf]; omega
    · obtain rfl : k = P.n := by omega
      have HFI := Lib.hid (HLP.out.fin false)
      have g0 : wr.cell? ⟨w.heap.size, 0, none⟩ = some (.slice Ak P.n ck) := HLP.out.d.cell 0
      have g1 : wr.cell? ⟨w.heap.size, 1, none⟩ = some (.bool P.armed) := HLP.out.d.cell 1
      have r0 : wr.cell? ⟨w1.heap.size, 0, none⟩ = some (.slice none 0 0) := HLP.out.r.cell 0
      have r1 : wr.cell? ⟨w1.heap.size, 1, none⟩ = some (.bool false) := HLP.out.r.cell 1
      have gf := HLP.out.d.frozen
      have rf := HLP.out.r.frozen
      have hne := HLP.out.ne
      clear HLP
      go_wp2_with fail
      obtain ⟨v0, v1, v2⟩ := HFI.out
      refine bodyPost_ret (results_row1 rfl _ _ w1.heap.size 48 _ (0, 0) _ rfl v0 Try.underlying48 rfl (by kernel_rfl)) rfl ?_
      exact ⟨Ak, ck, rfl, v1.ext rfl (fun j hj => by simp only [Pd.strR, Pd.strike, Pa.struck]; exact if_pos hj), v2⟩
end Go.Proofs.Ytodaplkijdjbpaa
