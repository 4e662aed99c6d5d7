/- The law AreaKeeps, walked. -/
import Derived.Test.YtbfnmfakagdpfaaKept
import Derived.Test.YtbfnmfakagdpfaaRefRead
namespace Go.Proofs.Ytbfnmfakagdpfaa
open Go.RowKit
set_option linter.unusedVariables false
set_option linter.unusedSimpArgs false
/-- The seventy bytes behind the data. -/
def tl5 (k : Nat) : List UInt8 := (List.range k).map fun j => UInt8.ofNat j ^^^ 165
theorem tl5_length (k : Nat) : (tl5 k).length = k := by simp [tl5]
theorem tl5_succ (k : Nat) : tl5 (k + 1) = tl5 k ++ [UInt8.ofNat k ^^^ 165] := by simp [tl5, List.range_succ]
theorem tl5_get (k : Nat) (j : Nat) (h : j < k) : (tl5 k).getD j 0 = UInt8.ofNat j ^^^ 165 := by simp [tl5, List.getD_eq_getElem?_getD, h]
/-- The first k bytes rewritten. -/
def rwL (mk : UInt8) (xs : List UInt8) (k : Nat) : List UInt8 := List.replicate k mk ++ xs.drop k
theorem rwL_length {mk : UInt8} {xs : List UInt8} {k : Nat} (h : k ≤ xs.length) : (rwL mk xs k).length = xs.length := by unfold rwL; rw [List.length_append, List.length_replicate, List.length_drop]; omega
theorem rwL_get {mk : UInt8} {xs : List UInt8} {k : Nat} : (rwL mk xs k).getD k 0 = xs.getD k 0 := by
  simp [rwL, List.getD_eq_getElem?_getD, List.getElem?_append_right, List.getElem?_drop]
theorem rwL_set {mk : UInt8} {xs : List UInt8} {k : Nat} (h : k < xs.length) : (rwL mk xs k).set k mk = rwL mk xs (k + 1) := by
  unfold rwL
  rw [List.set_append_right _ _ (by simp), List.length_replicate, Nat.sub_self, List.drop_eq_getElem_cons h, List.set_cons_zero, List.replicate_succ', List.append_assoc]
  rfl
theorem Mine.chg7 {B : Nat} {w0 w w' : World} {g : Nat} {A : Option Addr} {c T : Nat} {base : Int} {bs : List UInt8} {s : Nat} {F : Nat → Prop} (h : Mine B w0 w g A c T base bs s) (hc : Chg F w w') (hn : ∀ k, arF g A k → ¬ F k) (hF : ∀ k, F k → B ≤ k) : Mine B w0 w' g A c T base bs s :=
  ⟨h.ar.chg hc hn, fun q e => ⟨(h.fr q e).1, Nat.lt_of_lt_of_le (h.fr q e).2 hc.size⟩, h.n1, h.e1, h.bel.trans (hc.below h.le hF), Nat.le_trans h.le hc.size⟩
set_option maxRecDepth 100000 in
set_option maxHeartbeats 3200000 in
theorem areaKeeps_any (A : Option Addr) (n c : Nat) (xs : List StepR) (D : Option Addr) (m mc : Nat) (d : List UInt8) (mark : Int) (w : World) (h : RecS IsStep w 4 A n xs) (hn : n ≤ 140737488351232) (hd : Bytes w D m d) (hm : m ≤ 140737488355328) (hk0 : 0 ≤ mark) (hk1 : mark < 256) :
    Calls Try.prog 9 #[.slice A n c, .slice D m mc, .int .u8 mark] w fun e w' => e = .returned (.bool true) ∧ Below w.heap.size w w' := by
  have hb1 := below_alloc w (.cells #[.slice A n c] 40)
  have HLn := Lib.hid h.1
  go_enter Try.func9, Try.ntmps9
  go_wp2_with fail
  refine (vast_any _ 1 _ [xs] _ (scr_one h hn _) (by omega)).mono ?_
  rintro e w1 ⟨b, rfl, hb2, hv⟩
  have hB1 := below_then hb1 hb2 hb1.size
  clear hb1 hb2
  cases b with
  | true =>
    go_wp2
    go_ret
    exact ⟨rfl, hB1⟩
  | false =>
    have hv2 : wrN xs n ≤ 1073741824 := by have := hv rfl; rwa [show ([xs] : List (List StepR)).length = 1 from rfl, tot_one, h.1] at this
    clear hv
    have HV := Lib.hid hv2
    clear hv2
    have h1 := h.below hB1 (fun _ _ k => IsStep.below hB1 _ _ k)
    go_wp2_with fail
    refine (played_any A n c xs _ h1 hn HV.out).mono ?_
    rintro e w2 ⟨g, B, bc, base, bs, s, rfl, hA, hF, hT, hE, hB2⟩
    have hM : Mine w.heap.size w w2 g B bc (wrN xs n) base bs s := ⟨hA, fun q e => ⟨Nat.le_trans hB1.size (hF q e).1, (hF q e).2⟩, hT, hE, below_then hB1 hB2 hB1.size, Nat.le_trans hB1.size hB2.size⟩
    clear hA hF hT hE hB2 h1
    go_wp2_with fail
    refine (awake_any _).mono ?_
    rintro e w3 ⟨rfl, hb3⟩
    have hM3 := hM.below hb3
    clear hM hb3
    have hd3 : Bytes w3 D m d := hd.below hM3.bel
    have H0 := World.ownsRow_nil w3 w3.heap.size 5 1
    go_upto_region 7 with (at_builtin; (refine wpl_append _ rfl _ _ 23 rfl w3.heap.size 5 _ 1 1 Try.underlying23 info_byte7 rfl (by decide) (.slice none 0 0) 0 [] rfl H0 D m mc (bvals d) rfl hd3.rdc (bvals_one _) (by decide) (by decide) (by omega) (by simp) ?_); intro F fc w4 ho4 hg4 hne4 hnn4; simp only [Nat.zero_add, List.nil_append] at ho4 ⊢; clear hnn4 hne4)
    have hb4 : Below w3.heap.size w3 w4 := (Below.refl _ w3).grown hg4 (by simp) (fun k h => by simp [Value.ownBlock] at h)
    have hM4 := hM3.below hb4
    have HM := Lib.hid hM3
    clear hM4 hM3 hd3 H0 hg4
    have ho0 : w4.ownsRow w3.heap.size 5 1 (.slice F (m + 0) fc) (m + 0) (bvals (d ++ tl5 0)) := by simpa [tl5] using ho4
    go_wp2
    go_loopw [8, 9] (fun f i wr => ∃ k : Nat, ∃ F fc, k ≤ 70 ∧ i = .int .i64 k ∧ f = .slice F (m + k) fc ∧ wr.ownsRow w3.heap.size 5 1 (.slice F (m + k) fc) (m + k) (bvals (d ++ tl5 k)) ∧ Below w3.heap.size w3 wr) (fun _ i _ => 70 - (intOf i).toNat)
    case atStart => exact ⟨0, F, fc, by omega, rfl, rfl, ho0, hb4⟩
    case round =>
      clear ho0 ho4 hb4
      obtain ⟨k, F, fc, hk, rfl, rfl, ho, hB⟩ := hrel
      by_cases hlt : k < 70
      · have hxv : bits .xor .u8 (k : Int) 165 = (((UInt8.ofNat k ^^^ 165).toNat : Nat) : Int) := by
          have := xor_byte7 (UInt8.ofNat k) 165
          rw [UInt8.toNat_ofNat', Nat.mod_eq_of_lt (by omega)] at this
          exact this
        have HXV := Lib.hid hxv
        clear hxv
        have hba := below_alloc wr (.cells #[.int .u8 (bits .xor .u8 (k : Int) 165)] 5)
        have hoa := own_below ho hba
        have hBa := below_then hB hba hB.size
        have hsa := hBa.size
        clear ho hba
        go_wp2_with (at_builtin; (refine wpl_append _ rfl _ _ 23 rfl w3.heap.size 5 _ 1 1 Try.underlying23 info_byte7 rfl (by decide) (.slice F (m + k) fc) (m + k) _ rfl hoa _ 1 1 [_] rfl (rdc_block (cs := #[_]) (t := 5) (fr := (0, 0)) (heap_alloc_new _ _)) (by simp [Value.oneCell']) (by decide) (by decide) (by omega) hsa ?_); intro F6 c6 w6 ho6 hg6 hne6 hnn6; clear hnn6 hne6)
        have hb6 : Below w3.heap.size w3 w6 := hBa.grown hg6 hsa (own_base hoa)
        go_roundw
        case rel => exact ⟨k + 1, F6, c6, by omega, by go_num, rfl, by rw [tl5_succ, ← List.append_assoc, bvals_append, show bvals [UInt8.ofNat k ^^^ 165] = [.int .u8 (((UInt8.ofNat k ^^^ 165).toNat : Nat) : Int)] from rfl, ← HXV.out]; exact ho6, hb6⟩
        case measure => simp [intOf]; omega
      · obtain rfl : k = 70 := by omega
        have hM5 := HM.out.below hB
        have hin := own_bytes' (own_cut ho m (by omega)) (by omega)
        rw [List.take_left' hd.1] at hin
        have hn1 := hM5.n1
        have he1 := hM5.e1
        have hvv := HV.out
        have a1 : bs.length + m ≤ 214748364800000 := by omega
        have a2 : base + (bs.length : Int) + (m : Int) ≤ 4612811918334230528 := by omega
        have hl : (bs ++ d).length = bs.length + m := by rw [List.length_append, hd.1]
        have a3 : (bs ++ d).length ≤ wrN xs n + m := by omega
        have a4 : base + ((bs ++ d).length : Int) ≤ 4611686018427387904 + ((wrN xs n + m : Nat) : Int) := by omega
        have hcap := own_cap7 ho
        have hcap2 : m ≤ fc := by omega
        have A3 := Lib.hid a3
        have A4 := Lib.hid a4
        clear a3 a4 hl hvv
        go_wp2_with fail
        refine (areaAppend_any hM5.ar F m fc d hin a1 a2).mono ?_
        intro e w5 hs
        obtain ⟨rfl, B5, c5, hM6, hC6, hq6⟩ := hM5.to hs A3.out A4.out
        have ho6 := own_chg ho hC6 (fun q e e2 => by have := (own_base ho q e); have := (HM.out.fr q e2).2; omega)
        have hin6 := own_bytes' (own_cut ho6 m (by omega)) (by omega)
        rw [List.take_left' hd.1] at hin6
        go_wp2_with fail
        refine (areaLoad_any F m fc d 3 _ hin6 hm (by omega) (by omega)).mono ?_
        rintro e w7 ⟨g2, B7, c7, rfl, hL, hb7, hg7⟩
        have hM7 := hM6.below hb7
        have ho7 := own_below ho6 hb7
        obtain ⟨mk, hmk⟩ : ∃ mk : UInt8, mark = ((mk.toNat : Nat) : Int) := ⟨UInt8.ofNat mark.toNat, by rw [UInt8.toNat_ofNat']; omega⟩
        obtain ⟨bF, rfl⟩ : ∃ bF, F = some ⟨bF, 0, none⟩ := by
          rcases ho7.2 with ⟨_, h0⟩ | ⟨bF, cp, cur, he, _⟩
          · omega
          · injection he with he
            exact ⟨bF, he⟩
        have hFB := own_base ho7 bF rfl
        have hR0 : w7.ownsRow w3.heap.size 5 1 (.slice (some ⟨bF, 0, none⟩) (m + 70) fc) (m + 70) (bvals (rwL mk (d ++ tl5 70) 0)) := by simpa [rwL] using ho7
        go_wp2_with fail
        go_loopw [13] (fun i wl => ∃ k : Nat, k ≤ m + 70 ∧ i = .int .i64 k ∧ wl.ownsRow w3.heap.size 5 1 (.slice (some ⟨bF, 0, none⟩) (m + 70) fc) (m + 70) (bvals (rwL mk (d ++ tl5 70) k)) ∧ Chg (fun q => q = bF) w7 wl) (fun i _ => m + 70 - (intOf i).toNat)
        case atStart => exact ⟨0, by omega, rfl, hR0, Chg.refl _ _⟩
        case round =>
          clear hR0
          obtain ⟨k, hk, rfl, hR, hC⟩ := hrel
          by_cases hlt : k < m + 70
          · have hdl : d.length = m := hd.1
            have hfl : (d ++ tl5 70).length = m + 70 := by rw [List.length_append, tl5_length, hdl]
            have hcell : wr.cell? ⟨bF, k, none⟩ = some (.int .u8 ((((d ++ tl5 70).getD k 0).toNat : Nat) : Int)) := (hR.cellAt k (by omega)).trans (by rw [bvals_at _ _ (by rw [rwL_length (by omega)]; omega), rwL_get])
            have hfr := hR.frozenAt k
            have HS := Lib.hid (fun nq => (((own_below hR (below_drew7 wr nq)).stored k (.int .u8 ((mk.toNat : Nat) : Int))).1))
            have HC2 := Lib.hid (fun nq => (hC.then_ (below_drew7 wr nq)).set (g := bF) (.inl rfl) k (.int .u8 ((mk.toNat : Nat) : Int)))
            have i0 : (0 : Int) ≤ (k : Int) := by omega
            have i1 : (k : Int) < (m : Int) + 70 := by omega
            by_cases hkm : k < m
            · have hx : (d ++ tl5 70).getD k 0 = d.getD k 0 := by
                rw [List.getD_eq_getElem?_getD, List.getElem?_append_left (by omega), ← List.getD_eq_getElem?_getD]
              rw [hx] at hcell
              have hwB : Below w.heap.size w wr := hM7.bel.trans (hC.below hM7.le (fun q e => by subst e; exact Nat.le_trans HM.out.le hFB))
              obtain ⟨bD, oD, v, rfl, hv, hv2⟩ := (hd.below hwB).at_ k hkm
              rw [← hv2] at hcell
              have t1 : decide ((k : Int) < (m : Int)) = true := decide_eq_true (by omega)
              have t2 : decide ((m : Int) ≤ (k : Int)) = false := decide_eq_false (by omega)
              have i2 : (k : Int) < (m : Int) := by omega
              clear hR hC hx hv2 hdl hfl hM7 hL hwB
              have t3 : (v != v) = false := by simp
              have t4 : decide (m ≤ k) = false := decide_eq_false (by omega)
              have t5 : decide (k < m) = true := decide_eq_true (by omega)
              go_wp2_with fail
              go_quiet (fail)
              go_wp2_with fail
              go_roundw
              case rel => exact ⟨k + 1, by omega, by go_num, by have := HS.out nq; rw [bvals_set7, rwL_set (by rw [List.length_append, tl5_length, hd.1]; omega)] at this; exact this, HC2.out nq⟩
              case measure => simp [intOf]; omega
            · have hx : (((d ++ tl5 70).getD k 0).toNat : Int) = bits .xor .u8 ((k : Int) - (m : Int)) 165 := by
                rw [List.getD_eq_getElem?_getD, List.getElem?_append_right (by omega), ← List.getD_eq_getElem?_getD, tl5_get 70 _ (by omega), hdl]
                have := xor_byte7 (UInt8.ofNat (k - m)) 165
                rw [UInt8.toNat_ofNat', Nat.mod_eq_of_lt (by omega)] at this
                rw [← this]
                congr 1
                omega
              rw [hx] at hcell
              have t1 : decide ((k : Int) < (m : Int)) = false := decide_eq_false (by omega)
              have t2 : decide ((m : Int) ≤ (k : Int)) = true := decide_eq_true (by omega)
              have t4 : decide (m ≤ k) = true := decide_eq_true (by omega)
              have t5 : decide (k < m) = false := decide_eq_false (by omega)
              have t6 : (0 : Int) ≤ (k : Int) - (m : Int) := by omega
              have t7 : (k : Int) - (m : Int) < 70 := by omega
              have t3 : (bits .xor .u8 ((k : Int) - (m : Int)) 165 != bits .xor .u8 ((k : Int) - (m : Int)) 165) = false := by simp
              clear hR hC hx hdl hfl hM7 hL
              go_wp2_with fail
              go_quiet (fail)
              go_wp2_with fail
              go_roundw
              case rel => exact ⟨k + 1, by omega, by go_num, by have := HS.out nq; rw [bvals_set7, rwL_set (by rw [List.length_append, tl5_length, hd.1]; omega)] at this; exact this, HC2.out nq⟩
              case measure => simp [intOf]; omega
          · obtain rfl : k = m + 70 := by omega
            have nb1 : ¬ arF g B5 bF := fun e => by
              have l1 := (own_lt7 ho7 bF rfl).1
              rcases hq6 bF e with e | e
              · have := (HM.out.fr bF e).2; omega
              · have := (own_lt7 ho bF rfl).2; omega
            have nb2 : ¬ arF g2 B7 bF := fun e => by
              have := hg7 bF e
              have := (own_lt7 ho6 bF rfl).2
              omega
            have hM8 := hM7.chg7 hC (fun q e e2 => nb1 (e2 ▸ e)) (fun q e => by subst e; exact Nat.le_trans HM.out.le hFB)
            have hL8 := hL.chg hC (fun q e e2 => nb2 (e2 ▸ e))
            have lm := fun q e => (hM8.fr q e).2
            have ll : ∀ q, arF g2 B7 q → q < wr.heap.size := fun q e => by
              rcases e with e | e
              · subst e; exact hL8.blk.lt
              · exact (own_lt7 hL8.own q e).2
            have hR8 := hR
            clear hR hC hM7 hL ho7 hb7 ho6 hin6 hs hM6 hC6 hq6 hg7 hM5 hin ho hB nb1 nb2 hFB hR8
            have hl8 : (bs ++ d).length = bs.length + m := by rw [List.length_append, hd.1]
            have HL8 := Lib.hid hl8
            have hdrop : (bs ++ d).drop bs.length = d := List.drop_left
            have HDR := Lib.hid hdrop
            clear hdrop
            generalize hbd : bs ++ d = bd at *
            have hble : bs.length ≤ bs.length + m := by omega
            obtain ⟨bl, hbl⟩ : ∃ bl, bs.length = bl := ⟨_, rfl⟩
            rw [hbl] at hl8 HL8 HDR a1 a2 hn1 he1
            clear hbd hble hbl hlt hk
            generalize hwr : wr = w8 at *
            clear hwr
            go_wp2_with fail
            refine (whole_any hM8.ar).mono ?_
            rintro e w9 ⟨W0, wcp, rfl, hoW, hb9⟩
            rw [HL8.out] at hoW ⊢
            have hM9 := hM8.below hb9
            have hL9 := hL8.below hb9
            have hBw9 := (own_bytes' hoW (by omega))
            have hcW := own_cap7 hoW
            have t1 : decide ((bl : Int) + (m : Int) < (m : Int)) = false := decide_eq_false (by omega)
            have t2 : decide (bl + m < m) = false := decide_eq_false (by omega)
            have hD9 := hd.below hM9.bel
            have hX1 : wcp = bl → Bytes w9 W0 m d := fun e => by
              obtain rfl : m = 0 := by omega
              obtain rfl : d = [] := List.eq_nil_of_length_eq_zero hd.1
              exact Bytes.empty _ _
            have hX2 : wcp ≠ bl → Bytes w9 (Option.map (fun x => x.add bl) W0) m d := fun e => by
              have := bytes_opt hBw9 bl (by omega) hcW
              rw [if_neg e, HDR.out, show bl + m - bl = m by omega] at this
              exact this
            have HX1 := Lib.hid hX1
            have HX2 := Lib.hid hX2
            have z8 := hM8.le
            clear hM8 hL8 hX1 hX2
            go_upto_region 24 with fail
            go_cut [144] from 124 to 143 (fun v wx => v = .bool false ∧ w9 = wx)
            case first =>
              go_wp2_with fail
              · have hh : wcp = bl := by assumption
                subst hh
                refine (same_any _ _ _ _ _ _ _ _ _ (by first | exact HX1.out (by first | rfl | assumption) | exact HX2.out (by assumption)) hD9).mono ?_
                rintro e w10 ⟨rfl, rfl⟩
                rw [show (d == d) = true from beq_self_eq_true _]
                go_wp2_with fail
                go_meet
                exact ⟨rfl, rfl⟩
              · first | (have hh : wcp = bl := by assumption; subst hh) | skip
                refine (same_any _ _ _ _ _ _ _ _ _ (by first | exact HX1.out (by first | rfl | assumption) | exact HX2.out (by assumption)) hD9).mono ?_
                rintro e w10 ⟨rfl, rfl⟩
                rw [show (d == d) = true from beq_self_eq_true _]
                go_wp2_with fail
                go_meet
                exact ⟨rfl, rfl⟩
            case rest =>
              obtain ⟨rfl, rfl⟩ := hcut
              have rs := run_bytes_string hBw9 wcp 23 5 9 Try.underlying23 Try.underlying5 Try.underlying9
              have t3 : (bl : Int) + (m : Int) = ((bl + m : Nat) : Int) := by omega
              have T3 := Lib.hid t3
              have HM9 := Lib.hid hM9
              have HL9 := Lib.hid hL9
              clear t3 HX1 HX2 hL9 hM9
              go_wp2_with fail
              refine (areaRead_at HM9.out.ar _ _ 0 (bl + m) (by simp) T3.out (by rw [HL8.out]; omega)).mono ?_
              rintro e w10 ⟨R1, r1c, rfl, ho10, hb10⟩
              rw [List.drop_zero, List.take_of_length_le (by rw [HL8.out]; exact Nat.le_refl _)] at ho10
              have hM10 := HM9.out.below hb10
              go_wp2_with fail
              refine (areaImage_any hM10.ar).mono ?_
              rintro e w11 ⟨I0, i0c, rfl, ho11, hb11⟩
              have hM11 := hM10.below hb11
              go_wp2_with fail
              refine (areaImage_any hM11.ar).mono ?_
              rintro e w12 ⟨S0, s0c, rfl, ho12, hb12⟩
              have hM12 := hM11.below hb12
              clear hM10 hM11
              have hba := below_alloc w12 (.cells #[.int .i64 base, .slice I0 s i0c] 33)
              have hbb := below_then hba (below_alloc (w12.alloc (.cells #[.int .i64 base, .slice I0 s i0c] 33)) (.cells #[.int .i64 base, .slice S0 s s0c] 33)) hba.size
              have hX20 : Blk ((w12.alloc (.cells #[.int .i64 base, .slice I0 s i0c] 33)).alloc (.cells #[.int .i64 base, .slice S0 s s0c] 33)) w12.heap.size _ _ := (Blk.fresh w12 #[.int .i64 base, .slice I0 s i0c] 33).keep (below_alloc _ _)
              have hX21 := Blk.fresh (w12.alloc (.cells #[.int .i64 base, .slice I0 s i0c] 33)) #[.int .i64 base, .slice S0 s s0c] 33
              rw [World.size_alloc] at hX21
              have hsS := hM12.ar.sle
              have hs12 : s ≤ 214748364800000 := by have := HL8.out; omega
              have hoS := own_below ho12 hbb
              have hoI := own_below ho11 (below_then hb12 hbb hb12.size)
              have hoR := own_below ho10 (below_then hb11 (below_then hb12 hbb hb12.size) hb11.size)
              have hoW2 := own_below hoW (below_then hb10 (below_then hb11 (below_then hb12 hbb hb12.size) hb11.size) hb10.size)
              have hM13 := hM12.below hbb
              have hL13 := HL9.out.below (below_then hb10 (below_then hb11 (below_then hb12 hbb hb12.size) hb11.size) hb10.size)
              have z9 := hb9.size
              have z10 := hb10.size
              have z11 := hb11.size
              have z12 := hb12.size
              have z13 : ((w12.alloc (.cells #[.int .i64 base, .slice I0 s i0c] 33)).alloc (.cells #[.int .i64 base, .slice S0 s s0c] 33)).heap.size = w12.heap.size + 2 := by simp
              have HZ13 := Lib.hid z13
              have rs2 := run_bytes_string (own_bytes' hoS (by omega)) s0c 23 5 9 Try.underlying23 Try.underlying5 Try.underlying9
              have fW : ∀ q, blkO W0 = some q → w8.heap.size ≤ q ∧ q < w9.heap.size := own_lt7 hoW
              have fR : ∀ q, blkO R1 = some q → w9.heap.size ≤ q ∧ q < w10.heap.size := own_lt7 ho10
              have fI : ∀ q, blkO I0 = some q → w10.heap.size ≤ q ∧ q < w11.heap.size := own_lt7 ho11
              have fS : ∀ q, blkO S0 = some q → w11.heap.size ≤ q ∧ q < w12.heap.size := own_lt7 ho12
              clear rs HM9 HL9 hM12 ho12 ho11 ho10 hoW hb9 hb10 hb11 hb12 hba hbb hBw9 z13 hD9
              have hbS := own_bytes' hoS (by omega)
              have hbR := own_bytes' hoR (by omega)
              clear hoS hoR
              have hK : Kp ((w12.alloc (.cells #[.int .i64 base, .slice I0 s i0c] 33)).alloc (.cells #[.int .i64 base, .slice S0 s s0c] 33)) (fun q => blkO W0 = some q ∨ blkO I0 = some q ∨ q = w12.heap.size) w12.heap.size base ((w12.alloc (.cells #[.int .i64 base, .slice I0 s i0c] 33)).alloc (.cells #[.int .i64 base, .slice S0 s s0c] 33)) (bl + m) W0 wcp s I0 i0c :=
                ⟨⟨_, own_mono hoW2 (Nat.zero_le _)⟩, ⟨_, own_mono hoI (Nat.zero_le _)⟩, hX20, Chg.refl _ _, fun q e => .inl (.inl e), fun q e => .inl (.inr (.inl e)), .inr (.inr rfl), fun q e e2 => by have := fW q e; have := fI q e2; omega⟩
              clear hoW2 hoI hX20
              have i21 : ((w12.alloc (.cells #[.int .i64 base, .slice I0 s i0c] 33)).alloc (.cells #[.int .i64 base, .slice S0 s s0c] 33)).cell? ⟨w12.heap.size + 1, 1, none⟩ = some (.slice S0 s s0c) := hX21.cell 1
              go_wp2_with fail
              clear rs2
              generalize (w12.alloc (.cells #[.int .i64 base, .slice I0 s i0c] 33)).alloc (.cells #[.int .i64 base, .slice S0 s s0c] 33) = w13 at *
              have hvv := HV.out
              have h88 := HL8.out
              have e88 := A4.out
              have bs1 : bl + m + 100 ≤ 214748364800000 := by omega
              have bs2 : s + 100 ≤ 214748364800000 := by omega
              have BS1 := Lib.hid bs1
              have BS2 := Lib.hid bs2
              clear hvv h88 e88 bs1 bs2
              have HI21 := Lib.hid i21
              clear i21
              go_loopw [23] (fun i wr => ∃ k : Nat, k ≤ bl + m ∧ i = .int .i64 k ∧ Kp w13 (fun q => blkO W0 = some q ∨ blkO I0 = some q ∨ q = w12.heap.size) w12.heap.size base wr (bl + m) W0 wcp s I0 i0c) (fun i _ => bl + m - (intOf i).toNat)
              case atStart => exact ⟨0, by omega, rfl, hK⟩
              case round =>
                clear hK
                obtain ⟨k, hk, rfl, hK⟩ := hrel
                by_cases hlt : k < bl + m
                · obtain ⟨bW, rfl⟩ : ∃ bW, W0 = some ⟨bW, 0, none⟩ := by
                    obtain ⟨xs', hx⟩ := hK.rowW
                    rcases hx.2 with ⟨h0, _⟩ | ⟨bF, cp, cur, he, _⟩
                    · injection h0 with _ h0 _; omega
                    · injection he with he
                      exact ⟨bF, he⟩
                  obtain ⟨y, hy⟩ : ∃ y : UInt8, (((mk.toNat : Nat) : Int) + 1) % 256 = ((y.toNat : Nat) : Int) := ⟨UInt8.ofNat ((((mk.toNat : Nat) : Int) + 1) % 256).toNat, by rw [UInt8.toNat_ofNat']; omega⟩
                  have HY := Lib.hid hy
                  have hmk0 : ((mk.toNat : Nat) : Int) < 256 := by have := mk.toNat_lt; omega
                  have hnx := hK.setW k y
                  have HNX := Lib.hid hnx
                  obtain ⟨xs', hx⟩ := hK.rowW
                  have hlx : xs'.length = bl + m := by have := hx.1; rwa [bvals_length, Nat.mul_one] at this
                  have hcell : wr.cell? ⟨bW, k, none⟩ = some (.int .u8 (((xs'.getD k 0).toNat : Nat) : Int)) := (hx.cellAt k (by omega)).trans (bvals_at _ _ (by omega))
                  have hfr := hx.frozenAt k
                  have j0 : (0 : Int) ≤ (k : Int) := by omega
                  have j1 : (k : Int) < (bl : Int) + (m : Int) := by omega
                  clear hy hnx hx hlx hK
                  go_wp2_with fail
                  rw [HY.out]
                  go_roundw
                  case rel => exact ⟨k + 1, by omega, by go_num, HNX.out⟩
                  case measure => simp [intOf]; omega
                · obtain rfl : k = bl + m := by omega
                  rw [show ((bl + m : Nat) : Int) = (bl : Int) + (m : Int) from by omega]
                  go_wp2_with fail
                  obtain ⟨wo, rfl⟩ : ∃ wo : World, wo = wr := ⟨_, rfl⟩
                  go_loopw [24] (fun i wr => ∃ k : Nat, k ≤ s ∧ i = .int .i64 k ∧ Kp w13 (fun q => blkO W0 = some q ∨ blkO I0 = some q ∨ q = w12.heap.size) w12.heap.size base wr (bl + m) W0 wcp s I0 i0c) (fun i _ => s - (intOf i).toNat)
                  case atStart => exact ⟨0, by omega, rfl, hK⟩
                  case round =>
                    clear hK
                    obtain ⟨k, hk, rfl, hK⟩ := hrel
                    have ci : wr.cell? ⟨w12.heap.size, 1, none⟩ = some (.slice I0 s i0c) := hK.box.cell 1
                    by_cases hlt : k < s
                    · obtain ⟨bI, rfl⟩ : ∃ bI, I0 = some ⟨bI, 0, none⟩ := by
                        obtain ⟨xs', hx⟩ := hK.rowI
                        rcases hx.2 with ⟨h0, _⟩ | ⟨bF, cp, cur, he, _⟩
                        · injection h0 with _ h0 _; omega
                        · injection he with he
                          exact ⟨bF, he⟩
                      obtain ⟨y, hy⟩ : ∃ y : UInt8, (((mk.toNat : Nat) : Int) + 2) % 256 = ((y.toNat : Nat) : Int) := ⟨UInt8.ofNat ((((mk.toNat : Nat) : Int) + 2) % 256).toNat, by rw [UInt8.toNat_ofNat']; omega⟩
                      have HY := Lib.hid hy
                      have hmk0 : ((mk.toNat : Nat) : Int) < 256 := by have := mk.toNat_lt; omega
                      have hnx := hK.setI k y
                      have HNX := Lib.hid hnx
                      obtain ⟨xs', hx⟩ := hK.rowI
                      have hlx : xs'.length = s := by have := hx.1; rwa [bvals_length, Nat.mul_one] at this
                      have hcell : wr.cell? ⟨bI, k, none⟩ = some (.int .u8 (((xs'.getD k 0).toNat : Nat) : Int)) := (hx.cellAt k (by omega)).trans (bvals_at _ _ (by omega))
                      have hfr := hx.frozenAt k
                      have j0 : (0 : Int) ≤ (k : Int) := by omega
                      have j1 : (k : Int) < (s : Int) := by omega
                      clear hy hnx hx hlx hK
                      go_wp2_with fail
                      rw [HY.out]
                      go_roundw
                      case rel => exact ⟨k + 1, by omega, by go_num, HNX.out⟩
                      case measure => simp [intOf]; omega
                    · obtain rfl : s = k := by omega
                      go_wp2_with fail
                      clear ci
                      obtain ⟨wo2, rfl⟩ : ∃ wo2 : World, wo2 = wr := ⟨_, rfl⟩
                      go_loopw [14, 25] (fun f i wr => ∃ k W c1 I c2, k ≤ 70 ∧ i = .int .i64 (k : Nat) ∧ f = .slice W (bl + m + k) c1 ∧ Kp w13 (fun q => blkO W0 = some q ∨ blkO I0 = some q ∨ q = w12.heap.size) w12.heap.size base wr (bl + m + k) W c1 (s + k) I c2) (fun _ i _ => 70 - (intOf i).toNat)
                      case atStart => exact ⟨0, W0, wcp, I0, i0c, by omega, rfl, rfl, hK⟩
                      case round =>
                        clear hK
                        obtain ⟨k, W, c1, I, c2, hk, rfl, rfl, hK⟩ := hrel
                        by_cases hlt : k < 70
                        · have hmk0 : ((mk.toNat : Nat) : Int) < 256 := by have := mk.toNat_lt; omega
                          obtain ⟨y, hy⟩ : ∃ y : UInt8, (((mk.toNat : Nat) : Int) + 3) % 256 = ((y.toNat : Nat) : Int) := ⟨UInt8.ofNat ((((mk.toNat : Nat) : Int) + 3) % 256).toNat, by rw [UInt8.toNat_ofNat']; omega⟩
                          obtain ⟨z, hz⟩ : ∃ z : UInt8, (((mk.toNat : Nat) : Int) + 4) % 256 = ((z.toNat : Nat) : Int) := ⟨UInt8.ofNat ((((mk.toNat : Nat) : Int) + 4) % 256).toNat, by rw [UInt8.toNat_ofNat']; omega⟩
                          have HY := Lib.hid hy
                          have HZ := Lib.hid hz
                          clear hy hz
                          have hK1 := hK.below (below_alloc wr (.cells #[.int .u8 ((((mk.toNat : Nat) : Int) + 3) % 256)] 5))
                          obtain ⟨xs', hx⟩ := hK1.rowW
                          have bs1 := BS1.out
                          have bs2 := BS2.out
                          clear hK
                          go_upto_region 42 with (at_builtin; (refine wpl_append _ rfl _ _ 23 rfl 0 5 _ 1 1 Try.underlying23 info_byte7 rfl (by decide) (.slice W (bl + m + k) c1) (bl + m + k) _ rfl hx _ 1 1 [.int .u8 ((((mk.toNat : Nat) : Int) + 3) % 256)] rfl (rdc_block (cs := #[_]) (t := 5) (fr := (0, 0)) (heap_alloc_new _ _)) (by simp [Value.oneCell']) (by decide) (by decide) (by omega) (Nat.zero_le _) ?_); intro W6 c6 w6 ho6 hg6 hne6 hnn6; clear hnn6)
                          have e6 : bvals xs' ++ [Value.int .u8 ((((mk.toNat : Nat) : Int) + 3) % 256)] = bvals (xs' ++ [y]) := by rw [HY.out, bvals_append]; rfl
                          rw [e6] at ho6
                          have hK2 := hK1.appW ho6 hg6 hne6
                          clear hK1 hx e6 ho6 hg6 hne6
                          have ci2 : w6.cell? ⟨w12.heap.size, 1, none⟩ = some (.slice I (s + k) c2) := hK2.box.cell 1
                          have hK3 := hK2.below (below_alloc w6 (.cells #[.int .u8 ((((mk.toNat : Nat) : Int) + 4) % 256)] 5))
                          obtain ⟨ys', hys⟩ := hK3.rowI
                          clear hK2
                          go_wp2_with (at_builtin; (refine wpl_append _ rfl _ _ 23 rfl 0 5 _ 1 1 Try.underlying23 info_byte7 rfl (by decide) (.slice I (s + k) c2) (s + k) _ rfl hys _ 1 1 [.int .u8 ((((mk.toNat : Nat) : Int) + 4) % 256)] rfl (rdc_block (cs := #[_]) (t := 5) (fr := (0, 0)) (heap_alloc_new _ _)) (by simp [Value.oneCell']) (by decide) (by decide) (by omega) (Nat.zero_le _) ?_); intro I8 c8 w8' ho8 hg8 hne8 hnn8; clear hnn8; have e8 : bvals ys' ++ [Value.int .u8 ((((mk.toNat : Nat) : Int) + 4) % 256)] = bvals (ys' ++ [z]) := (by rw [HZ.out, bvals_append]; rfl); rw [e8] at ho8; obtain ⟨hX8, hK8⟩ := hK3.appI ho8 hg8 hne8; have fX8 := hX8.frozen 1; have cX8 : w8'.cell? ⟨w12.heap.size, 1, none⟩ = some (.slice I (s + k) c2) := hX8.cell 1; clear e8 hK3 hys ho8 hg8 hne8)
                          go_roundw
                          case rel => exact ⟨k + 1, W6, c6, I8, c8, by omega, by go_num, rfl, hK8⟩
                          case measure => simp [intOf]; omega
                        · obtain rfl : k = 70 := by omega
                          obtain ⟨wo3, rfl⟩ : ∃ wo3 : World, wo3 = wr := ⟨_, rfl⟩
                          have hC := hK.chg
                          have hszw := HZ13.out
                          have hFb : ∀ q, (blkO W0 = some q ∨ blkO I0 = some q ∨ q = w12.heap.size) → w8.heap.size ≤ q := fun q e => by
                            rcases e with e | e | e
                            · exact (fW q e).1
                            · have := (fI q e).1; omega
                            · omega
                          have hM14 := hM13.chg7 hC (fun q e e2 => by have := lm q e; have := hFb q e2; omega) (fun q e => Nat.le_trans z8 (hFb q e))
                          have hL14 := hL13.chg hC (fun q e e2 => by have := ll q e; have := hFb q e2; omega)
                          have hbR14 := hbR.chg hC (fun q e e2 => by
                            have := fR q e
                            rcases e2 with e2 | e2 | e2
                            · have := fW q e2; omega
                            · have := fI q e2; omega
                            · omega)
                          have hbS14 := hbS.chg hC (fun q e e2 => by
                            have := fS q e
                            rcases e2 with e2 | e2 | e2
                            · have := fW q e2; omega
                            · have := fI q e2; omega
                            · omega)
                          have hX14 := hX21.chg hC (fun e2 => by
                            rcases e2 with e2 | e2 | e2
                            · have := fW _ e2; omega
                            · have := fI _ e2; omega
                            · omega)
                          clear hK hC hFb hM13 hL13 hbR hbS hX21 hszw
                          have hks : ((strB bd).size : Int) = ((bl + m : Nat) : Int) := by rw [strB_size, HL8.out]
                          have HKS := Lib.hid hks
                          clear hks
                          go_wp2_with fail
                          refine (areaRead_at hM14.ar _ _ 0 (bl + m) (by simp) HKS.out (by rw [HL8.out]; omega)).mono ?_
                          rintro e w15 ⟨R2, r2c, rfl, ho15, hb15⟩
                          rw [List.drop_zero, List.take_of_length_le (by rw [HL8.out]; exact Nat.le_refl _)] at ho15
                          have hM15 := hM14.below hb15
                          go_wp2_with fail
                          refine (areaImage_any hM15.ar).mono ?_
                          rintro e w16 ⟨I3, i3c, rfl, ho16, hb16⟩
                          have hM16 := hM15.below hb16
                          have hbd := below_alloc w16 (.cells #[.int .i64 base, .slice I3 s i3c] 33)
                          have hX28 := Blk.fresh w16 #[.int .i64 base, .slice I3 s i3c] 33
                          have hb16d := below_then hb16 hbd hb16.size
                          have hb15d := below_then hb15 hb16d hb15.size
                          have hLd := hL14.below hb15d
                          have hM17 := hM16.below hbd
                          have hbR17 := hbR14.below hb15d
                          have hbS17 := hbS14.below hb15d
                          have hX17 := hX14.keep hb15d
                          have hb3' := (own_bytes' (own_below ho16 hbd) (by omega))
                          have hb2' := (own_bytes' (own_below ho15 hb16d) (by omega))
                          clear hM14 hM15 hM16 ho15 ho16 hb15 hb16 hbd hb16d hb15d hL14 hbR14 hbS14 hX14
                          go_wp2_with fail
                          refine (areaRead_at hLd _ _ 0 m (by simp) rfl (by rw [hd.1]; omega)).mono ?_
                          rintro e w18 ⟨R5, r5c, rfl, ho18, hb18⟩
                          rw [List.drop_zero, List.take_of_length_le (by rw [hd.1]; exact Nat.le_refl _)] at ho18
                          have hM19 := hM17.below hb18
                          have g1 := run_bytes_string (hbR17.below hb18) r1c 23 5 9 Try.underlying23 Try.underlying5 Try.underlying9
                          have g2_ := run_bytes_string (hb2'.below hb18) r2c 23 5 9 Try.underlying23 Try.underlying5 Try.underlying9
                          have g3 := run_bytes_string (hbS17.below hb18) s0c 23 5 9 Try.underlying23 Try.underlying5 Try.underlying9
                          have g4 := run_bytes_string (hb3'.below hb18) i3c 23 5 9 Try.underlying23 Try.underlying5 Try.underlying9
                          have x21 : w18.cell? ⟨w12.heap.size + 1, 1, none⟩ = some (.slice S0 s s0c) := (hX17.keep hb18).cell 1
                          have x28 : w18.cell? ⟨w16.heap.size, 1, none⟩ = some (.slice I3 s i3c) := (hX28.keep hb18).cell 1
                          have hdF := hd.below hM19.bel
                          have h5' := own_bytes' ho18 (by omega)
                          clear hLd hM17 hbR17 hbS17 hX17 hX28 hb3' hb2' ho18 hb18
                          go_wp2_with fail
                          refine (same_any _ _ _ _ _ _ _ _ _ h5' hdF).mono ?_
                          rintro e w20 ⟨rfl, rfl⟩
                          rw [show (d == d) = true from beq_self_eq_true _]
                          go_wp2_with fail
                          go_ret
                          exact ⟨by simp, hM19.bel⟩
end Go.Proofs.Ytbfnmfakagdpfaa
