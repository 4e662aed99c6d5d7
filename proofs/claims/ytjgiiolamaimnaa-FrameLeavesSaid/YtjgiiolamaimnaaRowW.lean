/- FrameRow, walked. -/
import Derived.Test.YtjgiiolamaimnaaAllW
import Derived.Test.YtjgiiolamaimnaaRowP
import Derived.Test.YtjgiiolamaimnaaVastR
import Derived.Test.YtjgiiolamaimnaaInts
namespace Go.Proofs.Ytjgiiolamaimnaa
open Go.RowKit Go.Shelf
set_option linter.unusedVariables false
set_option linter.unusedSimpArgs false
attribute [local go_sem] Oper.semAt_some
theorem info_int9 : (Try.prog.info? 3).map (fun i => (i.zero, i.size, i.bytes)) = some (some (.int .i64 0), 1, 8) := by kernel_rfl
/-- What the loop over the payloads bears: the row so far, the ends so far (in their box). -/
structure Rws (wr : World) (B E : Nat) (bss : List (List UInt8)) (k : Nat) (A1 : Option Addr) (c1 : Nat) (A2 : Option Addr) (c2 : Nat) : Prop where
  row : wr.ownsRow B 5 1 (.slice A1 (endB bss k) c1) (endB bss k) (bvals (rowB bss k))
  box : Blk wr E #[.slice A2 k c2] 53
  ends : wr.ownsRow B 3 1 (.slice A2 k c2) k (ivals (endsL bss k))
theorem Rws.below {w w1 : World} {B E k c1 c2 : Nat} {bss : List (List UInt8)} {A1 A2 : Option Addr} (h : Rws w B E bss k A1 c1 A2 c2) (hb : Below w.heap.size w w1) : Rws w1 B E bss k A1 c1 A2 c2 :=
  ⟨own_below h.row hb, h.box.keep hb, own_below h.ends hb⟩
theorem endB_vast (bss : List (List UInt8)) (k : Nat) (hk : k ≤ bss.length) : endB bss k ≤ 10 * vastN bss k := by
  induction k with
  | zero => exact Nat.zero_le _
  | succ k ih =>
    rw [endB_succ bss k (by omega), vastN_succ bss k (by omega)]
    have := ih (by omega)
    omega
theorem vastN_ge (bss : List (List UInt8)) (k : Nat) (hk : k ≤ bss.length) : k ≤ vastN bss k := by
  induction k with
  | zero => exact Nat.zero_le _
  | succ k ih =>
    rw [vastN_succ bss k (by omega)]
    have := ih (by omega)
    omega
/-- A return of true by a boxed result. -/
theorem leaves_true {w0 W : World} {fn : Func} {p : Tmp} {g : Nat} {tmps : Array Value} (h : fn.results = #[.cell p 4]) (hp : tmps.getD p undef = .pointer (some ⟨g, 0, none⟩)) (hb : Blk W g #[.bool true] 4) (hB : Below w0.heap.size w0 W) :
    bodyPostM Fence.wide 5 Try.prog fn (fun e w' => e = .returned (.bool true) ∧ Below w0.heap.size w0 w') .ret { tmps := tmps, defers := [] } W :=
  ⟨.bool true, results_plain h _ _ g hp (hb.cell 0) rfl Try.underlying4, rfl, hB⟩
theorem leaves_true1 {w0 W : World} {fn : Func} {p : Tmp} {g r : Nat} {tmps : Array Value} (h : fn.results = #[.cell p 4]) (hp : tmps.getD p undef = .pointer (some ⟨g, 0, none⟩)) (hb : Blk W g #[.bool true] 4) (hB : Below w0.heap.size w0 W)
    (hr : w0.heap.size ≤ r) (hg : g ≠ r) (hK : W.heap[r]? = some (.deferred (some []))) :
    bodyPostM Fence.wide 5 Try.prog fn (fun e w' => e = .returned (.bool true) ∧ Below w0.heap.size w0 w') .ret { tmps := tmps, defers := [{ target := .collected r, args := #[] }] } W := by
  have c1 := chg_put (fun q => q = r) W r (.deferred none) rfl
  exact ⟨by simp, .inl ⟨_, _, rfl, run_takeDeferred (w := W) hK, ⟨.bool true, results_plain h _ _ g hp ((hb.chg c1 hg).cell 0) rfl Try.underlying4, rfl, hB.trans (c1.below hB.size (fun q e => by omega))⟩⟩⟩
set_option maxRecDepth 100000 in
set_option maxHeartbeats 3200000 in
theorem frameRow_any (A : Option Addr) (n c : Nat) (bss : List (List UInt8)) (left : Int) (l0 : -9223372036854775808 ≤ left) (l1 : left ≤ 9223372036854775807) (w : World) (h : BRows w A n bss) :
    Calls Try.prog 13 #[.slice A n c, .int .i64 left] w fun e w' => e = .returned (.bool true) ∧ Below w.heap.size w w' := by
  have hl := Lib.hid h.1
  refine (callsIn_wide (n := 5)).1 ?_
  refine callsIn_of_wp_marks Try.func13 rfl trivial ?_ rfl
  refine wpIn_wide.2 ?_
  simp only [Try.ntmps13, List.size_toArray, List.length_cons, List.length_nil, Nat.reduceAdd, Nat.reduceSub, Array.replicate_succ, Array.replicate_zero, List.push_toArray, List.append_toArray, List.nil_append, List.cons_append]
  have hbl := below_alloc w (.cells #[.slice A n c] 51)
  have hba := below_then hbl (below_alloc (w.alloc (.cells #[.slice A n c] 51)) (.cells #[.bool false] 4)) hbl.size
  have hV : Blk ((w.alloc (.cells #[.slice A n c] 51)).alloc (.cells #[.bool false] 4)) w.heap.size #[.slice A n c] 51 := (Blk.fresh w #[.slice A n c] 51).keep (below_alloc _ _)
  have hR := Blk.fresh (w.alloc (.cells #[.slice A n c] 51)) #[.bool false] 4
  rw [World.size_alloc] at hR
  have hw := h.below hba
  go_wp2_with fail
  generalize hwa : (w.alloc (.cells #[.slice A n c] 51)).alloc (.cells #[.bool false] 4) = wa at *
  have eV : wa.cell? ⟨w.heap.size, 0, none⟩ = some (.slice A n c) := hV.cell 0
  have eR : wa.cell? ⟨w.heap.size + 1, 0, none⟩ = some (.bool false) := hR.cell 0
  have fR := hR.frozen 0
  have hRt := hR.set 0 (.bool true)
  have hBt := hba.setCell (p := ⟨w.heap.size + 1, 0, none⟩) (Nat.le_succ _) (.bool true)
  have HT := Lib.hid (And.intro hRt hBt)
  clear hwa hbl hRt hBt
  refine (vast_any _ _ _ _ _ hw).mono ?_
  rintro e w1 ⟨b, rfl, rfl, hv⟩
  cases b with
  | true =>
    go_wp2_with fail
    exact leaves_true rfl rfl HT.out.1 HT.out.2
  | false =>
    have HVA := Lib.hid (hv rfl)
    clear hv HT
    go_wp2_with fail
    refine (head_any _).mono ?_
    rintro e w1 ⟨rfl, hB1⟩
    have hW1 := below_then hba hB1 hba.size
    have hw1 := hw.below hB1
    have hR1 := hR.keep hB1
    have hV1 := hV.keep hB1
    have eV1 : w1.cell? ⟨w.heap.size, 0, none⟩ = some (.slice A n c) := hV1.cell 0
    have eR1 : w1.cell? ⟨w.heap.size + 1, 0, none⟩ = some (.bool false) := hR1.cell 0
    have fR1 := hR1.frozen 0
    have hRt := hR1.set 0 (.bool true)
    have hBt := hW1.setCell (p := ⟨w.heap.size + 1, 0, none⟩) (Nat.le_succ _) (.bool true)
    have HT := Lib.hid (And.intro hRt hBt)
    clear hRt hBt hw hR hV eV eR fR hB1 hba
    go_wp2_with fail
    refine (fits_any _ _ _ _ _ hw1).mono ?_
    rintro e w2 ⟨b, rfl, rfl, hf⟩
    cases b with
    | false =>
      go_wp2_with fail
      exact leaves_true rfl rfl HT.out.1 HT.out.2
    | true =>
      have HF := Lib.hid (hf rfl)
      clear hf HT
      have hn30 : n ≤ 1073741824 := by
        have h1 := vastN_ge bss bss.length (Nat.le_refl _)
        have h2 := HVA.out
        have h3 := hl.out
        omega
      have hend : ∀ k, k ≤ n → endB bss k ≤ 10737418240 := fun k hk => by
        have h1 := endB_vast bss k (by rw [hl.out]; exact hk)
        have h2 := vastN_mono bss k bss.length (by rw [hl.out]; exact hk) (Nat.le_refl _)
        have h3 := HVA.out
        omega
      have x1 := below_alloc w1 (.cells #[] 5)
      have x2 := below_then x1 (below_alloc (w1.alloc (.cells #[] 5)) (.cells #[] 3)) x1.size
      have x3 := below_then x2 (below_alloc ((w1.alloc (.cells #[] 5)).alloc (.cells #[] 3)) (.cells #[.slice (some ⟨w1.heap.size + 1, 0, none⟩) 0 0] 53)) x2.size
      have o1 := World.ownsRow_made (e := 5) (size := 1) (base := w1.heap.size) w1 #[] 0 (Nat.le_refl _) (by simp [maxLen]) rfl
      have o2 := World.ownsRow_made (e := 3) (size := 1) (base := w1.heap.size) (w1.alloc (.cells #[] 5)) #[] 0 (by simp) (by simp [maxLen]) rfl
      have b3 := Blk.fresh ((w1.alloc (.cells #[] 5)).alloc (.cells #[] 3)) #[.slice (some ⟨w1.heap.size + 1, 0, none⟩) 0 0] 53
      rw [World.size_alloc] at o2
      rw [World.size_alloc, World.size_alloc] at b3
      have hS0 : Rws (((w1.alloc (.cells #[] 5)).alloc (.cells #[] 3)).alloc (.cells #[.slice (some ⟨w1.heap.size + 1, 0, none⟩) 0 0] 53)) w1.heap.size (w1.heap.size + 1 + 1) bss 0 (some ⟨w1.heap.size, 0, none⟩) 0 (some ⟨w1.heap.size + 1, 0, none⟩) 0 :=
        ⟨own_below (own_below o1 (below_alloc _ _)) (below_alloc _ _), b3, own_below o2 (below_alloc _ _)⟩
      clear o1 o2 b3 x1 x2
      have eV2 : (((w1.alloc (.cells #[] 5)).alloc (.cells #[] 3)).alloc (.cells #[.slice (some ⟨w1.heap.size + 1, 0, none⟩) 0 0] 53)).cell? ⟨w.heap.size, 0, none⟩ = some (.slice A n c) := (hV1.keep x3).cell 0
      go_wp2_with fail
      go_loopw [5, 29] (fun v i wr => ∃ k : Nat, ∃ A1 c1 A2 c2, k ≤ n ∧ i = .int .i64 k ∧ v = .slice A1 (endB bss k) c1 ∧ Rws wr w1.heap.size (w1.heap.size + 1 + 1) bss k A1 c1 A2 c2 ∧ Below w1.heap.size w1 wr) (fun _ i _ => n - (intOf i).toNat)
      case atStart => exact ⟨0, _, _, _, _, Nat.zero_le _, rfl, rfl, hS0, x3⟩
      case round =>
        clear hS0 x3 eV2 eV1 eR1 fR1
        obtain ⟨k, A1, c1, A2, c2, hk, rfl, rfl, hS, hB⟩ := hrel
        by_cases hlt : k < n
        · have hw0 := hw1.below hB
          obtain ⟨b, o, A', l, c', rfl, hc0, hb0, hlb, hlen⟩ := hw0.at_ k hlt
          have h65 : l ≤ 65536 := by rw [hlen]; exact HF.out k (by rw [hl.out]; exact hlt)
          have hes := endB_succ bss k (by rw [hl.out]; exact hlt)
          rw [← hlen] at hes
          have hE1 := hend (k + 1) hlt
          rw [hes] at hE1
          have HES := Lib.hid hes
          have HRS := Lib.hid (rowB_succ bss k (by rw [hl.out]; exact hlt))
          generalize bss.getD k [] = p at *
          generalize hE : endB bss k = E at *
          have HEE := Lib.hid hE
          clear hE
          clear hlen hes hw0
          go_wp2_with fail
          refine (copied_any _ _ _ _ _ hb0 (by omega)).mono ?_
          rintro e wa1 ⟨A3, c3, rfl, ho3, y1, -⟩
          have hS1 := hS.below y1
          have hB1 := below_then hB y1 hB.size
          go_wp2_with fail
          refine (fmake_any _ _ _ _ _ (own_bytes' ho3 (by omega)) h65).mono ?_
          rintro e wa2 ⟨A4, c4, rfl, ho4, y2⟩
          have hS2 := hS1.below y2
          have hB2 := below_then hB1 y2 hB1.size
          have hr := hS2.row
          rw [HEE.out] at hr
          have h4b := own_bytes' ho4 (by omega)
          clear ho3 ho4 hS hS1 hB hB1 y1 y2 hb0
          go_upto_region 16 with (at_builtin; (refine wpl_append _ rfl _ _ 22 rfl w1.heap.size 5 _ 1 1 Try.underlying22 info_byte rfl (by decide) (.slice A1 E c1) E _ rfl hr A4 (l + 9) c4 _ rfl h4b.rdc (bvals_one _) (by decide) (by decide) (by omega) hB2.size ?_); intro A6 c6 w6 ho6 hg6 hne6 hnn6; clear hnn6 hne6)
          have hb6 := hS2.box.grown hg6 (own_not_blk4 hr hS2.box (by decide))
          have he6 := hS2.ends.kept hg6 (own_apart9 hS2.ends hr (by decide))
          have hB6 := hB2.grown hg6 hB2.size (own_base hr)
          rw [← bvals_append] at ho6
          have y7 := below_alloc w6 (.cells #[.int .i64 ((E : Int) + ((l : Int) + 9))] 3)
          have hb7 := hb6.keep y7
          have he7 := own_below he6 y7
          have ho7 := own_below ho6 y7
          have hB7 := below_then hB6 y7 hB6.size
          have hR7 := rdc_block (heap_alloc_new w6 (.cells #[.int .i64 ((E : Int) + ((l : Int) + 9))] 3))
          have e6 : w6.cell? ⟨w1.heap.size + 1 + 1, 0, none⟩ = some (.slice A2 k c2) := hb6.cell 0
          clear hb6 he6 ho6 hB6 y7 hS2 hr h4b hg6
          go_wp2_with (at_builtin; (refine wpl_append _ rfl _ _ 53 rfl w1.heap.size 3 _ 1 8 Try.underlying53 info_int9 rfl (by decide) (.slice A2 k c2) k _ rfl he7 _ 1 1 (ivals [(E : Int) + ((l : Int) + 9)]) rfl hR7 (ivals_one _) (by decide) (by decide) (by omega) hB7.size ?_); intro A8 c8 w8 ho8 hg8 hne8 hnn8; clear hnn8 hne8; have hb8 := hb7.grown hg8 (own_not_blk4 he7 hb7 (by decide)); have fb8 := hb8.frozen 0; have e8 : w8.cell? ⟨w1.heap.size + 1 + 1, 0, none⟩ = some (.slice A2 k c2) := hb8.cell 0)
          have hB8 := hB7.grown hg8 hB7.size (own_base he7)
          have hr8 := ho7.kept hg8 (own_apart9 ho7 he7 (by decide))
          have hS8 : Rws (w8.setCell ⟨w1.heap.size + 1 + 1, 0, none⟩ (.slice A8 (k + 1) c8)) w1.heap.size (w1.heap.size + 1 + 1) bss (k + 1) A6 c6 A8 c8 := by
            have hc := chg_set w8 (w1.heap.size + 1 + 1) 0 (.slice A8 (k + 1) c8)
            refine ⟨?_, hb8.set 0 (.slice A8 (k + 1) c8), ?_⟩
            · rw [HES.out, HRS.out]
              exact own_chg hr8 hc (fun q e e2 => own_not_blk4 hr8 hb8 (by decide) (by rw [e, e2]))
            · rw [endsL_succ, ivals_append, HES.out]
              exact own_chg ho8 hc (fun q e e2 => own_not_blk4 ho8 hb8 (by decide) (by rw [e, e2]))
          have hB9 := hB8.setCell (p := ⟨w1.heap.size + 1 + 1, 0, none⟩) (by show w1.heap.size ≤ w1.heap.size + 1 + 1; omega) (.slice A8 (k + 1) c8)
          clear hb8 ho8 hr8 hB8 hg8 hb7 he7 ho7 hB7 hR7 fb8 e8 e6
          go_roundw
          case rel => exact ⟨k + 1, A6, c6, A8, c8, hlt, by go_num, by rw [HES.out], hS8, hB9⟩
          case measure => simp [intOf]; omega
        · obtain rfl : n = k := by omega
          clear hlt hk
          obtain ⟨EN, hEN⟩ : ∃ EN, endB bss n = EN := ⟨_, rfl⟩
          have hENb := hend n (Nat.le_refl _)
          rw [hEN] at hENb ⊢
          have HEN := Lib.hid hEN
          clear hEN
          have hadj : ∃ lf : Nat, lf ≤ EN ∧ ((left < 0 ∧ lf = EN) ∨ (0 ≤ left ∧ (EN : Int) < left ∧ lf = EN) ∨ (0 ≤ left ∧ ¬ (EN : Int) < left ∧ left = (lf : Int))) := by
            by_cases g1 : left < 0
            · exact ⟨EN, Nat.le_refl _, .inl ⟨g1, rfl⟩⟩
            · by_cases g2 : (EN : Int) < left
              · exact ⟨EN, Nat.le_refl _, .inr (.inl ⟨by omega, g2, rfl⟩)⟩
              · exact ⟨left.toNat, by omega, .inr (.inr ⟨by omega, g2, by omega⟩)⟩
          obtain ⟨lf, hlf, hadj⟩ := hadj
          go_upto_region 18 with fail
          go_cut [57] from 50 to 56 (fun v wx => ∃ bb, v = .bool bb ∧ ((bb = true ∧ lf = EN) ∨ (bb = false ∧ left = (lf : Int))) ∧ wr = wx)
          case first =>
            rcases hadj with ⟨g1, rfl⟩ | ⟨g1, g2, rfl⟩ | ⟨g1, g2, rfl⟩
            all_goals go_wp2_with fail
            all_goals go_meet
            · exact ⟨true, rfl, .inl (by simp), rfl⟩
            · exact ⟨true, rfl, .inl (by simp), rfl⟩
            · exact ⟨false, rfl, .inr (by simp), rfl⟩
          case rest =>
            obtain ⟨bb, rfl, hbb, rfl⟩ := hcut
            clear hadj
            go_upto_if 57 with fail
            go_cut [1] from 58 to 59 (fun v wx => v = .int .i64 (lf : Nat) ∧ wr = wx)
            case first =>
              rcases hbb with ⟨rfl, rfl⟩ | ⟨rfl, rfl⟩
              · go_wp2_with fail
                go_meet
                exact ⟨rfl, rfl⟩
              · go_wp2_with fail
                go_meet
                exact ⟨rfl, rfl⟩
            case rest =>
              obtain ⟨rfl, rfl⟩ := hcut
              clear hbb
              have hrow := hS.row
              rw [HEN.out] at hrow
              have hcap := own_cap4 hrow
              have hrb := own_bytes' hrow (by omega)
              have hbt := hrb.take lf hlf
              obtain ⟨W, hWn, hw1', hw2'⟩ := whole_ex bss lf n
              have hall := allF_row bss HF.out lf W (by rw [hl.out, HEN.out]; exact hlf) (by rw [hl.out]; exact hWn) hw1' (by rw [hl.out]; exact hw2')
              rw [hl.out] at hall
              obtain ⟨bb, hbb⟩ : ∃ bb, (rowB bss n).take lf = bb := ⟨_, rfl⟩
              rw [hbb] at hall hbt
              obtain ⟨hcnt, hpos, hget⟩ := hall
              have HPOS := Lib.hid hpos
              have HGET := Lib.hid hget
              have HW1 := Lib.hid hw1'
              have HW2 := Lib.hid hw2'
              have HCNT := Lib.hid hcnt
              have hlen := hbt.1
              have i0 : (lf : Int) ≤ (c1 : Int) := by omega
              clear hbb hpos hget hw1' hw2' hcnt hrow hrb
              go_wp2_with fail
              refine (copied_any _ _ _ _ _ hbt (by omega)).mono ?_
              rintro e w5 ⟨A5, c5, rfl, ho5, hb5, -⟩
              have h55 := own_bytes' ho5 (by omega)
              have hS5 := hS.below hb5
              have hB5 := below_then hB hb5 hB.size
              go_wp2_with fail
              refine (fall_any _ _ _ _ _ h55 (by omega)).mono ?_
              rintro e w6 ⟨X, A6, c6, rfl, hAll, hb6⟩
              have hS6 := hS5.below hb6
              have hB6 := below_then hB5 hb6 hB5.size
              have hfn := func_nil X w6
              have hba8 := below_alloc w6 (.cells #[.int .i64 0] 3)
              have hN8 := Blk.fresh w6 #[.int .i64 0] 3
              have hA8 := AllAt.chg hAll (chg_below hba8 (fun _ => False)) (fun _ _ e => e)
              have hs8 : (w6.alloc (.cells #[.int .i64 0] 3)).heap.size = w6.heap.size + 1 := by simp
              have hPl := hA8.lt
              have hPlo : ∀ q, allP X A6 q → q < w6.heap.size := hAll.lt
              have hbt6 := (hbt.below hb5).below hb6
              clear ho5 h55 hb5 hAll hS5 hS hB hB5 hb6 hbt
              go_wp2_with fail
              generalize hw8 : w6.alloc (.cells #[.int .i64 0] 3) = w8 at *
              have hw68 : w6.heap.size < w8.heap.size := by omega
              clear hw8 hs8
              refine (wpIn_wide (n := 5)).1 ?_
              have hVR : Below w1.heap.size w1 w6 := hB6
              have hR6 := hR1.below hB6 hR1.lt
              have hV6 := hV1.below hB6 hV1.lt
              have hw6 := hw1.below (hB6.mono (Nat.le_refl _))
              have hW6 := hW1.trans (hB6.mono hW1.size)
              have hz16 := hB6.size
              have hRl := hR1.lt
              refine range_law2 (m := 3) (gf := 37) (lb := #[.pointer (some ⟨X, 0, none⟩)]) (V := AllV bb) (N := (allF bb).length) (Pq := allP X A6) 68 69 13 14 ?_ ?_ ?_ ?_ ?_ ?_
                (fun k W' => Blk W' w6.heap.size #[.int .i64 (k : Nat)] 3 ∧ Below w6.heap.size w6 W')
                (fun c k W' => False) ?_ ?_ ?_ ?_ ?_ ?_ ?_ ?_
              · rfl
              · exact enters_of Try.func37 (by kernel_rfl) rfl
              · exact allIt w8 _ X A6 lf c6 bb 3 hA8 (by omega)
              · exact fun k W0 W1 vals h => allV_size h
              · exact fun k W0 A B vals h hz hc => allV_book h hz hc
              · exact hPl
              · exact fun k A B h hb => ⟨h.1.keep hb, below_then h.2 hb h.2.size⟩
              · exact fun k A B h hz hc => ⟨chgBook_blk h.1 hc hw68, chgBook_below h.2 hc (by omega) h.2.size⟩
              · exact fun c k A B h hz hc => h
              · exact ⟨hN8, hba8⟩
              · intro l k W0 W' vals K hv hK
                obtain ⟨A', n', c', rfl, hn', ho⟩ := hv
                simp only [actOf, get0, get1, List.setIfInBounds_toArray, List.set_cons_succ, List.set_cons_zero] at hK
                gi_wp2
                exact hK
              · rintro l k W0 W' vals hk hz hI0 hc ⟨hN, hBW⟩ hv
                obtain ⟨A', n', c', rfl, hn', ho⟩ := hv
                simp only [actOf, get0, get1, List.setIfInBounds_toArray, List.set_cons_succ, List.set_cons_zero]
                have hkW : k < W := by have := HCNT.out; omega
                have hkn : k < n := by omega
                have hSW := hS6.below hBW
                have hwW := hw6.below hBW
                have hn2 := hn'.out
                rw [HGET.out k hkW] at hn2 ho
                simp only at hn2 ho
                rw [HPOS.out (k + 1) (by omega)]
                obtain ⟨bq, oq, Ap, lp, cp, rfl, hcp, hbp, hlp, hlen'⟩ := hwW.at_ k hkn
                obtain ⟨be, oe, rfl, hce⟩ := (own_ints hSW.ends (by omega)).at_ k hkn
                rw [endsL_at bss n k hkn] at hce
                have h1 := own_bytes' ho (by omega)
                have eO : W'.cell? ⟨w1.heap.size + 1 + 1, 0, none⟩ = some (.slice (some ⟨be, oe, none⟩) n c2) := hSW.box.cell 0
                have eP : W'.cell? ⟨w.heap.size, 0, none⟩ = some (.slice (some ⟨bq, oq, none⟩) n c) := (hV6.below hBW hV6.lt).cell 0
                have eN : W'.cell? ⟨w6.heap.size, 0, none⟩ = some (.int .i64 (k : Nat)) := hN.cell 0
                have fN := hN.frozen 0
                have hki : (k : Int) < (n : Int) := by omega
                have hkd : decide (n ≤ k) = false := decide_eq_false (by omega)
                have hN' := hN.set 0 (.int .i64 ((k : Int) + 1))
                have hcs := chg_set W' w6.heap.size 0 (.int .i64 ((k : Int) + 1))
                have hBN := hBW.trans (hcs.below hBW.size (fun q e => by omega))
                have hzW := Nat.le_trans hz hc.size
                have hkp := keep2_of (w := w8) hcs hzW (by omega) (by omega)
                have hcp' : Chg (fun q => ¬ allP X A6 q) W' (W'.setCell ⟨w6.heap.size, 0, none⟩ (.int .i64 ((k : Int) + 1))) := hcs.mono (fun q e e2 => by have := hPlo q e2; omega)
                have HH := Lib.hid (And.intro hN' (And.intro hBN (And.intro hkp hcp')))
                rw [hn2, ← hlen'] at h1 ⊢
                generalize bss.getD k [] = pk at *
                generalize endB bss (k + 1) = ek at *
                clear hN' hcs hI0 hc ho hkp hcp' hlen' hSW hwW hBN
                gi_wp2
                refine ⟨trivial, ?_⟩
                with_reducible refine CallsIn.inRound l (callsIn_wide.2 ((same_any _ _ _ _ _ _ _ _ _ h1 hbp).mono ?_))
                rintro e w10 ⟨rfl, rfl⟩
                gi_wp2
                obtain ⟨hN', hBN, hkp, hcp'⟩ := HH.out
                exact ⟨hkp, hcp', hN', hBN⟩
              · rintro W' hz ⟨hN, hBW⟩ hK
                rw [HCNT.out] at hN
                have hSW := hS6.below hBW
                have hin := own_ints hSW.ends (by omega)
                have hbtW := hbt6.below hBW
                have eO : W'.cell? ⟨w1.heap.size + 1 + 1, 0, none⟩ = some (.slice A2 n c2) := hSW.box.cell 0
                have eN : W'.cell? ⟨w6.heap.size, 0, none⟩ = some (.int .i64 (W : Nat)) := hN.cell 0
                have hRW := hR6.below hBW hR6.lt
                have hBB := hW6.trans (hBW.mono hW6.size)
                have hEW : posL 0 (allF bb) W = endB bss W := HPOS.out W (Nat.le_refl _)
                have HEW := Lib.hid hEW
                clear hEW
                go_wp2_with fail
                go_loopw [15] (fun v wr' => ∃ k : Nat, k ≤ W ∧ v = .int .i64 (k : Nat) ∧ W' = wr') (fun v _ => W - (intOf v).toNat)
                case atStart => exact ⟨0, Nat.zero_le _, rfl, rfl⟩
                case round =>
                  obtain ⟨k, hk, rfl, rfl⟩ := hrel
                  by_cases hkW : k < W
                  · obtain ⟨be, oe, rfl, hce⟩ := hin.at_ k (by omega)
                    rw [endsL_at bss n k (by omega)] at hce
                    have hle := HW1.out k hkW
                    have hki : (k : Int) < (n : Int) := by omega
                    have hkd : decide (k < n) = true := decide_eq_true (by omega)
                    generalize endB bss (k + 1) = ek at *
                    have hei : (ek : Int) ≤ (lf : Int) := by omega
                    have hed : decide (ek ≤ lf) = true := decide_eq_true hle
                    go_wp2_with fail
                    go_roundw
                    case rel => exact ⟨k + 1, hkW, by go_num, by simp⟩
                    case measure => simp [intOf]; omega
                  · obtain rfl : W = k := by omega
                    by_cases hWlt : W < n
                    · obtain ⟨be, oe, rfl, hce⟩ := hin.at_ W hWlt
                      rw [endsL_at bss n W hWlt] at hce
                      have hgt := HW2.out.resolve_left (by omega)
                      have hki : (W : Int) < (n : Int) := by omega
                      have hkd : decide (W < n) = true := decide_eq_true hWlt
                      generalize endB bss (W + 1) = ek at *
                      have hei : ¬ (ek : Int) ≤ (lf : Int) := by omega
                      have hed : decide (ek ≤ lf) = false := decide_eq_false (by omega)
                      go_wp2_with fail
                      refine (copied_any _ _ _ _ _ hbtW (by omega)).mono ?_
                      rintro e w9 ⟨A9, c9, rfl, ho9, hb9, -⟩
                      go_wp2_with fail
                      refine (fcount_any _ _ _ _ _ (own_bytes' ho9 (by omega)) (by omega)).mono ?_
                      rintro e w10 ⟨rfl, hb10⟩
                      have hbx := below_then hb9 hb10 hb9.size
                      rw [HCNT.out, HEW.out]
                      have hRx := hRW.keep hbx
                      have eR : w10.cell? ⟨w.heap.size + 1, 0, none⟩ = some (.bool false) := hRx.cell 0
                      have fR := hRx.frozen 0
                      have hBx := below_then hBB hbx hBB.size
                      have hKx := (hbx.block _ (Array.getElem?_eq_some_iff.1 hK).1).trans hK
                      have eOx : w10.cell? ⟨w1.heap.size + 1 + 1, 0, none⟩ = some (.slice _ n c2) := (hSW.box.keep hbx).cell 0
                      have hinx := hin.below hbx
                      have HZ := Lib.hid (fun (tm : Array Value) (hp : tm.getD 4 undef = .pointer (some ⟨w.heap.size + 1, 0, none⟩)) => leaves_true1 (tmps := tm) (w0 := w) (fn := Try.f13) (p := 4) (g := w.heap.size + 1) (r := w8.heap.size) (W := w10.setCell ⟨w.heap.size + 1, 0, none⟩ (.bool true)) rfl hp (hRx.set 0 (.bool true)) (hBx.setCell (p := ⟨w.heap.size + 1, 0, none⟩) (Nat.le_succ _) (.bool true)) (by have := hW6.size; omega) (by omega) ((heap_setCell_other _ _ _ _ (by show w8.heap.size ≠ w.heap.size + 1; omega)).trans hKx))
                      clear hbx hb9 hb10 ho9 hRx hBx hKx hin hSW hRW hBB hbtW
                      by_cases hV0 : W = 0
                      · subst hV0
                        have e0 : endB bss 0 = 0 := rfl
                        rw [e0]
                        go_wp2_with fail
                        exact HZ.out _ rfl
                      · obtain ⟨M, rfl⟩ : ∃ M, W = M + 1 := ⟨W - 1, by omega⟩
                        obtain ⟨be', oe', hAe, hcx⟩ := hinx.at_ M (by omega)
                        cases hAe
                        rw [endsL_at bss _ M (by omega)] at hcx
                        generalize endB bss (M + 1) = ek at *
                        go_wp2_with fail
                        exact HZ.out _ rfl
                    · obtain rfl : n = W := by omega
                      go_wp2_with fail
                      refine (copied_any _ _ _ _ _ hbtW (by omega)).mono ?_
                      rintro e w9 ⟨A9, c9, rfl, ho9, hb9, -⟩
                      go_wp2_with fail
                      refine (fcount_any _ _ _ _ _ (own_bytes' ho9 (by omega)) (by omega)).mono ?_
                      rintro e w10 ⟨rfl, hb10⟩
                      have hbx := below_then hb9 hb10 hb9.size
                      rw [HCNT.out, HEW.out]
                      have hRx := hRW.keep hbx
                      have eR : w10.cell? ⟨w.heap.size + 1, 0, none⟩ = some (.bool false) := hRx.cell 0
                      have fR := hRx.frozen 0
                      have hBx := below_then hBB hbx hBB.size
                      have hKx := (hbx.block _ (Array.getElem?_eq_some_iff.1 hK).1).trans hK
                      have eOx : w10.cell? ⟨w1.heap.size + 1 + 1, 0, none⟩ = some (.slice _ n c2) := (hSW.box.keep hbx).cell 0
                      have hinx := hin.below hbx
                      have HZ := Lib.hid (fun (tm : Array Value) (hp : tm.getD 4 undef = .pointer (some ⟨w.heap.size + 1, 0, none⟩)) => leaves_true1 (tmps := tm) (w0 := w) (fn := Try.f13) (p := 4) (g := w.heap.size + 1) (r := w8.heap.size) (W := w10.setCell ⟨w.heap.size + 1, 0, none⟩ (.bool true)) rfl hp (hRx.set 0 (.bool true)) (hBx.setCell (p := ⟨w.heap.size + 1, 0, none⟩) (Nat.le_succ _) (.bool true)) (by have := hW6.size; omega) (by omega) ((heap_setCell_other _ _ _ _ (by show w8.heap.size ≠ w.heap.size + 1; omega)).trans hKx))
                      clear hbx hb9 hb10 ho9 hRx hBx hKx hin hSW hRW hBB hbtW
                      by_cases hV0 : n = 0
                      · subst hV0
                        have e0 : endB bss 0 = 0 := rfl
                        rw [e0]
                        go_wp2_with fail
                        exact HZ.out _ rfl
                      · obtain ⟨M, rfl⟩ : ∃ M, n = M + 1 := ⟨n - 1, by omega⟩
                        obtain ⟨be', oe', hAe, hcx⟩ := hinx.at_ M (by omega)
                        cases hAe
                        rw [endsL_at bss _ M (by omega)] at hcx
                        generalize endB bss (M + 1) = ek at *
                        go_wp2_with fail
                        exact HZ.out _ rfl
              · intro c k W' hk hz h hK
                exact h.elim
end Go.Proofs.Ytjgiiolamaimnaa
