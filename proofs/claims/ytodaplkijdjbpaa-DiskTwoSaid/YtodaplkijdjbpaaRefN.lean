/- The document's disk, walked: New, Load. -/
import Derived.Test.YtodaplkijdjbpaaRefM
import Derived.Deep.RegionLaw
import Derived.Test.YtodaplkijdjbpaaLoad
namespace Go.Proofs.Ytodaplkijdjbpaa
open Go.RowKit
set_option linter.unusedVariables false
set_option linter.unusedSimpArgs false
theorem info_rarea : (Try.prog.info? 96).map (fun i => (i.zero, i.size, i.bytes)) = some (some (.agg #[.int .i64 0, .int .i64 0, .int .i64 0, .slice none 0 0, .int .i64 0, .int .i64 0, .int .u8 0]), 7, 72) := by kernel_rfl
/-- The document's disk whose areas lie in one block, their bytes elsewhere. -/
def RBk (w : World) (q : Nat) (P : Pd) (F : Nat → Prop) : Prop :=
  F q ∧ ∃ cs, Blk w q cs 96 ∧ P.n * 7 ≤ cs.size ∧ ∀ j, j < P.n → ∃ B c, (∀ i u, (rCells (P.p j) B c)[i]? = some u → cs[j * 7 + i]? = some u) ∧ Out (fun k => F k ∧ k ≠ q) w B (P.p j).bs.length (P.p j).bs ∧ (P.p j).bs.length ≤ c
section
variable {w w1 : World} {q : Nat} {P : Pd} {F F' : Nat → Prop}
theorem RBk.at_ (h : RBk w q P F) : RAt w (some ⟨q, 0, none⟩) P F := by
  obtain ⟨hF, cs, hb, hz, hj⟩ := h
  refine ⟨q, rfl, hF, fun j hj2 => ?_⟩
  obtain ⟨B, c, h1, h2, h3⟩ := hj j hj2
  exact ⟨B, c, fun i u hu => (hb.cell _).trans (h1 i u hu), h2.mono (fun k e => e.1), h3⟩
theorem RBk.mono (h : RBk w q P F) (hs : ∀ k, F k → F' k) : RBk w q P F' := by
  obtain ⟨hF, cs, hb, hz, hj⟩ := h
  refine ⟨hs q hF, cs, hb, hz, fun j hj2 => ?_⟩
  obtain ⟨B, c, h1, h2, h3⟩ := hj j hj2
  exact ⟨B, c, h1, h2.mono (fun k e => ⟨hs k e.1, e.2⟩), h3⟩
theorem RBk.below (h : RBk w q P F) (hb : Below w.heap.size w w1) : RBk w1 q P F := by
  obtain ⟨hF, cs, hbk, hz, hj⟩ := h
  refine ⟨hF, cs, hbk.keep hb, hz, fun j hj2 => ?_⟩
  obtain ⟨B, c, h1, h2, h3⟩ := hj j hj2
  exact ⟨B, c, h1, h2.below hb, h3⟩
theorem RBk.off {g : Nat} (h : RBk w q P F) (hc : Chg (fun k => k = g) w w1) (hg : ¬ F g) : RBk w1 q P F := by
  obtain ⟨hF, cs, hbk, hz, hj⟩ := h
  refine ⟨hF, cs, hbk.chg hc (fun e => hg (e ▸ hF)), hz, fun j hj2 => ?_⟩
  obtain ⟨B, c, h1, h2, h3⟩ := hj j hj2
  exact ⟨B, c, h1, h2.chg (hc.mono (fun k e e2 => hg (e ▸ e2.1))), h3⟩
theorem RBk.cells (h : RBk w q P F) {j : Nat} (hj : j < P.n) : ∃ v0 v1 v2 v3 v4 v5 v6, w.cell? ⟨q, j * 7, none⟩ = some (.int .i64 v0) ∧ w.cell? ⟨q, j * 7 + 1, none⟩ = some (.int .i64 v1) ∧ w.cell? ⟨q, j * 7 + 2, none⟩ = some (.int .i64 v2) ∧ w.cell? ⟨q, j * 7 + 3, none⟩ = some v3 ∧ w.cell? ⟨q, j * 7 + 4, none⟩ = some (.int .i64 v4) ∧ w.cell? ⟨q, j * 7 + 5, none⟩ = some (.int .i64 v5) ∧ w.cell? ⟨q, j * 7 + 6, none⟩ = some (.int .u8 v6) := by
  obtain ⟨q', B, c, e, h0, h1, h2, h3, h4, h5, h6, _⟩ := h.at_.at_ j hj
  injection e with e
  injection e with e
  subst e
  exact ⟨_, _, _, _, _, _, _, h0, h1, h2, h3, h4, h5, h6⟩
theorem RBk.lt (h : RBk w q P F) : q < w.heap.size := by obtain ⟨_, cs, hb, _⟩ := h; exact hb.lt
theorem RBk.frozen (h : RBk w q P F) (j : Nat) : w.frozen? ⟨q, j, none⟩ = false := by obtain ⟨_, cs, hb, _⟩ := h; exact hb.frozen j
theorem RBk.blk (h : RBk w q P F) : ∃ cs, Blk w q cs 96 := by obtain ⟨_, cs, hb, _⟩ := h; exact ⟨cs, hb⟩
theorem RBk.set (h : RBk w q P F) (i : Nat) (hi : i < P.n) (a : Pa) (B : Option Addr) (c : Nat) (ho : Out (fun k => F k ∧ k ≠ q) w B a.bs.length a.bs) (hc : a.bs.length ≤ c) : RBk (set7 w q (i * 7) a B c) q (P.set i a) F ∧ Chg (fun k => k = q) w (set7 w q (i * 7) a B c) := by
  have hC := chg_set7 w q (i * 7) a B c
  have hC2 : Chg (fun k => ¬ (F k ∧ k ≠ q)) w (set7 w q (i * 7) a B c) := hC.mono (fun k e e2 => e2.2 e)
  obtain ⟨hF, cs, hb, hz, hj⟩ := h
  refine ⟨⟨hF, _, blk_set7 hb a B c, ?_, fun j hj2 => ?_⟩, hC⟩
  · unfold set7c
    simp only [Array.size_setIfInBounds]
    exact hz
  · have hj3 : j < P.n := hj2
    by_cases e : j = i
    · subst e
      simp only [Pd.set, upd_same]
      exact ⟨B, c, fun k u hu => set7c_at cs (j * 7) a B c (by omega) k u hu, ho.chg hC2, hc⟩
    · simp only [Pd.set, upd_other _ _ _ _ e]
      obtain ⟨B', c', k1, k2, k3⟩ := hj j hj3
      refine ⟨B', c', fun k u hu => ?_, k2.chg hC2, k3⟩
      have hk : k < 7 := by have := (List.getElem?_eq_some_iff.1 hu).1; rwa [rCells_len] at this
      rw [set7c_off _ _ _ _ _ _ (by omega)]
      exact k1 k u hu
end
theorem rnew_made {w : World} {g n : Nat} (h : Blk w g (madeCells (Value.agg #[.int .i64 0, .int .i64 0, .int .i64 0, .slice none 0 0, .int .i64 0, .int .i64 0, .int .u8 0]).cells (n * 7)) 96) {F : Nat → Prop} (hF : F g) : RBk w g (Pd.new n) F := by
  refine ⟨hF, _, h, by rw [size_madeCells]; exact Nat.le_refl _, fun j hj => ⟨none, 0, fun i u hu => ?_, Out.nil _ _ _, Nat.le_refl _⟩⟩
  have hj' : j < n := hj
  have hi : i < 7 := by have := (List.getElem?_eq_some_iff.1 hu).1; rwa [rCells_len] at this
  rw [made_at _ _ _ (by omega)]
  have e : (j * 7 + i) % 7 = i := by omega
  have h7 : i = 0 ∨ i = 1 ∨ i = 2 ∨ i = 3 ∨ i = 4 ∨ i = 5 ∨ i = 6 := by omega
  have hcs : (Value.agg #[.int .i64 0, .int .i64 0, .int .i64 0, .slice none 0 0, .int .i64 0, .int .i64 0, .int .u8 0]).cells = #[.int .i64 0, .int .i64 0, .int .i64 0, .slice none 0 0, .int .i64 0, .int .i64 0, .int .u8 0] := by simp [Value.cells]
  rw [hcs]
  rcases h7 with rfl | rfl | rfl | rfl | rfl | rfl | rfl <;> (simp [rCells, Pd.new, Pa.new, Ft.no] at hu; subst hu; simp [e])
theorem loadK_zero (l : List (Int × List UInt8)) (n : Nat) : Pd.loadK l n 0 = Pd.new n := by simp [Pd.loadK, Pd.new]
def RNewTo (n : Nat) (w : World) (e : Ending) (w' : World) : Prop :=
  ∃ q, e = .returned (.tuple #[.agg #[.slice (some ⟨q, 0, none⟩) n n, .bool false], .int .i64 0]) ∧ RBk w' q (Pd.new n) (fun k => w.heap.size ≤ k ∧ k < w'.heap.size) ∧ Below w.heap.size w w'
theorem refNew_no (i : Int) (w : World) (h : i < 1 ∨ 16 < i) :
    Calls Try.prog 33 #[.int .i64 i] w fun e w' => e = .returned (.tuple #[.agg #[.slice none 0 0, .bool false], .int .i64 2]) ∧ Below w.heap.size w w' := by
  by_cases h1 : i < 1
  · have d1 : decide (i < 1) = true := decide_eq_true h1
    go_enter Try.func33, Try.ntmps33
    go_wp2
    refine bodyPost_ret (results_row_tmp rfl _ _ w.heap.size 48 _ (0, 0) _ rfl (Blk.fresh w _ _) Try.underlying48 rfl (by kernel_rfl) _ rfl) rfl ?_
    exact ⟨rfl, below_alloc _ _⟩
  · have d1 : decide (i < 1) = false := decide_eq_false h1
    have d2 : decide (16 < i) = true := decide_eq_true (by omega)
    go_enter Try.func33, Try.ntmps33
    go_wp2
    refine bodyPost_ret (results_row_tmp rfl _ _ w.heap.size 48 _ (0, 0) _ rfl (Blk.fresh w _ _) Try.underlying48 rfl (by kernel_rfl) _ rfl) rfl ?_
    exact ⟨rfl, below_alloc _ _⟩
set_option maxHeartbeats 1600000 in
set_option maxRecDepth 100000 in
theorem refNew_any (n : Nat) (w : World) (h0 : 1 ≤ n) (h1 : n ≤ 16) :
    Calls Try.prog 33 #[.int .i64 (n : Int)] w (RNewTo n w) := by
  obtain ⟨i0, hi, hz0, hz1, hz2⟩ := info_parts info_rarea
  have d1 : decide ((n : Int) < 1) = false := decide_eq_false (by omega)
  have d2 : decide ((16 : Int) < (n : Int)) = false := decide_eq_false (by omega)
  go_enter Try.func33, Try.ntmps33
  have x1 := below_alloc w (.cells #[.slice none 0 0, .bool false] 48)
  have b1 := Blk.fresh w #[.slice none 0 0, .bool false] 48
  have z1 : (w.alloc (.cells #[.slice none 0 0, .bool false] 48)).heap.size = w.heap.size + 1 := by simp
  obtain ⟨wa, hwa⟩ : ∃ wa, w.alloc (.cells #[.slice none 0 0, .bool false] 48) = wa := ⟨_, rfl⟩
  rw [hwa] at x1 b1 z1
  go_upto_region 3 with fail
  clear hwa
  go_wp2_with (at_make; refine wpList_make_full _ rfl (.tmp 11) (.tmp 11) 46 rfl wa.heap.size 96 i0 _ 7 Try.underlying46 hi hz0 hz1 .i64 .i64 _ _ n rfl rfl rfl rfl (by rw [hz2]; omega) (by simp [maxLen]; omega) (Nat.le_refl _) ?_; intro w1 hown hgr; have hB1 := below_of_grown hgr (Nat.le_refl _) (fun k h => by cases h); have o0 := (b1.keep hB1).cell 0; have o1 := (b1.keep hB1).cell 1; have of := (b1.keep hB1).frozen)
  have hbk := made_blk hown
  rw [z1] at hbk
  have e0 : ((w1.setCell ⟨w.heap.size, 0, none⟩ (.slice (some ⟨w.heap.size + 1, 0, none⟩) n n)).setCell ⟨w.heap.size, 1, none⟩ (.bool false)).heap.size = w1.heap.size := by simp [World.setCell]
  have hC := (chg_set w1 w.heap.size 0 (.slice (some ⟨w.heap.size + 1, 0, none⟩) n n)).set (.inl rfl) 1 (.bool false)
  have bb : Blk _ w.heap.size #[.slice (some ⟨w.heap.size + 1, 0, none⟩) n n, .bool false] 48 := (((b1.keep hB1).set 0 (.slice (some ⟨w.heap.size + 1, 0, none⟩) n n)).set 1 (.bool false))
  have hra := (rnew_made (F := fun k => w.heap.size + 1 ≤ k ∧ k < w1.heap.size) hbk ⟨Nat.le_refl _, hbk.lt⟩).off hC (fun e => by omega)
  refine bodyPost_ret (results_row_tmp rfl _ _ w.heap.size 48 _ (0, 0) _ rfl bb Try.underlying48 rfl (by kernel_rfl) _ rfl) rfl ?_
  exact ⟨_, rfl, hra.mono (fun k e => ⟨by omega, by rw [e0]; exact e.2⟩), (below_then x1 hB1 x1.size).trans (hC.below (by have := x1.size; have := hB1.size; omega) (fun k e => by omega))⟩
theorem held_b {w w1 : World} {gS gD : Nat} {x y z : Value} (h : w.cell? ⟨gS, 0, none⟩ = some x ∧ w.cell? ⟨gS, 1, none⟩ = some y ∧ w.cell? ⟨gD, 0, none⟩ = some z) (hb : Below w.heap.size w w1) : w1.cell? ⟨gS, 0, none⟩ = some x ∧ w1.cell? ⟨gS, 1, none⟩ = some y ∧ w1.cell? ⟨gD, 0, none⟩ = some z :=
  ⟨(hb.cell (p := ⟨gS, 0, none⟩) (block_lt_of_cell h.1)).trans h.1, (hb.cell (p := ⟨gS, 1, none⟩) (block_lt_of_cell h.2.1)).trans h.2.1, (hb.cell (p := ⟨gD, 0, none⟩) (block_lt_of_cell h.2.2)).trans h.2.2⟩
theorem held7 {w : World} {gS gD q o c : Nat} {a : Pa} {B : Option Addr} {x y z : Value} (h : w.cell? ⟨gS, 0, none⟩ = some x ∧ w.cell? ⟨gS, 1, none⟩ = some y ∧ w.cell? ⟨gD, 0, none⟩ = some z) (h1 : gS ≠ q) (h2 : gD ≠ q) : (set7 w q o a B c).cell? ⟨gS, 0, none⟩ = some x ∧ (set7 w q o a B c).cell? ⟨gS, 1, none⟩ = some y ∧ (set7 w q o a B c).cell? ⟨gD, 0, none⟩ = some z :=
  ⟨(chg_set7 w q o a B c).cell h.1 h1, (chg_set7 w q o a B c).cell h.2.1 h1, (chg_set7 w q o a B c).cell h.2.2 h2⟩
/-- What Load answers. -/
def RLoadTo (l : List (Int × List UInt8)) (w : World) (e : Ending) (w' : World) : Prop :=
  Below w.heap.size w w' ∧ ((¬ loadOk l ∧ e = .returned (.tuple #[.agg #[.slice none 0 0, .bool false], .int .i64 2])) ∨
    (loadOk l ∧ ∃ q, e = .returned (.tuple #[.agg #[.slice (some ⟨q, 0, none⟩) l.length l.length, .bool false], .int .i64 0]) ∧ RAt w' (some ⟨q, 0, none⟩) (Pd.load l) (fun k => w.heap.size ≤ k ∧ k < w'.heap.size)))
set_option maxRecDepth 100000 in
set_option maxHeartbeats 1600000 in
theorem refLoad_any (A : Option Addr) (n c : Nat) (l : List (Int × List UInt8)) (w : World) (h : SpAt w A n l) (hn : ∀ j, j < n → (l.getD j (0, [])).2.length ≤ 140737488355328) :
    Calls Try.prog 22 #[.slice A n c] w (RLoadTo l w) := by
  have HL := Lib.hid h.1
  have x1 := below_alloc w (.cells #[.slice none 0 0, .bool false] 48)
  have b1 := Blk.fresh w #[.slice none 0 0, .bool false] 48
  go_enter Try.func22, Try.ntmps22
  go_wp2_with fail
  generalize w.alloc (.cells #[.slice none 0 0, .bool false] 48) = wa at *
  by_cases hr : (n : Int) < 1 ∨ 16 < (n : Int)
  · refine (refNew_no _ _ hr).mono ?_
    rintro e w1 ⟨rfl, hb2⟩
    have x2 := below_alloc w1 (.cells #[.slice none 0 0, .bool false] 48)
    have r2 := (b1.keep hb2).keep x2
    have hB2 := below_then (below_then x1 hb2 x1.size) x2 (below_then x1 hb2 x1.size).size
    have o0 : (w1.alloc (.cells #[.slice none 0 0, .bool false] 48)).cell? ⟨w.heap.size, 0, none⟩ = some (.slice none 0 0) := r2.cell 0
    have o1 : (w1.alloc (.cells #[.slice none 0 0, .bool false] 48)).cell? ⟨w.heap.size, 1, none⟩ = some (.bool false) := r2.cell 1
    have of := r2.frozen
    go_wp2_with fail
    have bb : Blk _ w.heap.size #[.slice none 0 0, .bool false] 48 := (r2.set 0 (.slice none 0 0)).set 1 (.bool false)
    refine bodyPost_ret (results_row_tmp rfl _ _ w.heap.size 48 _ (0, 0) _ rfl bb Try.underlying48 rfl (by kernel_rfl) _ rfl) rfl ?_
    refine ⟨(hB2.setCell (p := ⟨w.heap.size, 0, none⟩) (Nat.le_refl _) _).setCell (p := ⟨w.heap.size, 1, none⟩) (Nat.le_refl _) _, .inl ⟨fun hk => by have h1 := hk.1; have h2 := hk.2.1; have := HL.out; omega, rfl⟩⟩
  · have hn1 : 1 ≤ n := by omega
    have hn16 : n ≤ 16 := by omega
    refine (refNew_any n wa (by omega) (by omega)).mono ?_
    rintro e w1 ⟨q, rfl, hra, hb2⟩
    have x2 := below_alloc w1 (.cells #[.slice (some ⟨q, 0, none⟩) n n, .bool false] 48)
    have d2 := Blk.fresh w1 #[.slice (some ⟨q, 0, none⟩) n n, .bool false] 48
    have r2 := (b1.keep hb2).keep x2
    have hB2 := below_then (below_then x1 hb2 x1.size) x2 (below_then x1 hb2 x1.size).size
    have hra2 := hra.below x2
    have hgd : w.heap.size < w1.heap.size := (b1.keep hb2).lt
    go_wp2_with fail
    generalize w1.alloc (.cells #[.slice (some ⟨q, 0, none⟩) n n, .bool false] 48) = w2 at *
    generalize w1.heap.size = gD at *
    go_loopw [20] (fun i wr => ∃ k : Nat, k ≤ n ∧ i = .int .i64 k ∧ Hid (RBk wr q (Pd.loadK l n k) (fun x => w.heap.size < x ∧ x < wr.heap.size ∧ x ≠ gD)) ∧ Hid (Blk wr gD #[.slice (some ⟨q, 0, none⟩) n n, .bool false] 48) ∧ Hid (Blk wr w.heap.size #[.slice none 0 0, .bool false] 48) ∧ Hid (∀ j, j < k → ¬ badBase (l.getD j (0, [])).1) ∧ Below w.heap.size w wr) (fun i _ => n - (intOf i).toNat)
    case atStart => exact ⟨0, Nat.zero_le _, rfl, Lib.hid (by rw [loadK_zero]; exact hra2.mono (fun k e => by have := x1.size; have := b1.lt; have := d2.lt; omega)), Lib.hid d2, Lib.hid r2, Lib.hid (fun j hj => absurd hj (by omega)), hB2⟩
    case round =>
      clear hra2 d2 r2 hB2 hra x2 hb2
      obtain ⟨k, hk, rfl, HR, HD, HZ, HO, hB⟩ := hrel
      by_cases hlt : k < n
      · obtain ⟨sb, so, A', m, c', rfl, hc0, hc1, hbb, hcap, hml⟩ := (h.below hB).at_ k hlt
        have hj0 : (0 : Int) ≤ (k : Int) := by omega
        have hj1 : (k : Int) < (n : Int) := by omega
        have hmb := hn k hlt
        have HSK := Lib.hid (loadK_succ l n k)
        generalize hsk : l.getD k (0, []) = sk at *
        have HSE := Lib.hid hsk
        obtain ⟨base, bs⟩ := sk
        simp only at hc0 hbb hmb hml
        clear hsk
        have x3 := below_alloc wr (.cells #[.int .i64 base, .slice A' m c'] 44)
        have HML := Lib.hid (And.intro hml hcap)
        have HBB := Lib.hid (hbb.below x3)
        have HR3 := Lib.hid (HR.out.below x3)
        have d3 := HD.out.keep x3
        have z3 := HZ.out.keep x3
        have HD3 := Lib.hid d3
        have HZ3 := Lib.hid z3
        have HB3 := Lib.hid (below_then hB x3 hB.size)
        have o0 := z3.cell 0
        have o1 := z3.cell 1
        have of := z3.frozen
        have p0 := d3.cell 0
        simp only [List.getElem?_toArray, List.getElem?_cons_zero, List.getElem?_cons_succ] at o0 o1 p0
        clear hbb hml hcap x3 d3 z3
        by_cases hbad : badBase base
        · have hbad2 := hbad
          unfold badBase at hbad2
          by_cases hneg : base < 0
          · go_wp2_with fail
            have bb : Blk _ w.heap.size #[.slice none 0 0, .bool false] 48 := (HZ3.out.set 0 (.slice none 0 0)).set 1 (.bool false)
            refine bodyPost_ret (results_row_tmp rfl _ _ w.heap.size 48 _ (0, 0) _ rfl bb Try.underlying48 rfl (by kernel_rfl) _ rfl) rfl ?_
            exact ⟨(HB3.out.setCell (p := ⟨w.heap.size, 0, none⟩) (Nat.le_refl _) _).setCell (p := ⟨w.heap.size, 1, none⟩) (Nat.le_refl _) _, .inl ⟨fun hk => hk.2.2 k (by rw [HL.out]; exact hlt) (by rw [HSE.out]; exact hbad), rfl⟩⟩
          · have hbig : 4611686018427387904 < base := by omega
            go_wp2_with fail
            have bb : Blk _ w.heap.size #[.slice none 0 0, .bool false] 48 := (HZ3.out.set 0 (.slice none 0 0)).set 1 (.bool false)
            refine bodyPost_ret (results_row_tmp rfl _ _ w.heap.size 48 _ (0, 0) _ rfl bb Try.underlying48 rfl (by kernel_rfl) _ rfl) rfl ?_
            exact ⟨(HB3.out.setCell (p := ⟨w.heap.size, 0, none⟩) (Nat.le_refl _) _).setCell (p := ⟨w.heap.size, 1, none⟩) (Nat.le_refl _) _, .inl ⟨fun hk => hk.2.2 k (by rw [HL.out]; exact hlt) (by rw [HSE.out]; exact hbad), rfl⟩⟩
        · have hb0 : 0 ≤ base := by unfold badBase at hbad; omega
          have hb2 : base ≤ 4611686018427387904 := by unfold badBase at hbad; omega
          have hb0' : ¬ base < 0 := by omega
          have hb2' : ¬ 4611686018427387904 < base := by omega
          have ks := Blk.fresh wr #[.int .i64 base, .slice A' m c'] 44
          obtain rfl : bs.length = m := HML.out.1
          go_upto_region 9 with fail
          generalize wr.alloc (.cells #[.int .i64 base, .slice A' bs.length c'] 44) = w3 at *
          have s0 : w3.cell? ⟨wr.heap.size, 0, none⟩ = some (.int .i64 base) := ks.cell 0
          have s1 : w3.cell? ⟨wr.heap.size, 1, none⟩ = some (.slice A' bs.length c') := ks.cell 1
          have hsz : wr.heap.size < w3.heap.size := ks.lt
          have HWZ := Lib.hid hsz
          obtain ⟨csq, hbq⟩ := HR3.out.blk
          have hq1 := blk_type ks hbq (by decide)
          have hq2 := blk_type HD3.out hbq (by decide)
          generalize wr.heap.size = gS at *
          clear ks hsz o0 o1 of hbq
          have y5 : Below w3.heap.size w3 (w3.alloc (.cells #[] 5)).drew := (below_alloc w3 _).drew
          have o5 : (w3.alloc (.cells #[] 5)).drew.ownsRow w3.heap.size 5 1 (.slice (some ⟨w3.heap.size, 0, none⟩) 0 0) 0 [] := World.ownsRow_made (e := 5) (size := 1) (base := w3.heap.size) w3 #[] 0 (Nat.le_refl _) (by simp [maxLen]) rfl
          have hb5 := HBB.out.below y5
          have kk := And.intro s0 (And.intro s1 p0)
          go_region_held3 (fun w' => w'.cell? ⟨gS, 0, none⟩ = some (.int .i64 base) ∧ w'.cell? ⟨gS, 1, none⟩ = some (.slice A' bs.length c') ∧ w'.cell? ⟨gD, 0, none⟩ = some (.slice (some ⟨q, 0, none⟩) n n))
            (first | with_reducible exact k7 | with_reducible exact kS | with_reducible exact kk | with_reducible exact held_b kk y5 | with_reducible exact held_b kk (Below.refl _ w3).drew)
            (first | (refine step_append_any _ (by rfl) _ _ 30 (by rfl) w3.heap.size 5 _ 1 1 Try.underlying30 info_byte7 rfl (by decide) (.slice (some ⟨w3.heap.size, 0, none⟩) 0 0) 0 [] (by rfl) o5 A' bs.length c' _ (by rfl) hb5.rdc (bvals_one _) (by decide) (by decide) (by omega) y5.size ?_; intro A6 c6 w6 ho6 hg6 hne6 hnn6; simp only [Nat.zero_add, List.nil_append] at ho6; have hB6 := y5.grown hg6 y5.size (own_base o5); have kS := held_b kk hB6; obtain ⟨v0', v1', v2', v3', v4', v5', v6', t0, t1, t2, t3, t4, t5, t6⟩ := (HR3.out.below hB6).cells hlt; have tf := (HR3.out.below hB6).frozen; have k7 := held7 (o := k * 7) (a := Pa.of (base, bs)) (B := A6) (c := c6) kS hq1 hq2; simp [set7, Pa.of, Ft.no] at k7))
          have hlt3 := HB3.out.size
          have hlq := HR3.out.lt
          have hlD := HD3.out.lt
          have hl6 := hB6.size
          have hwS := HWZ.out
          have hwq := HZ3.out.lt
          have hR6 := (HR3.out.below hB6).mono (F' := fun x => w.heap.size < x ∧ x < w6.heap.size ∧ x ≠ gD) (fun x e => ⟨e.1, by omega, e.2.2⟩)
          have hR7 := hR6.set k hlt (Pa.of (base, bs)) A6 c6 (Out.new ho6 (show bs.length ≤ 281474976710656 by omega) (fun x e => ⟨⟨by omega, e.2, by omega⟩, by omega⟩)) (own_cap8 ho6)
          rw [HSK.out] at hR7
          have hq0 := HR3.out.1.1
          have hD7 := (HD3.out.keep hB6).chg hR7.2 hq2
          have hZ7 := (HZ3.out.keep hB6).chg hR7.2 (by omega)
          have hB7 := (below_then HB3.out hB6 hlt3).trans (hR7.2.below (below_then HB3.out hB6 hlt3).size (fun x e => by omega))
          have hz7 : (set7 w6 q (k * 7) (Pa.of (base, bs)) A6 c6).heap.size = w6.heap.size := by simp [set7, World.setCell]
          have hR8 := hR7.1.mono (F' := fun x => w.heap.size < x ∧ x < (set7 w6 q (k * 7) (Pa.of (base, bs)) A6 c6).heap.size ∧ x ≠ gD) (fun x e => ⟨e.1, by rw [hz7]; exact e.2.1, e.2.2⟩)
          have HON : Hid (∀ j, j < k + 1 → ¬ badBase (l.getD j (0, [])).1) := Lib.hid (fun j hj => by
            by_cases ej : j = k
            · subst ej; rw [HSE.out]; exact hbad
            · exact HO.out j (by omega))
          have HALL := Lib.hid (And.intro hR8 (And.intro hD7 (And.intro hZ7 hB7)))
          clear hR8 hD7 hZ7 hB7 hz7 hR7 hR6 ho6 hg6 hne6 hnn6 kS k7 t0 t1 t2 t3 t4 t5 t6 tf kk hb5 o5 y5 s0 s1 p0
          obtain ⟨we, hwe⟩ : ∃ we, set7 w6 q (k * 7) (Pa.of (base, bs)) A6 c6 = we := ⟨_, rfl⟩
          rw [hwe] at HALL
          simp [set7, Pa.of, Ft.no] at hwe
          rw [hwe]
          clear hwe
          go_wp2_with fail
          go_roundw
          case rel => exact ⟨k + 1, hlt, by go_num, Lib.hid HALL.out.1, Lib.hid HALL.out.2.1, Lib.hid HALL.out.2.2.1, HON, HALL.out.2.2.2⟩
          case measure => simp [intOf]; omega
      · obtain rfl : k = n := by omega
        have c0 := HD.out.cell 0
        have c1 := HD.out.cell 1
        have z0 := HZ.out.cell 0
        have z1 := HZ.out.cell 1
        have zf := HZ.out.frozen
        simp only [List.getElem?_toArray, List.getElem?_cons_zero, List.getElem?_cons_succ] at c0 c1 z0 z1
        have hC := (chg_set wr w.heap.size 0 (.slice (some ⟨q, 0, none⟩) k k)).set (.inl rfl) 1 (.bool false)
        have bb : Blk _ w.heap.size #[.slice (some ⟨q, 0, none⟩) k k, .bool false] 48 := (HZ.out.set 0 (.slice (some ⟨q, 0, none⟩) k k)).set 1 (.bool false)
        have hrr := HR.out.off hC (fun e => by omega)
        have hBB := hB.trans (hC.below hB.size (fun x e => by omega))
        have hz : ((wr.setCell ⟨w.heap.size, 0, none⟩ (.slice (some ⟨q, 0, none⟩) k k)).setCell ⟨w.heap.size, 1, none⟩ (.bool false)).heap.size = wr.heap.size := by simp [World.setCell]
        have hll := HL.out
        have hkn : Pd.loadK l k k = Pd.loadK l l.length l.length := by rw [hll]
        have HF := Lib.hid (And.intro bb (And.intro hrr (And.intro hBB hz)))
        clear bb hrr hBB hz hC
        go_wp2_with fail
        obtain ⟨bb, hrr, hBB, hz⟩ := HF.out
        refine bodyPost_ret (results_row_tmp rfl _ _ w.heap.size 48 _ (0, 0) _ rfl bb Try.underlying48 rfl (by kernel_rfl) _ rfl) rfl ?_
        refine ⟨hBB, .inr ⟨⟨by omega, by omega, fun j hj => HO.out j (by omega)⟩, q, by rw [hll]; rfl, ?_⟩⟩
        obtain ⟨q', e1, e2, e3⟩ := (hrr.at_.mono (F' := fun x => w.heap.size ≤ x ∧ x < ((wr.setCell ⟨w.heap.size, 0, none⟩ (.slice (some ⟨q, 0, none⟩) k k)).setCell ⟨w.heap.size, 1, none⟩ (.bool false)).heap.size) (fun x e => ⟨by omega, by rw [hz]; omega⟩))
        refine ⟨q', e1, e2, fun j hj => ?_⟩
        have hj' : j < k := by rw [← hll]; exact hj
        have := e3 j hj'
        simp only [Pd.loadK, if_pos hj'] at this
        exact this
end Go.Proofs.Ytodaplkijdjbpaa
