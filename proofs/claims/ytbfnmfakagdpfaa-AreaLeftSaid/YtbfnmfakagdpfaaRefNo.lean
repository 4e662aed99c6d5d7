/- The document's area, walked: Cut and Trim refused; Trim. -/
import Derived.Test.YtbfnmfakagdpfaaRefCut
namespace Go.Proofs.Ytbfnmfakagdpfaa
set_option linter.unusedVariables false
set_option linter.unusedSimpArgs false
open Go.RowKit
def SameRet7 (base : Int) (A : Option Addr) (n c : Nat) (S : Option Addr) (mc : Nat) (w : World) (e : Ending) (w' : World) : Prop :=
  e = .returned (.tuple #[.agg #[.int .i64 base, .slice A n c, .slice S n mc], .int .i64 70]) ∧ Below w.heap.size w w'
theorem same_ret7 {w w2 : World} {R : Nat} {base : Int} {n c mc : Nat} {A S : Option Addr} {cs : Array Value} (hR : Blk w2 R cs 46) (h3 : cs.size = 3) (hw : w.heap.size ≤ R) (hb : Below w.heap.size w w2) :
    Blk (((w2.setCell ⟨R, 0, none⟩ (.int .i64 base)).setCell ⟨R, 1, none⟩ (.slice A n c)).setCell ⟨R, 2, none⟩ (.slice S n mc)) R #[.int .i64 base, .slice A n c, .slice S n mc] 46 ∧
    Below w.heap.size w (((w2.setCell ⟨R, 0, none⟩ (.int .i64 base)).setCell ⟨R, 1, none⟩ (.slice A n c)).setCell ⟨R, 2, none⟩ (.slice S n mc)) := by
  have hC := ((chg_set w2 R 0 (.int .i64 base)).set (.inl rfl) 1 (.slice A n c)).set (.inl rfl) 2 (.slice S n mc)
  refine ⟨?_, hb.trans (hC.below hb.size (fun k e => e ▸ hw))⟩
  have := Blk.set (Blk.set (Blk.set hR 0 (.int .i64 base)) 1 (.slice A n c)) 2 (.slice S n mc)
  rcases cs with ⟨_ | ⟨a, _ | ⟨b, _ | ⟨c, _ | ⟨d, l⟩⟩⟩⟩⟩ <;> simp at h3
  exact this
set_option maxHeartbeats 1600000 in
theorem refCut_no (base : Int) (A : Option Addr) (n c : Nat) (S : Option Addr) (mc s : Nat) (bs : List UInt8) (w : World) (x : Int) (hx : x < base ∨ base + n < x) (hA : Bytes w A n bs) (hS : Safes w S n s) (hs : s ≤ n) (hn : n ≤ 214748364800000) (h0 : 0 ≤ base) (h1 : base + n ≤ 4612811918334230528) :
    Calls Try.prog 30 #[.agg #[.int .i64 base, .slice A n c, .slice S n mc], .int .i64 x] w (SameRet7 base A n c S mc w) := by
  have hB1 := below_alloc w (.cells #[.int .i64 base, .slice A n c, .slice S n mc] 46)
  have hD1 := Blk.fresh w #[.int .i64 base, .slice A n c, .slice S n mc] 46
  have hb2 := below_alloc (w.alloc (.cells #[.int .i64 base, .slice A n c, .slice S n mc] 46)) (.cells #[.int .i64 0, .slice none 0 0, .slice none 0 0] 46)
  have hR2 := Blk.fresh (w.alloc (.cells #[.int .i64 base, .slice A n c, .slice S n mc] 46)) #[.int .i64 0, .slice none 0 0, .slice none 0 0] 46
  have hB2 := below_then hB1 hb2 hB1.size
  have hD2 : Blk _ _ _ _ := hD1.keep hb2
  have hz : (w.alloc (.cells #[.int .i64 base, .slice A n c, .slice S n mc] 46)).heap.size = w.heap.size + 1 := by simp
  rw [hz] at hR2
  by_cases t1 : x < base
  · go_enter Try.func30, Try.ntmps30
    have hR := heap_alloc2_new w (.cells #[.int .i64 base, .slice A n c, .slice S n mc] 46) (.cells #[.int .i64 base, .slice A n c, .slice S n mc] 46)
    have hBB := below_then hB1 (below_alloc _ (.cells #[.int .i64 base, .slice A n c, .slice S n mc] 46)) hB1.size
    go_wp2
    exact bodyPost_ret (results_row_tmp rfl _ _ (w.heap.size + 1) 46 _ (0, 0) _ rfl hR Try.underlying46 rfl (by kernel_rfl) _ rfl) rfl ⟨rfl, hBB⟩
  · have t2 : base + (n : Int) < x := by omega
    have t1 : decide (x < base) = false := decide_eq_false t1
    clear hx
    go_enter Try.func30, Try.ntmps30
    go_wp2_with fail
    generalize (w.alloc (.cells #[.int .i64 base, .slice A n c, .slice S n mc] 46)).alloc (.cells #[.int .i64 0, .slice none 0 0, .slice none 0 0] 46) = w2 at *
    obtain ⟨G, hG⟩ : ∃ G, w.heap.size = G := ⟨_, rfl⟩
    rw [hG] at hR2 hD2 ⊢
    have HG := Lib.hid hG
    clear hG hb2 hB1 hD1 hz
    have HLb := Lib.hid hA.1
    have d0 : w2.cell? ⟨G, 0, none⟩ = some (.int .i64 base) := hD2.cell 0
    have d1 : w2.cell? ⟨G, 1, none⟩ = some (.slice A n c) := hD2.cell 1
    have d2 : w2.cell? ⟨G, 2, none⟩ = some (.slice S n mc) := hD2.cell 2
    refine (refEnd_any base A n c (.slice S n mc) w2 h0 (by omega)).mono ?_
    rintro e w3 ⟨rfl, hb3⟩
    clear d0 d1 d2
    have d0 : w3.cell? ⟨G, 0, none⟩ = some (.int .i64 base) := (hD2.keep hb3).cell 0
    have d1 : w3.cell? ⟨G, 1, none⟩ = some (.slice A n c) := (hD2.keep hb3).cell 1
    have d2 : w3.cell? ⟨G, 2, none⟩ = some (.slice S n mc) := (hD2.keep hb3).cell 2
    have hR := hR2.keep hb3
    have hBx := below_then hB2 hb3 hB2.size
    have g0 : w3.cell? ⟨G + 1, 0, none⟩ = some (.int .i64 0) := hR.cell 0
    have g1 : w3.cell? ⟨G + 1, 1, none⟩ = some (.slice none 0 0) := hR.cell 1
    have g2 : w3.cell? ⟨G + 1, 2, none⟩ = some (.slice none 0 0) := hR.cell 2
    have r0 := hR.frozen 0
    have r1 := hR.frozen 1
    have r2 := hR.frozen 2
    have hF := same_ret7 (base := base) (A := A) (n := n) (c := c) (S := S) (mc := mc) hR rfl (by rw [HG.out]; omega) hBx
    go_wp2
    exact bodyPost_ret (results_row_tmp rfl _ _ (G + 1) 46 _ (0, 0) _ rfl hF.1 Try.underlying46 rfl (by kernel_rfl) _ rfl) rfl ⟨rfl, hF.2⟩
set_option maxHeartbeats 1600000 in
theorem refTrim_no (base : Int) (A : Option Addr) (n c : Nat) (S : Option Addr) (mc s : Nat) (bs : List UInt8) (w : World) (x : Int) (hx : x < base ∨ base + s < x) (hA : Bytes w A n bs) (hS : Safes w S n s) (hs : s ≤ n) (hn : n ≤ 214748364800000) (h0 : 0 ≤ base) (h1 : base + n ≤ 4612811918334230528) :
    Calls Try.prog 31 #[.agg #[.int .i64 base, .slice A n c, .slice S n mc], .int .i64 x] w (SameRet7 base A n c S mc w) := by
  have hB1 := below_alloc w (.cells #[.int .i64 base, .slice A n c, .slice S n mc] 46)
  have hD1 := Blk.fresh w #[.int .i64 base, .slice A n c, .slice S n mc] 46
  have hb2 := below_alloc (w.alloc (.cells #[.int .i64 base, .slice A n c, .slice S n mc] 46)) (.cells #[.int .i64 0, .slice none 0 0, .slice none 0 0] 46)
  have hR2 := Blk.fresh (w.alloc (.cells #[.int .i64 base, .slice A n c, .slice S n mc] 46)) #[.int .i64 0, .slice none 0 0, .slice none 0 0] 46
  have hB2 := below_then hB1 hb2 hB1.size
  have hD2 : Blk _ _ _ _ := hD1.keep hb2
  have hz : (w.alloc (.cells #[.int .i64 base, .slice A n c, .slice S n mc] 46)).heap.size = w.heap.size + 1 := by simp
  rw [hz] at hR2
  by_cases t1 : x < base
  · go_enter Try.func31, Try.ntmps31
    have hR := heap_alloc2_new w (.cells #[.int .i64 base, .slice A n c, .slice S n mc] 46) (.cells #[.int .i64 base, .slice A n c, .slice S n mc] 46)
    have hBB := below_then hB1 (below_alloc _ (.cells #[.int .i64 base, .slice A n c, .slice S n mc] 46)) hB1.size
    go_wp2
    exact bodyPost_ret (results_row_tmp rfl _ _ (w.heap.size + 1) 46 _ (0, 0) _ rfl hR Try.underlying46 rfl (by kernel_rfl) _ rfl) rfl ⟨rfl, hBB⟩
  · have t2 : base + (s : Int) < x := by omega
    have t1 : decide (x < base) = false := decide_eq_false t1
    clear hx
    go_enter Try.func31, Try.ntmps31
    go_wp2_with fail
    generalize (w.alloc (.cells #[.int .i64 base, .slice A n c, .slice S n mc] 46)).alloc (.cells #[.int .i64 0, .slice none 0 0, .slice none 0 0] 46) = w2 at *
    obtain ⟨G, hG⟩ : ∃ G, w.heap.size = G := ⟨_, rfl⟩
    rw [hG] at hR2 hD2 ⊢
    have HG := Lib.hid hG
    clear hG hb2 hB1 hD1 hz
    have HLb := Lib.hid hA.1
    have d0 : w2.cell? ⟨G, 0, none⟩ = some (.int .i64 base) := hD2.cell 0
    have d1 : w2.cell? ⟨G, 1, none⟩ = some (.slice A n c) := hD2.cell 1
    have d2 : w2.cell? ⟨G, 2, none⟩ = some (.slice S n mc) := hD2.cell 2
    refine (refSafeEnd_any base (.slice A n c) S n mc s w2 (hS.below hB2) h0 (by omega) hs).mono ?_
    rintro e w3 ⟨rfl, hb3⟩
    clear d0 d1 d2
    have d0 : w3.cell? ⟨G, 0, none⟩ = some (.int .i64 base) := (hD2.keep hb3).cell 0
    have d1 : w3.cell? ⟨G, 1, none⟩ = some (.slice A n c) := (hD2.keep hb3).cell 1
    have d2 : w3.cell? ⟨G, 2, none⟩ = some (.slice S n mc) := (hD2.keep hb3).cell 2
    have hR := hR2.keep hb3
    have hBx := below_then hB2 hb3 hB2.size
    have g0 : w3.cell? ⟨G + 1, 0, none⟩ = some (.int .i64 0) := hR.cell 0
    have g1 : w3.cell? ⟨G + 1, 1, none⟩ = some (.slice none 0 0) := hR.cell 1
    have g2 : w3.cell? ⟨G + 1, 2, none⟩ = some (.slice none 0 0) := hR.cell 2
    have r0 := hR.frozen 0
    have r1 := hR.frozen 1
    have r2 := hR.frozen 2
    have hF := same_ret7 (base := base) (A := A) (n := n) (c := c) (S := S) (mc := mc) hR rfl (by rw [HG.out]; omega) hBx
    go_wp2
    exact bodyPost_ret (results_row_tmp rfl _ _ (G + 1) 46 _ (0, 0) _ rfl hF.1 Try.underlying46 rfl (by kernel_rfl) _ rfl) rfl ⟨rfl, hF.2⟩
end Go.Proofs.Ytbfnmfakagdpfaa
