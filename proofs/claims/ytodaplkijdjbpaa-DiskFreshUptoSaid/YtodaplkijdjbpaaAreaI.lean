/- Package area, walked: Image, Load. -/
import Derived.Test.YtodaplkijdjbpaaProg
import Derived.Test.YtodaplkijdjbpaaArea
namespace Go.Proofs.Ytodaplkijdjbpaa
open Go.RowKit
set_option linter.unusedVariables false
set_option linter.unusedSimpArgs false
/-- What Image answers. -/
def ImageRet (base : Int) (n : Nat) (bs : List UInt8) (w : World) (e : Ending) (w' : World) : Prop :=
  ∃ A' c', e = .returned (.agg #[.int .i64 base, .slice A' n c']) ∧ w'.ownsRow w.heap.size 5 1 (.slice A' n c') n (bvals bs) ∧ Below w.heap.size w w'
/-- What Load answers. -/
def LoadRet (base : Int) (bs : List UInt8) (w : World) (e : Ending) (w' : World) : Prop :=
  ∃ g A c, e = .returned (.tuple #[.pointer (some ⟨g, 0, none⟩), .int .i64 0]) ∧ Ar w' g A c base bs bs.length ∧ Below w.heap.size w w' ∧ ∀ k, arF g A k → w.heap.size ≤ k
theorem keepAr {w w' : World} {g : Nat} {A : Option Addr} {c : Nat} {base : Int} {bs : List UInt8} {s : Nat} (h : Ar w g A c base bs s) (hb : Below w.heap.size w w') :
    w'.cell? ⟨g, 0, none⟩ = some (.int .i64 base) ∧ w'.cell? ⟨g, 1, none⟩ = some (.slice A bs.length c) ∧ w'.cell? ⟨g, 2, none⟩ = some (.int .i64 s) ∧ Below w.heap.size w w' :=
  ⟨(h.below hb).blk.cell 0, (h.below hb).blk.cell 1, (h.below hb).blk.cell 2, hb⟩
set_option maxHeartbeats 1600000 in
theorem areaImage_any {g : Nat} {A : Option Addr} {c : Nat} {base : Int} {bs : List UInt8} {s : Nat} {w : World} (hA : Ar w g A c base bs s) :
    Calls Try.prog 44 #[.pointer (some ⟨g, 0, none⟩)] w (ImageRet base s (bs.take s) w) := by
  have hn1 := hA.n1
  have hs := hA.sle
  have hcap := hA.cap
  have hsc : s ≤ c := by omega
  have hn3 : s ≤ 214748364800000 := by omega
  have hB1 := below_alloc w (.cells #[.int .i64 0, .slice none 0 0] 44)
  have hD1 := Blk.fresh w #[.int .i64 0, .slice none 0 0] 44
  have hy := (hA.below hB1).bytes.take s hs
  go_enter Try.func44, Try.ntmps44
  go_wp2_with fail
  obtain ⟨G, hG⟩ : ∃ G, w.heap.size = G := ⟨_, rfl⟩
  rw [hG] at hD1 hB1 ⊢
  generalize w.alloc (.cells #[.int .i64 0, .slice none 0 0] 44) = w1 at *
  have hGle : G ≤ w1.heap.size := by rw [← hG]; exact hB1.size
  have HG := Lib.hid hG
  clear hG
  have hbb : Below w.heap.size w w1 := by rw [HG.out]; exact hB1
  have kk := keepAr hA hbb.drew
  go_region_held3 (fun w' => w'.cell? ⟨g, 0, none⟩ = some (.int .i64 base) ∧ w'.cell? ⟨g, 1, none⟩ = some (.slice A bs.length c) ∧ w'.cell? ⟨g, 2, none⟩ = some (.int .i64 s) ∧ Below w.heap.size w w')
    (first | exact kk | exact kS | exact kT)
    (first | (go_at_call 67; refine (own7_any _ _ _ _ _ (hy.below (Below.refl _ _).drew) hn3).mono ?_; rintro e w3 ⟨A3, c3, rfl, ho3, hb3⟩; have hb4 := (Below.refl _ w1).drew.trans hb3; have kS := keepAr hA (below_then hbb hb4 hbb.size); have hD3 : Blk w3 _ _ _ := hD1.keep hb4; have e0 : w3.cell? ⟨G, 0, none⟩ = some (.int .i64 0) := hD3.cell 0; have e1 : w3.cell? ⟨G, 1, none⟩ = some (.slice none 0 0) := hD3.cell 1; have f0 := hD3.frozen 0; have f1 := hD3.frozen 1; have kT := keepAr hA ((kS.2.2.2.setCell (p := ⟨G, 0, none⟩) (Nat.le_of_eq HG.out) (.int .i64 base)).setCell (p := ⟨G, 1, none⟩) (Nat.le_of_eq HG.out) (.slice A3 s c3))))
  have hGl := hD1.lt
  have hsz := hb4.size
  have hne : ∀ q, Value.ownBlock (.slice A3 s c3) = some q → ¬ q = G := fun q e e2 => by
    have h1 : w1.heap.size ≤ q := (ho3.lt q e).1
    omega
  have hF : Blk _ G #[.int .i64 base, .slice A3 s c3] 44 := Blk.set (Blk.set hD3 0 (.int .i64 base)) 1 (.slice A3 s c3)
  have hO := own_chg (own_chg ho3 (chg_set w3 G 0 (.int .i64 base)) hne) (chg_set _ G 1 (.slice A3 s c3)) hne
  have hBf := kT.2.2.2
  generalize (w3.setCell ⟨G, 0, none⟩ (.int .i64 base)).setCell ⟨G, 1, none⟩ (.slice A3 s c3) = wf at *
  clear kk kS kT
  go_wp2
  exact bodyPost_ret (results_cell_row rfl _ _ G 44 _ (0, 0) _ rfl hF Try.underlying44 rfl (by kernel_rfl)) rfl ⟨A3, c3, rfl, own_mono hO (by show w.heap.size ≤ w1.heap.size; exact hbb.size), hBf⟩
theorem keepSp {w w' : World} {g : Nat} {A : Option Addr} {n c : Nat} {base : Int} {t : TypeId} (h : Blk w g #[.int .i64 base, .slice A n c] t) (hb : Below w.heap.size w w') :
    w'.cell? ⟨g, 0, none⟩ = some (.int .i64 base) ∧ w'.cell? ⟨g, 1, none⟩ = some (.slice A n c) ∧ Below w.heap.size w w' :=
  ⟨(h.keep hb).cell 0, (h.keep hb).cell 1, hb⟩
set_option maxHeartbeats 1600000 in
theorem areaLoad_any (B : Option Addr) (n mc : Nat) (b : List UInt8) (base : Int) (w : World) (hb : Bytes w B n b) (hn : n ≤ 140737488355328) (h0 : 0 ≤ base) (h1 : base ≤ 4611686018427387904) :
    Calls Try.prog 45 #[.agg #[.int .i64 base, .slice B n mc]] w (LoadRet base b w) := by
  have hB1 := below_alloc w (.cells #[.int .i64 base, .slice B n mc] 44)
  have hD1 := Blk.fresh w #[.int .i64 base, .slice B n mc] 44
  have hy := hb.below hB1
  have hn3 : n ≤ 214748364800000 := by omega
  have t1 : decide (base < 0) = false := decide_eq_false (by omega)
  have t2 : decide (4611686018427387904 < base) = false := decide_eq_false (by omega)
  have HL := Lib.hid hb.1
  go_enter Try.func45, Try.ntmps45
  go_wp2_with fail
  obtain ⟨G, hG⟩ : ∃ G, w.heap.size = G := ⟨_, rfl⟩
  rw [hG] at hD1 hB1 ⊢
  generalize w.alloc (.cells #[.int .i64 base, .slice B n mc] 44) = w1 at *
  have HG := Lib.hid hG
  clear hG
  have kk := keepSp hD1 (Below.refl _ w1).drew
  go_region_held3 (fun w' => w'.cell? ⟨G, 0, none⟩ = some (.int .i64 base) ∧ w'.cell? ⟨G, 1, none⟩ = some (.slice B n mc) ∧ Below w1.heap.size w1 w')
    (first | exact kk | exact kS | exact kT)
    (first | (go_at_call 67; refine (own7_any _ _ _ _ _ (hy.below (Below.refl _ _).drew) hn3).mono ?_; rintro e w3 ⟨A3, c3, rfl, ho3, hb3⟩; have hb4 := (Below.refl _ w1).drew.trans hb3; have kS := keepSp hD1 hb4; have kT := keepSp hD1 (hb4.alloc hb4.size (.cells #[.int .i64 base, .slice A3 n c3, .int .i64 n] 116))))
  have hsz := hb4.size
  have hsz1 := hB1.size
  have hGw : G ≤ w1.heap.size := by have := HG.out; omega
  have hGl := hD1.lt
  have hlt3 := ho3.lt
  have hBl := Blk.fresh w3 #[.int .i64 base, .slice A3 n c3, .int .i64 n] 116
  have hO := own_below ho3 (below_alloc w3 (.cells #[.int .i64 base, .slice A3 n c3, .int .i64 n] 116))
  have hBf := (below_then hB1 hb4 hGw).alloc (by omega) (.cells #[.int .i64 base, .slice A3 n c3, .int .i64 n] 116)
  obtain ⟨G3, hG3⟩ : ∃ G3, w3.heap.size = G3 := ⟨_, rfl⟩
  rw [hG3] at hBl hsz hlt3 ⊢
  generalize w3.alloc (.cells #[.int .i64 base, .slice A3 n c3, .int .i64 n] 116) = wf at *
  clear kk kS kT hG3
  go_wp2
  go_ret2
  refine ⟨G3, A3, c3, rfl, ⟨?_, ?_, Nat.le_refl _, h0, ?_, ?_⟩, by rw [HG.out]; exact hBf, ?_⟩
  · rw [HL.out]; exact hBl
  · rw [HL.out]; exact own_mono hO (Nat.zero_le _)
  · rw [HL.out]; omega
  · rw [HL.out]; omega
  · intro q e
    rw [HG.out]
    rcases e with e | e
    · omega
    · have h1 : w1.heap.size ≤ q := (hlt3 q (by rw [ownBlock_slice]; exact e)).1
      omega
theorem areaLoad_no (B : Option Addr) (n mc : Nat) (base : Int) (w : World) (h : base < 0 ∨ 4611686018427387904 < base) :
    Calls Try.prog 45 #[.agg #[.int .i64 base, .slice B n mc]] w (fun e w' => e = .returned (.tuple #[.pointer none, .int .i64 2]) ∧ Below w.heap.size w w') := by
  have hB1 := below_alloc w (.cells #[.int .i64 base, .slice B n mc] 44)
  by_cases t1 : base < 0
  · go_enter Try.func45, Try.ntmps45
    go_wp2_with fail
    go_ret2
    exact ⟨rfl, hB1⟩
  · have t2 : 4611686018427387904 < base := by omega
    have t1 : decide (base < 0) = false := decide_eq_false t1
    clear h
    go_enter Try.func45, Try.ntmps45
    go_wp2_with fail
    go_ret2
    exact ⟨rfl, hB1⟩
end Go.Proofs.Ytodaplkijdjbpaa
