/- The document's area, walked: Trim. -/
import Derived.Test.YtbfnmfakagdpfaaRefRead
namespace Go.Proofs.Ytbfnmfakagdpfaa
open Go.RowKit
set_option linter.unusedVariables false
set_option linter.unusedSimpArgs false
theorem trim_doc {w w5 wx : World} {R : Nat} {base : Int} {n s k cx cy : Nat} {bs : List UInt8} {A S X Y : Option Addr} {c mc : Nat} {cs : Array Value} (hR : Blk w5 R cs 46) (h3 : cs.size = 3) (hw : w.heap.size ≤ R) (hb : Below w.heap.size w w5)
    (hA : w5.ownsRow w.heap.size 5 1 (.slice A n c) n (bvals bs)) (hS : w5.ownsRow w.heap.size 4 1 (.slice S n mc) n (sv n s)) (hk : k ≤ n) (hn : n ≤ 281474976710656) (hc : n ≤ c) (hm : n ≤ mc)
    (hX : X = if c = k then A else Option.map (fun x => x.add k) A) (hY : Y = if mc = k then S else Option.map (fun x => x.add k) S) (hcx : cx = c - k)
    (hx : wx = (((w5.setCell ⟨R, 0, none⟩ (.int .i64 (base + k))).setCell ⟨R, 1, none⟩ (.slice X (n - k) cx)).setCell ⟨R, 2, none⟩ (.slice Y (n - k) cy)).drew) :
    ∃ X cx Y cy, Blk wx R #[.int .i64 (base + k), .slice X (n - k) cx, .slice Y (n - k) cy] 46 ∧ n - k ≤ cx ∧ Bytes wx X (n - k) (bs.drop k) ∧ Safes wx Y (n - k) (s - k) ∧ (∀ q, blkO X = some q → w.heap.size ≤ q ∧ q < wx.heap.size) ∧ (∀ q, blkO Y = some q → w.heap.size ≤ q ∧ q < wx.heap.size) ∧ Below w.heap.size w wx := by
  subst hx
  have hC := (((chg_set w5 R 0 (.int .i64 (base + k))).set (.inl rfl) 1 (.slice X (n - k) cx)).set (.inl rfl) 2 (.slice Y (n - k) cy)).then_ (below_drew7 _ 1)
  have ha := (own_bytes' hA hn).chg hC (fun q e e2 => own_not_blk7 hA hR (by decide) (by rw [ownBlock_slice, e, e2]))
  have hs := (own_safes hS hn).chg hC (fun q e e2 => own_not_blk7 hS hR (by decide) (by rw [ownBlock_slice, e, e2]))
  have hxa := bytes_opt ha k hk hc
  have hys := safes_opt hs k hk hm
  rw [← hX] at hxa
  rw [← hY] at hys
  refine ⟨X, cx, Y, cy, ?_, by omega, hxa, hys, fun q e => ?_, fun q e => ?_, hb.trans (hC.below hb.size (fun k e => e ▸ hw))⟩
  · have := Blk.set (Blk.set (Blk.set hR 0 (.int .i64 (base + k))) 1 (.slice X (n - k) cx)) 2 (.slice Y (n - k) cy)
    rcases cs with ⟨_ | ⟨a, _ | ⟨b, _ | ⟨c, _ | ⟨d, l⟩⟩⟩⟩⟩ <;> simp at h3
    exact this
  · have := hA.lt q (by rw [ownBlock_slice]; exact blkO_opt (hX ▸ e))
    exact ⟨this.1, Nat.lt_of_lt_of_le this.2 hC.size⟩
  · have := hS.lt q (by rw [ownBlock_slice]; exact blkO_opt (hY ▸ e))
    exact ⟨this.1, Nat.lt_of_lt_of_le this.2 hC.size⟩
set_option maxHeartbeats 1600000 in
theorem refTrim_any (base : Int) (A : Option Addr) (n c : Nat) (S : Option Addr) (mc s : Nat) (bs : List UInt8) (w : World) (k : Nat) (hk : k ≤ s) (hA : Bytes w A n bs) (hS : Safes w S n s) (hs : s ≤ n) (hn : n ≤ 214748364800000) (h0 : 0 ≤ base) (h1 : base + n ≤ 4612811918334230528) :
    Calls Try.prog 31 #[.agg #[.int .i64 base, .slice A n c, .slice S n mc], .int .i64 (base + k)] w (DocRet (base + k) (n - k) (bs.drop k) (s - k) 0 w) := by
  have hB1 := below_alloc w (.cells #[.int .i64 base, .slice A n c, .slice S n mc] 46)
  have hD1 := Blk.fresh w #[.int .i64 base, .slice A n c, .slice S n mc] 46
  have hb2 := below_alloc (w.alloc (.cells #[.int .i64 base, .slice A n c, .slice S n mc] 46)) (.cells #[.int .i64 0, .slice none 0 0, .slice none 0 0] 46)
  have hR2 := Blk.fresh (w.alloc (.cells #[.int .i64 base, .slice A n c, .slice S n mc] 46)) #[.int .i64 0, .slice none 0 0, .slice none 0 0] 46
  have hB2 := below_then hB1 hb2 hB1.size
  have hD2 : Blk _ _ _ _ := hD1.keep hb2
  have hz : (w.alloc (.cells #[.int .i64 base, .slice A n c, .slice S n mc] 46)).heap.size = w.heap.size + 1 := by simp
  rw [hz] at hR2
  have t1 : decide (base + (k : Int) < base) = false := decide_eq_false (by omega)
  go_enter Try.func31, Try.ntmps31
  go_wp2_with fail
  generalize (w.alloc (.cells #[.int .i64 base, .slice A n c, .slice S n mc] 46)).alloc (.cells #[.int .i64 0, .slice none 0 0, .slice none 0 0] 46) = w2 at *
  obtain ⟨G, hG⟩ : ∃ G, w.heap.size = G := ⟨_, rfl⟩
  rw [hG] at hR2 hD2 ⊢
  have HG := Lib.hid hG
  clear hG hb2 hB1 hD1 hz
  have HLb := Lib.hid hA.1
  have d0 : w2.cell? ⟨G, 0, none⟩ = some (.int .i64 base) := hD2.cell 0
  have d1 : w2.cell? ⟨G, 1, none⟩ = some (.slice A n c) := hD2.cell 1
  have d2 : w2.cell? ⟨G, 2, none⟩ = some (.slice S n mc) := hD2.cell 2
  refine (refSafeEnd_any base (.slice A n c) S n mc s w2 (hS.below hB2) h0 (by omega) hs).mono ?_
  rintro e w3 ⟨rfl, hb3⟩
  clear d0 d1 d2
  have d0 : w3.cell? ⟨G, 0, none⟩ = some (.int .i64 base) := (hD2.keep hb3).cell 0
  have d1 : w3.cell? ⟨G, 1, none⟩ = some (.slice A n c) := (hD2.keep hb3).cell 1
  have d2 : w3.cell? ⟨G, 2, none⟩ = some (.slice S n mc) := (hD2.keep hb3).cell 2
  have t2 : decide (base + (s : Int) < base + (k : Int)) = false := decide_eq_false (by omega)
  have hB3 := below_then hB2 hb3 hB2.size
  go_wp2_with fail
  refine (refCopy_any base A n c S mc s bs w3 (hA.below hB3) (hS.below hB3) hs hn).mono ?_
  rintro e w4 ⟨A3, c3, A4, c4, rfl, ho3, ho4, hb4⟩
  have hcA := own_cap7 ho3
  have hcS := own_cap7 ho4
  have hM := docM_alloc (base := base) ho3 ho4 hb4
  have hR := (hR2.keep hb3).keep hM.b
  have hD3 := (hD2.keep hb3).keep hM.b
  clear ho3 ho4 hb4
  go_wp2_with fail
  generalize w4.alloc (.cells #[.int .i64 base, .slice A3 n c3, .slice A4 n c4] 46) = w5 at *
  generalize w4.heap.size = O at *
  have o1 : w5.cell? ⟨O, 1, none⟩ = some (.slice A3 n c3) := hM.blk.cell 1
  have o2 : w5.cell? ⟨O, 2, none⟩ = some (.slice A4 n c4) := hM.blk.cell 2
  have e0 : w5.cell? ⟨G, 0, none⟩ = some (.int .i64 base) := hD3.cell 0
  have g0 : w5.cell? ⟨G + 1, 0, none⟩ = some (.int .i64 0) := hR.cell 0
  have g1 : w5.cell? ⟨G + 1, 1, none⟩ = some (.slice none 0 0) := hR.cell 1
  have g2 : w5.cell? ⟨G + 1, 2, none⟩ = some (.slice none 0 0) := hR.cell 2
  have r0 := hR.frozen 0
  have r1 := hR.frozen 1
  have r2 := hR.frozen 2
  have hkn : k ≤ n := by omega
  have hkn2 : (k : Int) ≤ (n : Int) := by omega
  have hB5 := below_then hB3 hM.b hB3.size
  have hGw : w.heap.size ≤ G + 1 := by rw [HG.out]; omega
  have hw : IntKind.i64.wrap (base + (k : Int) - base) = (k : Int) := by rw [show base + (k : Int) - base = k by omega]; exact IntWalk.i64_in _ (by omega)
  go_cut [5, 20] from 21 to 35 (fun v5 u wx => v5 = .int .i64 0 ∧ ∃ X cx Y cy, Blk wx (G + 1) #[.int .i64 (base + k), .slice X (n - k) cx, .slice Y (n - k) cy] 46 ∧ n - k ≤ cx ∧ Bytes wx X (n - k) (bs.drop k) ∧ Safes wx Y (n - k) (s - k) ∧ (∀ q, blkO X = some q → w.heap.size ≤ q ∧ q < wx.heap.size) ∧ (∀ q, blkO Y = some q → w.heap.size ≤ q ∧ q < wx.heap.size) ∧ Below w.heap.size w wx)
  case first =>
    have hS3 := own_safes hM.os (by omega)
    have hA3 := own_bytes' hM.oa (by omega)
    have hbA : ∀ q, blkO A3 = some q → w.heap.size ≤ q := fun q e => by have h1 := own_base hM.oa q (by rw [ownBlock_slice]; exact e); have h2 := hB3.size; omega
    have hbS : ∀ q, blkO A4 = some q → w.heap.size ≤ q := fun q e => by have h1 := own_base hM.os q (by rw [ownBlock_slice]; exact e); have h2 := hB3.size; omega
    have hoA := own_mono hM.oa hB3.size
    have hoS := own_mono hM.os hB3.size
    clear hw hS3 hA3 hbA hbS
    have hkk : base + (k : Int) - base = (k : Int) := by omega
    go_region
    generalize hX : (if c3 = k then A3 else Option.map (fun x => x.add k) A3) = X
    generalize hY : (if c4 = k then A4 else Option.map (fun x => x.add k) A4) = Y
    have HX := Lib.hid hX
    have HY := Lib.hid hY
    clear hX hY
    go_wp2_with fail
    go_meet
    exact ⟨rfl, trim_doc (base := base) hR rfl hGw hB5 hoA hoS hkn (by omega) hcA hcS HX.out.symm HY.out.symm rfl rfl⟩
  case rest =>
    obtain ⟨rfl, X, cx, Y, cy, hF, hcx, hX, hY, hbX, hbY, hBf⟩ := hcut
    clear d0 d1 d2 o1 o2 e0 g0 g1 g2 r0 r1 r2 hw
    go_wp2
    exact bodyPost_ret (results_row_tmp rfl _ _ (G + 1) 46 _ (0, 0) _ rfl hF Try.underlying46 rfl (by kernel_rfl) _ rfl) rfl ⟨X, cx, Y, cy, rfl, hcx, hX, hY, hbX, hbY, hBf⟩
end Go.Proofs.Ytbfnmfakagdpfaa
