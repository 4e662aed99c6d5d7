/- Package area, walked: Crash. -/
import Derived.Test.YtodaplkijdjbpaaProg
import Derived.Test.YtodaplkijdjbpaaArea
namespace Go.Proofs.Ytodaplkijdjbpaa
open Go.RowKit
set_option linter.unusedVariables false
set_option linter.unusedSimpArgs false
/-- How many of the loose bytes a loss of power leaves. -/
def crashK (n s : Nat) (keep : Int) : Nat := (max 0 (min keep ((n - s : Nat) : Int))).toNat
/-- The bytes behind it. -/
def crashB (bs : List UInt8) (s kp : Nat) (t : UInt8) : List UInt8 := if kp = 0 then bs.take s else (bs.take (s + kp)).set (s + kp - 1) (bs.getD (s + kp - 1) 0 ^^^ t)
theorem crashK_le (n s : Nat) (keep : Int) (h : s ≤ n) : s + crashK n s keep ≤ n := by unfold crashK; omega
theorem crashB_length (bs : List UInt8) (s kp : Nat) (t : UInt8) (h : s + kp ≤ bs.length) : (crashB bs s kp t).length = s + kp := by
  unfold crashB
  split
  · rw [List.length_take]; omega
  · rw [List.length_set, List.length_take]; omega
theorem xor_byte7 (a b : UInt8) : bits .xor .u8 ((a.toNat : Nat) : Int) ((b.toNat : Nat) : Int) = (((a ^^^ b).toNat : Nat) : Int) := by
  rw [u8_xor_nat _ _ a.toNat_lt b.toNat_lt]; simp
theorem bvals_set7 (bs : List UInt8) (j : Nat) (b : UInt8) : (bvals bs).set j (.int .u8 ((b.toNat : Nat) : Int)) = bvals (bs.set j b) := by simp [bvals]
theorem hx7 (bs : List UInt8) (m : Nat) (hl : (bs.take m).length = m) (h : 0 < m) : (bvals (bs.take m))[m - 1]? = some (.int .u8 (((bs.getD (m - 1) 0).toNat : Nat) : Int)) := by
  rw [bvals_at _ _ (by omega)]
  rw [List.getD_eq_getElem?_getD, List.getElem?_take, if_pos (by omega), ← List.getD_eq_getElem?_getD]
set_option maxHeartbeats 1600000 in
theorem areaCrash_any {g : Nat} {A : Option Addr} {c : Nat} {base : Int} {bs : List UInt8} {s : Nat} {w : World} (hA : Ar w g A c base bs s) (keep x : Int) (t : UInt8) (hx : x = ((t.toNat : Nat) : Int)) :
    Calls Try.prog 43 #[.pointer (some ⟨g, 0, none⟩), .int .i64 keep, .int .u8 x] w (ArTo w (arF g A) g base (crashB bs s (crashK bs.length s keep) t) (s + crashK bs.length s keep) 0) := by
  have c0 : w.cell? ⟨g, 0, none⟩ = _ := hA.blk.cell 0
  have c1 : w.cell? ⟨g, 1, none⟩ = _ := hA.blk.cell 1
  have c2 : w.cell? ⟨g, 2, none⟩ = _ := hA.blk.cell 2
  have f1 := hA.blk.frozen 1
  simp at c0 c1 c2
  have hb0 := hA.b0
  have hb1 := hA.b1
  have hn1 := hA.n1
  have hs := hA.sle
  have hcap := hA.cap
  have hX := Lib.hid hx
  clear hx
  have hkl := crashK_le bs.length s keep hs
  have HK : Hid (crashK bs.length s keep = (max 0 (min keep ((bs.length - s : Nat) : Int))).toNat) := Lib.hid rfl
  generalize crashK bs.length s keep = kp at *
  go_enter Try.func43, Try.ntmps43
  go_wp2_with fail
  go_cut [7] from 10 to 22 (fun v wx => v = .int .i64 kp ∧ ∃ n, wx = w.drewN n)
  case first =>
    have hw : IntKind.i64.wrap ((bs.length : Int) - (s : Int)) = (bs.length : Int) - (s : Int) := IntWalk.i64_in _ (by omega)
    go_region
    all_goals go_wp2_with fail
    all_goals go_meet
    all_goals
      clear hw
      have := HK.out
      refine ⟨?_, 1, rfl⟩
      congr 1
      (repeat split at *)
      all_goals omega
  case rest =>
    obtain ⟨rfl, n, rfl⟩ := hcut
    go_wp2_with fail
    go_region
    have hO2 := own_cut (own_chg hA.own ((chg_below (below_drew7 w (n + 1)) (fun k => k = g)).set (.inl rfl) 1 (.slice A (s + kp) c)) (fun k e e2 => hA.ne (by rw [ownBlock_slice] at e; rw [e, e2]))) (s + kp) hkl
    have hC2 : Chg (arF g A) w ((w.drewN (n + 1)).setCell ⟨g, 1, none⟩ (.slice A (s + kp) c)) := (chg_below (below_drew7 w (n + 1)) _).set (.inl (.inl rfl)) 1 _
    have hB2 : Blk ((w.drewN (n + 1)).setCell ⟨g, 1, none⟩ (.slice A (s + kp) c)) g #[.int .i64 base, .slice A (s + kp) c, .int .i64 s] 116 := Blk.set (w := w.drewN (n + 1)) hA.blk 1 (.slice A (s + kp) c)
    generalize (w.drewN (n + 1)).setCell ⟨g, 1, none⟩ (.slice A (s + kp) c) = w2 at *
    clear c0 c1 c2
    have c1 : w2.cell? ⟨g, 1, none⟩ = _ := hB2.cell 1
    have c2 : w2.cell? ⟨g, 2, none⟩ = _ := hB2.cell 2
    have f2 := hB2.frozen 2
    simp at c1 c2
    go_upto_region 6 with fail
    have hl : (bs.take (s + kp)).length = s + kp := by rw [List.length_take]; omega
    have hC3 := hC2.set (g := g) (.inl (.inl rfl)) 2 (.int .i64 ((s : Int) + (kp : Int)))
    have hB3 : Blk _ g #[.int .i64 base, .slice A (s + kp) c, .int .i64 ((s : Int) + (kp : Int))] 116 := Blk.set hB2 2 (.int .i64 ((s : Int) + (kp : Int)))
    have hO3 := own_chg hO2 (chg_set w2 g 2 (.int .i64 ((s : Int) + (kp : Int)))) (fun k e e2 => hA.ne (by rw [ownBlock_slice] at e; rw [e, e2]))
    generalize w2.setCell ⟨g, 2, none⟩ (.int .i64 ((s : Int) + (kp : Int))) = w3 at *
    clear c1 c2 f2
    have c1 : w3.cell? ⟨g, 1, none⟩ = _ := hB3.cell 1
    have c2 : w3.cell? ⟨g, 2, none⟩ = _ := hB3.cell 2
    simp at c1 c2
    have hAr : Ar w3 g A c base (bs.take (s + kp)) (s + kp) := ⟨by rw [hl]; exact hB3, by rw [hl]; exact hO3, by rw [hl]; omega, hb0, by rw [hl]; push_cast; omega, by rw [hl]; omega⟩
    by_cases hkp : kp = 0
    · have hz : decide (0 < (kp : Int)) = false := decide_eq_false (by omega)
      go_wp2_with fail
      go_ret
      have e : crashB bs s kp t = bs.take (s + kp) := by unfold crashB; rw [if_pos hkp, hkp]; rfl
      rw [e]
      exact ⟨rfl, A, c, hAr, hC3, fun q e => .inl (.inr e)⟩
    · have hz : 0 < (kp : Int) := by omega
      rcases hAr.addr with ⟨_, _, h0⟩ | ⟨b, rfl⟩
      · have : (bs.take (s + kp)).length = 0 := by rw [h0]; rfl
        omega
      · have hcell : w3.cell? ⟨b, s + kp - 1, none⟩ = some (.int .u8 (((bs.getD (s + kp - 1) 0).toNat : Nat) : Int)) := (hO3.cellAt _ (by omega)).trans (hx7 bs (s + kp) hl (by omega))
        have hfr := hO3.frozenAt (s + kp - 1)
        have hgb : b ≠ g := fun e => hAr.ne (by rw [e]; rfl)
        have hst := hO3.stored (s + kp - 1) (.int .u8 (((bs.getD (s + kp - 1) 0 ^^^ t).toNat : Nat) : Int))
        have HV := Lib.hid (xor_byte7 (bs.getD (s + kp - 1) 0) t)
        rw [hX.out]
        generalize (((bs.getD (s + kp - 1) 0).toNat : Nat) : Int) = m0 at *
        have i0 : (0 : Int) ≤ (s : Int) + (kp : Int) - 1 := by omega
        have i1 : (s : Int) + (kp : Int) - 1 < (s : Int) + (kp : Int) := by omega
        go_wp2_with fail
        go_region
        all_goals go_wp2_with fail
        go_ret
        rw [HV.out]
        have e : crashB bs s kp t = (bs.take (s + kp)).set (s + kp - 1) (bs.getD (s + kp - 1) 0 ^^^ t) := by unfold crashB; rw [if_neg hkp]
        rw [bvals_set7, ← e] at hst
        have hcl := crashB_length bs s kp t hkl
        have hC5 := chg_grown hst.2
        have hO6 := hst.1
        have hB6 := Blk.grown hB3 hst.2 (fun e => hgb (by injection e))
        refine ⟨rfl, some ⟨b, 0, none⟩, c, Ar.below (w := w3.setCell ⟨b, s + kp - 1, none⟩ (.int .u8 (((bs.getD (s + kp - 1) 0 ^^^ t).toNat : Nat) : Int))) ⟨by rw [hcl]; exact hB6, by rw [hcl]; exact hO6, by rw [hcl]; omega, hb0, by rw [hcl]; push_cast; omega, by rw [hcl]; omega⟩ (below_drew7 _ 1), ?_, fun q e => .inl (.inr e)⟩
        exact (hC3.set (.inl (.inr rfl)) _ _).then_ (below_drew7 _ 1)
end Go.Proofs.Ytodaplkijdjbpaa
