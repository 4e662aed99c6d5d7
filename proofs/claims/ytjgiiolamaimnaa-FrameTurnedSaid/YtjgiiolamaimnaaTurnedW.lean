/- FrameTurned and FrameLong, walked. -/
import Derived.Test.YtjgiiolamaimnaaBackW
import Derived.Test.YtjgiiolamaimnaaRec1
namespace Go.Proofs.Ytjgiiolamaimnaa
open Go.RowKit
set_option linter.unusedVariables false
set_option linter.unusedSimpArgs false
theorem bvals_set9 (bs : List UInt8) (k : Nat) (x : UInt8) : (bvals bs).set k (.int .u8 ((x.toNat : Nat) : Int)) = bvals (bs.set k x) := by simp [bvals]
theorem xor_byte9 (x y : UInt8) : bits .xor .u8 ((x.toNat : Nat) : Int) ((y.toNat : Nat) : Int) = (((x ^^^ y).toNat : Nat) : Int) := by
  have h1 := x.toNat_lt
  have h2 := y.toNat_lt
  rw [u8_xor_nat _ _ (by omega) (by omega), UInt8.toNat_xor]
set_option maxHeartbeats 1600000 in
theorem frameTurned_any (A : Option Addr) (n c : Nat) (p : List UInt8) (A2 : Option Addr) (n2 c2 : Nat) (tl : List UInt8) (at_ by_ : Int) (w : World) (hb : Bytes w A n p) (hn : n ≤ 140737488355328) (hb2 : Bytes w A2 n2 tl) (hn2 : n2 ≤ 140737488355328) (y0 : 0 ≤ by_) (y1 : by_ < 256) :
    Calls Try.prog 9 #[.slice A n c, .slice A2 n2 c2, .agg #[.int .i64 at_, .int .u8 by_]] w fun e w' => e = .returned (.bool true) ∧ Below w.heap.size w w' := by
  have HL := Lib.hid hb.1
  have b0 := below_alloc w (.cells #[.int .i64 at_, .int .u8 by_] 39)
  have hT := Blk.fresh w #[.int .i64 at_, .int .u8 by_] 39
  go_enter Try.func9, Try.ntmps9
  go_wp2_with fail
  refine (head_any _).mono ?_
  rintro e w1 ⟨rfl, bb1⟩
  have b1 := below_then b0 bb1 b0.size
  have hT1 := hT.keep bb1
  have c0 : w1.cell? ⟨w.heap.size, 0, none⟩ = _ := hT1.cell 0
  have c1 : w1.cell? ⟨w.heap.size, 1, none⟩ = _ := hT1.cell 1
  simp at c0 c1
  go_wp2_with fail
  refine (copied_any _ _ _ _ _ (hb.below b1) hn).mono ?_
  rintro e w3 ⟨A3, c3, rfl, ho3, b3, -⟩
  have b13 := below_then b1 b3 b1.size
  clear c0 c1 hT hT1 bb1
  by_cases hle : n ≤ 65536
  · go_wp2_with fail
    refine (fmake_any _ _ _ _ _ (own_bytes' ho3 (by omega)) hle).mono ?_
    rintro e w4 ⟨A4, c4, rfl, ho4, b4⟩
    have b14 := below_then b13 b4 b13.size
    by_cases hy : by_ = 0
    · have z1 : (by_ == 0) = true := by rw [beq_iff_eq]; exact hy
      clear hy
      go_wp2_with fail
      go_ret
      exact ⟨rfl, b14⟩
    have z1 : (by_ == 0) = false := by rw [beq_eq_false_iff_ne]; exact hy
    by_cases h0 : at_ < 0
    · have z2 : decide (at_ < 0) = true := decide_eq_true h0
      go_wp2_with fail
      go_ret
      exact ⟨rfl, b14⟩
    have z2 : decide (at_ < 0) = false := decide_eq_false h0
    by_cases h1 : (n : Int) + 9 ≤ at_
    · have z3 : decide ((n : Int) + 9 ≤ at_) = true := decide_eq_true h1
      go_wp2_with fail
      go_ret
      exact ⟨rfl, b14⟩
    have z3 : decide ((n : Int) + 9 ≤ at_) = false := decide_eq_false h1
    obtain ⟨k, rfl⟩ : ∃ k : Nat, at_ = k := ⟨at_.toNat, by omega⟩
    obtain ⟨y, rfl⟩ : ∃ y : UInt8, by_ = ((y.toNat : Nat) : Int) := ⟨UInt8.ofNat by_.toNat, by rw [UInt8.toNat_ofNat']; omega⟩
    have hyy : y ≠ 0 := fun e => hy (by rw [e]; rfl)
    have hft := frame_turned p tl k y (by rw [HL.out]; exact hle) (by rw [HL.out]; omega) hyy
    have HFT := Lib.hid hft
    have h4 := own_bytes' ho4 (by omega)
    clear hft hyy hy
    go_wp2_with fail
    refine (copied_any _ _ _ _ _ h4 (by omega)).mono ?_
    rintro e w5 ⟨A5, c5, rfl, ho5, b5, -⟩
    have b15 := below_then b14 b5 b14.size
    have h25 := hb2.below b15
    have ho5' := own_mono ho5 (B' := w.heap.size) b14.size
    have hs5 := b15.size
    clear ho5
    go_upto_region 12 with (at_builtin; (refine wpl_append _ rfl _ _ 22 rfl w.heap.size 5 _ 1 1 Try.underlying22 info_byte rfl (by decide) (.slice A5 (n + 9) c5) (n + 9) _ rfl ho5' A2 n2 c2 (bvals tl) rfl h25.rdc (bvals_one _) (by decide) (by decide) (by omega) hs5 ?_); intro A6 c6 w6 ho6 hg6 hne6 hnn6; clear hnn6 hne6)
    have b16 := b15.grown hg6 hs5 (own_base ho5')
    rw [← bvals_append] at ho6
    obtain ⟨g, rfl⟩ : ∃ g, A6 = some ⟨g, 0, none⟩ := by
      rcases ho6.2 with ⟨h0, _⟩ | ⟨bF, cp, cur, he, _⟩
      · injection h0 with _ h0 _; omega
      · injection he with he
        exact ⟨bF, he⟩
    have hfl : (frameB p ++ tl).length = n + 9 + n2 := (own_bytes' ho6 (by omega)).1
    generalize frameB p ++ tl = b at *
    have hgB := own_base ho6 g rfl
    have hcell : w6.cell? ⟨g, k, none⟩ = some (.int .u8 (((b.getD k 0).toNat : Nat) : Int)) := (ho6.cellAt k (by omega)).trans (bvals_at _ _ (by omega))
    have hfr := ho6.frozenAt k
    have HX := Lib.hid (xor_byte9 (b.getD k 0) y)
    have hst := (ho6.stored k (.int .u8 (bits .xor .u8 (((b.getD k 0).toNat : Nat) : Int) ((y.toNat : Nat) : Int)))).1
    rw [HX.out, bvals_set9] at hst
    have b17 := b16.setCell (p := ⟨g, k, none⟩) hgB (.int .u8 (bits .xor .u8 (((b.getD k 0).toNat : Nat) : Int) ((y.toNat : Nat) : Int)))
    rw [HX.out] at b17
    have i0 : (0 : Int) ≤ (k : Int) := by omega
    have i1 : (k : Int) < (n : Int) + 9 + (n2 : Int) := by omega
    clear ho6 hg6 ho5' h25 hfl
    generalize b.getD k 0 = x at *
    go_wp2_with fail
    rw [HX.out]
    generalize w6.setCell ⟨g, k, none⟩ (.int .u8 (((x ^^^ y).toNat : Nat) : Int)) = w7 at *
    clear hcell hfr
    refine (fread_any _ _ _ _ _ (own_bytes' hst (by omega)) (own_cap4 hst) (by omega)).mono ?_
    rintro e w8 ⟨A8, c8, rfl, ho8, b8⟩
    have b18 := below_then b17 b8 b17.size
    generalize rd (b.set k (x ^^^ y)) = r at *
    obtain ⟨q, x, z⟩ := r
    simp only at ho8 HFT ⊢
    clear ho8 hst
    by_cases hk0 : k = 0
    · subst hk0
      obtain rfl := HFT.out.1 rfl
      go_wp2_with fail
      go_ret
      exact ⟨rfl, b18⟩
    by_cases hk5 : 5 ≤ k
    · obtain rfl := HFT.out.2.1 hk5
      have t1 : ((k : Int) == 0) = false := by rw [beq_eq_false_iff_ne]; omega
      have t2 : (5 : Int) ≤ (k : Int) := by omega
      clear hk0
      go_wp2_with fail
      go_ret
      exact ⟨rfl, b18⟩
    · have hx := HFT.out.2.2 hk0 (by omega)
      rw [HL.out] at hx
      have t1 : ((k : Int) == 0) = false := by rw [beq_eq_false_iff_ne]; omega
      have t2 : ¬ (5 : Int) ≤ (k : Int) := by omega
      have t3 : (x != (n : Int) + 9) = true := by rw [bne_iff_ne]; exact hx
      clear hk0 hx
      go_wp2_with fail
      go_ret
      exact ⟨by simp [t3], b18⟩
  · have z1 : decide (65536 < (n : Int)) = true := decide_eq_true (by omega)
    go_wp2_with fail
    refine (fmake_no _ _ _ _ (by omega)).mono ?_
    rintro e w4 ⟨rfl, rfl⟩
    go_wp2_with fail
    go_ret
    exact ⟨rfl, b13⟩
/-- A turn's cells. -/
def IsTurn (cs : List Value) : Prop := ∃ a b : Int, cs = [.int .i64 a, .int .u8 b] ∧ 0 ≤ b ∧ b < 256
def turnFields (t : TypeId) (cs : List Value) : Prop := if t = 5 then IntOf .u8 cs else IntOf .i64 cs
theorem opn_turn (W : World) : Opn Try.prog W 39 (fun cs => IsTurn cs) := by
  refine (opn_struct_list Try.underlying39 [(3, 0, 1), (5, 1, 1)] (by kernel_rfl) (N := 2) (by kernel_rfl) turnFields ?_).imp ?_
  · intro x hx
    simp only [List.mem_cons, List.not_mem_nil, or_false] at hx
    rcases hx with rfl | rfl
    · exact opn_int Try.underlying3
    · exact opn_int Try.underlying5
  · rintro cs ⟨hl, hall⟩
    match cs, hl with
    | [v0, v1], _ =>
      have g0 : IntOf .i64 [v0] := hall (3, 0, 1) (by simp)
      have g1 : IntOf .u8 [v1] := hall (5, 1, 1) (by simp)
      obtain ⟨n0, p0, w0⟩ := g0
      obtain ⟨n1, p1, w1⟩ := g1
      simp only [List.cons.injEq, and_true] at p0 p1
      subst p0 p1
      have b1 := bounds_u8 w1
      exact ⟨n0, n1, rfl, by omega, by omega⟩
theorem frameTurned_agg (A : Option Addr) (n c : Nat) (p : List UInt8) (A2 : Option Addr) (n2 c2 : Nat) (tl : List UInt8) (cs : Array Value) (w : World) (hb : Bytes w A n p) (hn : n ≤ 140737488355328) (hb2 : Bytes w A2 n2 tl) (hn2 : n2 ≤ 140737488355328) (h : IsTurn cs.toList) :
    Calls Try.prog 9 #[.slice A n c, .slice A2 n2 c2, .agg cs] w fun e w' => e = .returned (.bool true) ∧ Below w.heap.size w w' := by
  obtain ⟨a, b, hc, b0, b1⟩ := h
  have : cs = #[.int .i64 a, .int .u8 b] := by cases cs; simp_all
  subst this
  exact frameTurned_any A n c p A2 n2 c2 tl a b w hb hn hb2 hn2 b0 b1
set_option maxHeartbeats 1600000 in
theorem frameLong_any (size first : Int) (w : World) (f0 : 0 ≤ first) (f1 : first < 256) :
    Calls Try.prog 4 #[.int .i64 size, .int .u8 first] w fun e w' => e = .returned (.bool true) ∧ Below w.heap.size w w' := by
  obtain ⟨i0, hi, hz0, hz1, hz2⟩ := info_parts info_byte
  by_cases h0 : size < 0
  · have z1 : decide (size < 0) = true := decide_eq_true h0
    go_enter Try.func4, Try.ntmps4
    go_wp2_with fail
    refine (head_any _).mono ?_
    rintro e w1 ⟨rfl, b1⟩
    go_wp2_with fail
    go_ret
    exact ⟨rfl, b1⟩
  have z1 : decide (size < 0) = false := decide_eq_false h0
  by_cases h1 : 65636 < size
  · have z2 : decide (65636 < size) = true := decide_eq_true h1
    go_enter Try.func4, Try.ntmps4
    go_wp2_with fail
    refine (head_any _).mono ?_
    rintro e w1 ⟨rfl, b1⟩
    go_wp2_with fail
    go_ret
    exact ⟨rfl, b1⟩
  obtain ⟨n, rfl⟩ : ∃ n : Nat, size = n := ⟨size.toNat, by omega⟩
  have z2 : decide (65636 < (n : Int)) = false := decide_eq_false h1
  have hn : n ≤ 65636 := by omega
  go_enter Try.func4, Try.ntmps4
  go_wp2_with (at_make; refine wpList_make_full _ rfl (.tmp 14) (.tmp 14) 22 rfl w.heap.size 5 i0 (.int .u8 0) 1 Try.underlying22 hi hz0 hz1 .i64 .i64 _ _ n rfl rfl rfl rfl (by rw [hz2]; omega) (by simp [maxLen]; omega) (Nat.le_refl _) ?_; intro w1 hown hgr; rw [Nat.mul_one] at hown)
  have hB1 := below_of_grown hgr (Nat.le_refl _) (fun k h => by cases h)
  have hz : (madeCells (Value.int .u8 0).cells n).toList = bvals (List.replicate n 0) := by
    rw [show (Value.int .u8 0).cells = #[Value.int .u8 0] from rfl, toList_madeCells_one]
    simp [bvals]
  rw [hz] at hown
  go_loopw [18] (fun i wr => ∃ k : Nat, ∃ zs : List UInt8, k ≤ n ∧ i = .int .i64 k ∧ zs.length = n ∧ wr.ownsRow w.heap.size 5 1 (.slice (some ⟨w.heap.size, 0, none⟩) n n) n (bvals zs) ∧ Below w.heap.size w wr) (fun i _ => n - (intOf i).toNat)
  case atStart => exact ⟨0, _, by omega, rfl, by simp, hown, hB1⟩
  case round =>
    clear hown hgr hB1
    obtain ⟨k, zs, hk, rfl, hl, ho, hB⟩ := hrel
    by_cases hlt : k < n
    · obtain ⟨y, hy⟩ : ∃ y : UInt8, (first + (k : Int)) % 256 = ((y.toNat : Nat) : Int) := ⟨UInt8.ofNat ((first + (k : Int)) % 256).toNat, by rw [UInt8.toNat_ofNat']; omega⟩
      have HY := Lib.hid hy
      have hcell : wr.cell? ⟨w.heap.size, k, none⟩ = some (.int .u8 (((zs.getD k 0).toNat : Nat) : Int)) := (ho.cellAt k (by omega)).trans (bvals_at _ _ (by omega))
      have hfr := ho.frozenAt k
      have HS := Lib.hid (ho.stored k (.int .u8 ((y.toNat : Nat) : Int))).1
      have HL := Lib.hid hl
      have HB := Lib.hid (hB.setCell (p := ⟨w.heap.size, k, none⟩) (Nat.le_refl _) (.int .u8 ((y.toNat : Nat) : Int)))
      have j0 : (0 : Int) ≤ (k : Int) := by omega
      have j1 : (k : Int) < (n : Int) := by omega
      clear hy hl ho
      go_wp2_with fail
      go_roundw
      case rel => exact ⟨k + 1, zs.set k y, by omega, by go_num, by rw [List.length_set]; exact HL.out, by rw [HY.out, ← bvals_set9]; exact HS.out, by rw [HY.out]; exact HB.out⟩
      case measure => simp [intOf]; omega
    · obtain rfl : k = n := by omega
      go_wp2_with fail
      refine (frameMake_any _ _ _ _ _ (own_bytes' ho (by omega)) (by omega)).mono ?_
      rintro e w5 ⟨rfl, b5⟩
      go_wp2_with fail
      go_ret
      exact ⟨rfl, below_then hB b5 hB.size⟩
end Go.Proofs.Ytjgiiolamaimnaa
