/- SumLeaves, walked: where the bytes are few. -/
import Derived.Test.YtgjmhcebhgpidaaStream
import Derived.Test.YtgjmhcebhgpidaaHead
import Derived.Test.YtgjmhcebhgpidaaLent3
import Derived.Test.YtgjmhcebhgpidaaSep
import Derived.StillTailTactics
import Derived.WalkLawsBesides
import Derived.Deep.RegionHeld3
namespace Go.Proofs.Ytgjmhcebhgpidaa
open Go.RowKit
set_option linter.unusedVariables false
set_option linter.unusedSimpArgs false
/-- The rows, and the stream beside them. -/
structure S2 (W w1 : World) (rs : List Rw) (g : Nat) (x c : Int) : Prop where
  sep : Sep W w1.heap.size rs
  str : Blk W g #[.int .u32 x, .int .i64 c] 39
  low : Below w1.heap.size w1 W
theorem own_not_blk3 {w : World} {B : Nat} {e : TypeId} {z n : Nat} {v : Value} {xs : List Value} {g : Nat} {cs : Array Value} {t : TypeId} (h : w.ownsRow B e z v n xs) (hb : Blk w g cs t) (hne : e ≠ t) : v.ownBlock ≠ some g := by
  rcases h.2 with ⟨rfl, _⟩ | ⟨g', cap, cur, rfl, _, hg, _⟩
  · simp [Value.ownBlock]
  · intro e
    simp only [Value.ownBlock, Option.some.injEq] at e
    rw [e] at hg
    rw [Blk, hg] at hb
    injection hb with hb
    injection hb with a b c
    exact hne b
theorem own_cap3 {w : World} {B : Nat} {e : TypeId} {n c : Nat} {A : Option Addr} {bs : List UInt8} (h : w.ownsRow B e 1 (.slice A n c) n (bvals bs)) : n ≤ c := by
  obtain ⟨A', c', e, h1, _⟩ := own_reads h
  injection e with e1 e2 e3
  omega
theorem set_marks {zs : List UInt8} {k n : Nat} {y : UInt8} (hl : zs.length = n) (hk : k < n) (h : ∀ j, j < k → zs.getD j 0 = y) : ∀ j, j < k + 1 → (zs.set k y).getD j 0 = y := by
  intro j hj
  by_cases e : j = k
  · subst e
    rw [List.getD_eq_getElem?_getD, List.getElem?_set_self (by omega)]
    rfl
  · rw [List.getD_eq_getElem?_getD, List.getElem?_set_ne (by omega), ← List.getD_eq_getElem?_getD]
    exact h j (by omega)
theorem all_marks {zs : List UInt8} {n : Nat} {y : UInt8} (hl : zs.length = n) (h : ∀ j, j < n → zs.getD j 0 = y) : zs = List.replicate n y := by
  refine List.ext_getElem (by simp [hl]) fun i h1 h2 => ?_
  have := h i (by omega)
  rw [List.getD_eq_getElem?_getD, List.getElem?_eq_getElem h1] at this
  simpa using this
theorem bvals_setM (zs : List UInt8) (k : Nat) (y : UInt8) : (bvals zs).set k (Value.int .u8 ((y.toNat : Nat) : Int)) = bvals (zs.set k y) := by
  rw [bvals, bvals, List.map_set]
section
variable {W W' w1 : World} {rs : List Rw} {g : Nat} {x c : Int}
theorem S2.below (h : S2 W w1 rs g x c) (hb : Below W.heap.size W W') : S2 W' w1 rs g x c := ⟨h.sep.below hb, h.str.keep hb, below_then h.low hb h.low.size⟩
theorem S2.st (h : S2 W w1 rs g x c) : St W g 0 x c := ⟨h.str.cell 0, h.str.cell 1, h.str.frozen 0, h.str.frozen 1⟩
theorem S2.wrote {w2 : World} {x' c' : Int} (h : S2 W w1 rs g x c) (hg : w1.heap.size ≤ g) (hb : Below W.heap.size W w2) (he : W' = (w2.setCell ⟨g, 0, none⟩ (.int .u32 x')).setCell ⟨g, 0 + 1, none⟩ (.int .i64 c')) : S2 W' w1 rs g x' c' := by
  subst he
  have h2 := h.below hb
  have hc : Chg (fun q => q = g) w2 ((w2.setCell ⟨g, 0, none⟩ (.int .u32 x')).setCell ⟨g, 0 + 1, none⟩ (.int .i64 c')) := Chg.set (F := fun q => q = g) (Chg.set (F := fun q => q = g) (Chg.refl _ _) (.inl rfl) 0 _) (.inl rfl) (0 + 1) _
  exact ⟨h2.sep.chg hc (fun r hr q e e2 => own_not_blk3 (h2.sep.own r hr) h2.str (by decide) (by rw [ownBlock_slice, e, e2])), (h2.str.set 0 (.int .u32 x')).set (0 + 1) (.int .i64 c'), h2.low.trans (hc.below h2.low.size (fun q e => by omega))⟩
theorem S2.upd (h : S2 W w1 rs g x c) (j : Nat) {A : Option Addr} {n k : Nat} {bs bs' : List UInt8} (hj : rs[j]? = some ⟨A, n, k, bs⟩)
    (hc : Chg (fun q => blkO A = some q) W W') (ho : W'.ownsRow w1.heap.size 5 1 (.slice A n k) n (bvals bs')) : S2 W' w1 (rs.set j ⟨A, n, k, bs'⟩) g x c :=
  ⟨h.sep.upd j hj hc ho (.inl rfl), h.str.chg hc (fun e => own_not_blk3 (h.sep.at_ j hj) h.str (by decide) (by rw [ownBlock_slice]; exact e)), h.low.trans (hc.below h.low.size (fun q e => (Rw.lt (h.sep.at_ j hj) q e).1))⟩
theorem S2.bytes (h : S2 W w1 rs g x c) (j : Nat) {A : Option Addr} {n k : Nat} {bs : List UInt8} (hj : rs[j]? = some ⟨A, n, k, bs⟩) (hn : n ≤ 281474976710656) : Bytes W A n bs := h.sep.bytes j hj hn
end
theorem same_self (A1 A2 : Option Addr) (l1 c1 l2 c2 : Nat) (bs : List UInt8) (w : World) (ha : Bytes w A1 l1 bs) (hb : Bytes w A2 l2 bs) :
    Calls Try.prog 22 #[.slice A1 l1 c1, .slice A2 l2 c2] w fun e w' => e = .returned (.bool true) ∧ w = w' := by
  refine (same_any _ _ _ _ _ _ _ _ _ ha hb).mono ?_
  rintro e w' ⟨rfl, rfl⟩
  exact ⟨by simp, rfl⟩
set_option maxRecDepth 100000 in
set_option maxHeartbeats 1600000 in
theorem sumLeaves_any (A : Option Addr) (n c : Nat) (a : List UInt8) (B : Option Addr) (m d : Nat) (b : List UInt8) (f : Int) (w : World) (ha : Bytes w A n a) (hb : Bytes w B m b) (f0 : 0 ≤ f) (f1 : f ≤ 4294967295) (hn : n ≤ 1048576) (hm : m ≤ 1048576) :
    Calls Try.prog 8 #[.slice A n c, .slice B m d, .int .u32 f] w fun e w' => e = .returned (.bool true) ∧ Below w.heap.size w w' := by
  obtain ⟨s, u⟩ : ∃ s, U f s := ⟨BitVec.ofNat 32 f.toNat, by unfold U; rw [BitVec.toNat_ofNat]; omega⟩
  have HLA := Lib.hid ha.1
  have HLB := Lib.hid hb.1
  go_enter Try.func8, Try.ntmps8
  go_wp2_with fail
  refine (head_any _).mono ?_
  rintro e w1 ⟨rfl, hB1⟩
  have ha1 := ha.below hB1
  have hb1 := hb.below hB1
  go_wp2_with fail
  refine (lent_any _ _ _ _ _ ha1 (by omega)).mono ?_
  rintro e w2 ⟨A2, c2, rfl, ho2, y2⟩
  have hs2 := (Sep.nil w1 w1.heap.size).add y2 (Nat.le_refl _) ho2
  have hb2 := hb1.below y2
  clear ho2
  go_wp2_with fail
  refine (lent_any _ _ _ _ _ hb2 (by omega)).mono ?_
  rintro e w3 ⟨A3, c3, rfl, ho3, y3⟩
  have hC3 := below_then y2 y3 y2.size
  have hs3 := hs2.add y3 y2.size ho3
  have b3 := hs3.bytes 1 rfl (by omega)
  clear ho3 hs2
  go_wp2_with fail
  refine (copied_any _ _ _ _ _ b3 (by omega)).mono ?_
  rintro e w4 ⟨A4, c4, rfl, ho4, y4, -⟩
  have hC4 := below_then hC3 y4 hC3.size
  have hs4 := hs3.add y4 hC3.size ho4
  have b4 := hs4.bytes 1 rfl (by omega)
  clear ho4 hs3 b3
  go_wp2_with fail
  refine (copied_any _ _ _ _ _ b4 (by omega)).mono ?_
  rintro e w5 ⟨A5, c5, rfl, ho5, y5, -⟩
  have hC5 := below_then hC4 y5 hC4.size
  have hs5 := hs4.add y5 hC4.size ho5
  have ha5 := ha1.below hC5
  have hb5 := hb1.below hC5
  have hc2 := own_cap3 (hs5.at_ 3 rfl)
  have hc3 := own_cap3 (hs5.at_ 2 rfl)
  have hc4 := own_cap3 (hs5.at_ 1 rfl)
  have hc5 := own_cap3 (hs5.at_ 0 rfl)
  clear ho5 hs4 b4
  go_wp2_with fail
  refine (refOf_any _ _ _ _ _ ha5).mono ?_
  rintro e w5' ⟨x1, rfl, u1, rfl⟩
  go_wp2_with fail
  refine (refMore_any _ _ _ _ _ _ _ u hb5).mono ?_
  rintro e w5' ⟨x2, rfl, u2, rfl⟩
  have x6 := below_alloc w5 (.cells #[.int .u32 0, .int .i64 0] 39)
  have k6 := Blk.fresh w5 #[.int .u32 0, .int .i64 0] 39
  have h6 : S2 _ w1 _ w5.heap.size 0 0 := ⟨hs5.below x6, k6, below_then hC5 x6 hC5.size⟩
  have hg6 : w1.heap.size ≤ w5.heap.size := hC5.size
  have bl := (h6.bytes 3 rfl (by omega)).take n (by omega)
  rw [List.take_left' HLA.out] at bl
  clear hs5 k6 x6
  go_wp2_with fail
  generalize w5.alloc (.cells #[.int .u32 0, .int .i64 0] 39) = w6 at *
  generalize w5.heap.size = g at *
  refine (of_any _ _ _ _ _ bl).mono ?_
  rintro e w7 ⟨x3, rfl, u3, y7⟩
  obtain rfl : x3 = x1 := u3.trans u1.symm
  have h7 := h6.below y7
  have bm := (h7.bytes 2 rfl (by omega)).take m (by omega)
  rw [List.take_left' HLB.out] at bm
  clear h6 bl
  go_wp2_with fail
  refine (more_any _ _ _ _ _ _ _ u bm).mono ?_
  rintro e w8 ⟨x4, rfl, u4, y8⟩
  obtain rfl : x4 = x2 := u4.trans u2.symm
  have h8 := h7.below y8
  have bl := (h8.bytes 3 rfl (by omega)).take n (by omega)
  rw [List.take_left' HLA.out] at bl
  clear h7 bm
  go_wp2_with fail
  refine (write_any g 0 0 0 0 _ _ _ _ _ h8.st U.zero bl (by omega) (by omega)).mono ?_
  rintro e w9 ⟨rfl, w9', x5, u5, y9, he9⟩
  have h9 := h8.wrote hg6 y9 he9
  have bm := (h9.bytes 2 rfl (by omega)).take m (by omega)
  rw [List.take_left' HLB.out] at bm
  clear h8 bl he9
  go_wp2_with fail
  refine (write_any g 0 _ _ _ _ _ _ _ _ h9.st u5 bm (by omega) (by omega)).mono ?_
  rintro e w10 ⟨rfl, w10', x6, u6, y10, he10⟩
  have h10 := h9.wrote hg6 y10 he10
  clear h9 bm he10 y9 y10
  go_wp2_with fail
  refine (same_self _ _ _ _ _ _ _ _ (h10.bytes 3 rfl (by omega)) (h10.bytes 1 rfl (by omega))).mono ?_
  rintro e w11 ⟨rfl, rfl⟩
  go_wp2_with fail
  refine (same_self _ _ _ _ _ _ _ _ (h10.bytes 2 rfl (by omega)) (h10.bytes 0 rfl (by omega))).mono ?_
  rintro e w11 ⟨rfl, rfl⟩
  go_wp2_with fail
  go_loopw [78] (fun i wr => ∃ k : Nat, ∃ zs : List UInt8, k ≤ n + 70 ∧ i = .int .i64 k ∧ zs.length = n + 70 ∧ Hid (∀ j, j < k → zs.getD j 0 = 7) ∧ S2 wr w1 [⟨A5, m + 70, c5, b ++ tailL 70⟩, ⟨A4, n + 70, c4, a ++ tailL 70⟩, ⟨A3, m + 70, c3, b ++ tailL 70⟩, ⟨A2, n + 70, c2, zs⟩] g x6 (0 + (n : Int) + (m : Int))) (fun i _ => n + 70 - (intOf i).toNat)
  case atStart => exact ⟨0, _, by omega, rfl, by rw [List.length_append, HLA.out, tailL_length], Lib.hid (fun j hj => by omega), h10⟩
  case round =>
    clear h10
    obtain ⟨k, zs, hk, rfl, hl, HJ, hS⟩ := hrel
    by_cases hlt : k < n + 70
    · have ho := hS.sep.at_ 3 rfl
      simp only [Rw.own] at ho
      rcases ho.2 with ⟨_, h0⟩ | ⟨g5, cap5, cur5, hv5, -⟩
      · omega
      injection hv5 with e1 e2 e3
      subst e1
      have hcell : wr.cell? ⟨g5, k, none⟩ = some (.int .u8 (((zs.getD k 0).toNat : Nat) : Int)) := (ho.cellAt k (by omega)).trans (bvals_at _ _ (by omega))
      have hfr := ho.frozenAt k
      have hst := (ho.stored k (.int .u8 7)).1
      have hst2 : (wr.setCell ⟨g5, k, none⟩ (.int .u8 7)).ownsRow w1.heap.size 5 1 (.slice (some ⟨g5, 0, none⟩) (n + 70) c2) (n + 70) (bvals (zs.set k 7)) := by rw [← bvals_setM]; exact hst
      have HN := Lib.hid (hS.upd 3 rfl ((chg_set wr g5 k (.int .u8 7)).mono (fun q e => by rw [e]; rfl)) hst2)
      have HL2 := Lib.hid hl
      have j0 : (0 : Int) ≤ (k : Int) := by omega
      have j1 : (k : Int) < (n : Int) + 70 := by omega
      clear hl ho hS hst hst2
      go_wp2_with fail
      go_roundw
      case rel => exact ⟨k + 1, zs.set k 7, by omega, by go_num, by rw [List.length_set]; exact HL2.out, Lib.hid (set_marks HL2.out hlt HJ.out), HN.out⟩
      case measure => simp [intOf]; omega
    · obtain rfl : k = n + 70 := by omega
      have hz := all_marks hl HJ.out
      subst hz
      clear HJ hl hk hlt
      go_wp2_with fail
      go_loopw [87] (fun i wr => ∃ k : Nat, ∃ zs : List UInt8, k ≤ m + 70 ∧ i = .int .i64 k ∧ zs.length = m + 70 ∧ S2 wr w1 [⟨A5, m + 70, c5, b ++ tailL 70⟩, ⟨A4, n + 70, c4, a ++ tailL 70⟩, ⟨A3, m + 70, c3, zs⟩, ⟨A2, n + 70, c2, List.replicate (n + 70) 7⟩] g x6 (0 + (n : Int) + (m : Int))) (fun i _ => m + 70 - (intOf i).toNat)
      case atStart => exact ⟨0, _, by omega, rfl, by rw [List.length_append, HLB.out, tailL_length], hS⟩
      case round =>
        clear hS
        obtain ⟨k, zs, hk, rfl, hl, hS⟩ := hrel
        by_cases hlt : k < m + 70
        · have ho := hS.sep.at_ 2 rfl
          simp only [Rw.own] at ho
          rcases ho.2 with ⟨_, h0⟩ | ⟨g5, cap5, cur5, hv5, -⟩
          · omega
          injection hv5 with e1 e2 e3
          subst e1
          have hcell : wr.cell? ⟨g5, k, none⟩ = some (.int .u8 (((zs.getD k 0).toNat : Nat) : Int)) := (ho.cellAt k (by omega)).trans (bvals_at _ _ (by omega))
          have hfr := ho.frozenAt k
          have hst := (ho.stored k (.int .u8 9)).1
          have hst2 : (wr.setCell ⟨g5, k, none⟩ (.int .u8 9)).ownsRow w1.heap.size 5 1 (.slice (some ⟨g5, 0, none⟩) (m + 70) c3) (m + 70) (bvals (zs.set k 9)) := by rw [← bvals_setM]; exact hst
          have HN := Lib.hid (hS.upd 2 rfl ((chg_set wr g5 k (.int .u8 9)).mono (fun q e => by rw [e]; rfl)) hst2)
          have HL2 := Lib.hid hl
          have j0 : (0 : Int) ≤ (k : Int) := by omega
          have j1 : (k : Int) < (m : Int) + 70 := by omega
          clear hl ho hS hst hst2
          go_wp2_with fail
          go_roundw
          case rel => exact ⟨k + 1, zs.set k 9, by omega, by go_num, by rw [List.length_set]; exact HL2.out, HN.out⟩
          case measure => simp [intOf]; omega
        · obtain rfl : k = m + 70 := by omega
          have bl := (hS.bytes 3 rfl (by omega)).take n (by omega)
          have bw := (hS.bytes 1 rfl (by omega)).take n (by omega)
          have bv := (hS.bytes 0 rfl (by omega)).take m (by omega)
          rw [List.take_left' HLA.out] at bw
          rw [List.take_left' HLB.out] at bv
          clear hl hk hlt
          go_wp2_with fail
          refine (of_any _ _ _ _ _ bl).mono ?_
          rintro e w12 ⟨x7, rfl, u7, y12⟩
          have h12 := hS.below y12
          have bl2 := bl.below y12
          have bw2 := bw.below y12
          have bv2 := bv.below y12
          clear bl bw bv hS
          go_wp2_with fail
          have i0 : (0 : Int) ≤ (n : Int) := by omega
          have i1 : (n : Int) ≤ (c4 : Int) := by omega
          have i2 : (0 : Int) ≤ (m : Int) := by omega
          have i3 : (m : Int) ≤ (c5 : Int) := by omega
          go_region_held3 (fun w' => Below w12.heap.size w12 w')
            (first | exact kB | exact kA | exact Below.refl _ _ | exact (Below.refl _ _).drew)
            (first | (go_at_call 11; refine (copied_any _ _ _ _ _ (bw2.below (Below.refl _ _).drew) (by omega)).mono ?_; rintro e wg ⟨A7, c7, rfl, ho7, hBg, -⟩; have kA : Below w12.heap.size w12 wg := (Below.refl _ w12).drew.trans hBg) | (refine step_append_any _ (by rfl) (.tmp 103) (.tmp 107) 22 (by rfl) w12.heap.size 5 _ 1 1 Try.underlying22 info_byte rfl (by decide) (.slice A7 n c7) n _ (by rfl) ho7 _ m _ _ (by rfl) (bv2.below kA).rdc (bvals_one _) (by decide) (by decide) (by omega) kA.size ?_; intro A8 c8 wh ho8 hg8 hne8 hnn8; have kB : Below w12.heap.size w12 wh := kA.grown hg8 kA.size (own_base ho7)))
          have h13 := h12.below kB
          have bl3 := bl2.below kB
          rw [← bvals_append] at ho8
          have b8 := own_bytes' ho8 (by omega)
          rw [← Crc.more_append] at u6
          clear h12 bl2 bw2 bv2 ho7 ho8 hg8 hne8 hnn8 kA hBg
          go_wp2_with fail
          refine (sum_any _ _ _ _ _ h13.st).mono ?_
          rintro e w14 ⟨rfl, rfl⟩
          go_wp2_with fail
          refine (refOf_any _ _ _ _ _ b8).mono ?_
          rintro e w14 ⟨x8, rfl, u8, rfl⟩
          obtain rfl : x8 = x6 := u8.trans u6.symm
          go_wp2_with fail
          refine (len_any _ _ _ _ _ h13.st).mono ?_
          rintro e w14 ⟨rfl, rfl⟩
          go_wp2_with fail
          refine (refOf_any _ _ _ _ _ bl3).mono ?_
          rintro e w14 ⟨x9, rfl, u9, rfl⟩
          obtain rfl : x9 = x7 := u9.trans u7.symm
          go_wp2_with fail
          go_ret
          exact ⟨by simp, below_then hB1 h13.low hB1.size⟩
end Go.Proofs.Ytgjmhcebhgpidaa
