/- The law SumThree, walked. -/
import Derived.Test.YtgjmhcebhgpidaaHead
import Derived.StillTailTactics
import Derived.WalkLawsBesides
import Derived.Deep.RegionHeld3
import Derived.Test.YtgjmhcebhgpidaaTurned
namespace Go.Proofs.Ytgjmhcebhgpidaa
open Go.RowKit
theorem zip3_take (ds bs cs : List UInt8) (k : Nat) (h1 : k < ds.length) (h2 : k < bs.length) (h3 : k < cs.length) :
    Crc.zip3 (ds.take (k + 1)) (bs.take (k + 1)) (cs.take (k + 1)) = Crc.zip3 (ds.take k) (bs.take k) (cs.take k) ++ [ds.getD k 0 ^^^ bs.getD k 0 ^^^ cs.getD k 0] := by
  induction k generalizing ds bs cs with
  | zero =>
    match ds, bs, cs, h1, h2, h3 with
    | a :: ds, b :: bs, c :: cs, _, _, _ => simp [Crc.zip3]
  | succ k ih =>
    match ds, bs, cs, h1, h2, h3 with
    | a :: ds, b :: bs, c :: cs, h1, h2, h3 =>
      have := ih ds bs cs (by simpa using h1) (by simpa using h2) (by simpa using h3)
      simp only [List.take_succ_cons, Crc.zip3, List.cons_append, List.getD_cons_succ, this]
theorem zip3_length (ds bs cs : List UInt8) (h1 : ds.length = bs.length) (h2 : ds.length = cs.length) : (Crc.zip3 ds bs cs).length = ds.length := by
  induction ds generalizing bs cs with
  | nil => rfl
  | cons a ds ih =>
    match bs, cs, h1, h2 with
    | b :: bs, c :: cs, h1, h2 => simp only [Crc.zip3, List.length_cons]; rw [ih bs cs (by simpa using h1) (by simpa using h2)]
theorem zip3_len (ds bs cs : List UInt8) (k : Nat) (h1 : k ≤ ds.length) (h2 : k ≤ bs.length) (h3 : k ≤ cs.length) : (Crc.zip3 (ds.take k) (bs.take k) (cs.take k)).length = k := by
  rw [zip3_length _ _ _ (by simp; omega) (by simp; omega)]; simp; omega
theorem xor_byte (a b : UInt8) : bits .xor .u8 ((a.toNat : Nat) : Int) ((b.toNat : Nat) : Int) = (((a ^^^ b).toNat : Nat) : Int) := by
  rw [u8_xor_nat _ _ a.toNat_lt b.toNat_lt]; simp
/-- What the three calls leave as it is. -/
structure S3 (w : World) (A B C F : Option Addr) (k : Nat) (xs ys zs fs : List UInt8) (w' : World) : Prop where
  a : Bytes w' A k xs
  b : Bytes w' B k ys
  c : Bytes w' C k zs
  f : Bytes w' F k fs
  w : Below w.heap.size w w'
theorem S3.below {w w1 w2 : World} {A B C F : Option Addr} {k : Nat} {xs ys zs fs : List UInt8} (h : S3 w A B C F k xs ys zs fs w1) (hb : Below w1.heap.size w1 w2) : S3 w A B C F k xs ys zs fs w2 :=
  ⟨h.a.below hb, h.b.below hb, h.c.below hb, h.f.below hb, below_then h.w hb h.w.size⟩
theorem S3.drew {w w1 : World} {A B C F : Option Addr} {k : Nat} {xs ys zs fs : List UInt8} (h : S3 w A B C F k xs ys zs fs w1) : S3 w A B C F k xs ys zs fs w1.drew := h.below (Below.refl _ _).drew
set_option maxHeartbeats 400000 in
theorem sumThree_any (A B C : Option Addr) (la ca lb cb lc cc : Nat) (as_ bs cs : List UInt8) (w : World) (ha : Bytes w A la as_) (hb : Bytes w B lb bs) (hc : Bytes w C lc cs) (hla : la ≤ 140737488355328) (hca : la ≤ ca) (hcb : lb ≤ cb) (hcc : lc ≤ cc) :
    Calls Try.prog 6 #[.slice A la ca, .slice B lb cb, .slice C lc cc] w fun e w' => e = .returned (.bool true) ∧ Below w.heap.size w w' := by
  obtain ⟨n, hn, hna, hnb, hnc⟩ : ∃ n : Nat, (if (lc : Int) < (if (lb : Int) < (la : Int) then (lb : Int) else (la : Int)) then (lc : Int) else (if (lb : Int) < (la : Int) then (lb : Int) else (la : Int))) = (n : Int) ∧ n ≤ la ∧ n ≤ lb ∧ n ≤ lc := by
    by_cases h1 : (lb : Int) < (la : Int)
    · simp only [if_pos h1]
      by_cases h2 : (lc : Int) < (lb : Int)
      · exact ⟨lc, by rw [if_pos h2], by omega, by omega, by omega⟩
      · exact ⟨lb, by rw [if_neg h2], by omega, by omega, by omega⟩
    · simp only [if_neg h1]
      by_cases h2 : (lc : Int) < (la : Int)
      · exact ⟨lc, by rw [if_pos h2], by omega, by omega, by omega⟩
      · exact ⟨la, by rw [if_neg h2], by omega, by omega, by omega⟩
  have hmin : ∀ W : World, (Builtin.min_ #[3, 3, 3] 3 #[.int .i64 (la : Int), .int .i64 (lb : Int), .int .i64 (lc : Int)]).run Try.prog W = .ok (.int .i64 (n : Int)) W := by
    intro W
    rw [run_min_int3, hn]
  clear hn
  go_enter Try.func6, Try.ntmps6
  go_wp2_with (go_at_call 12; refine (head_any _).mono ?_; rintro e w1 ⟨rfl, hB1⟩)
  have hal := Lib.hid ha.1
  have hbl := Lib.hid hb.1
  have hcl := Lib.hid hc.1
  have H0 := World.ownsRow_made (e := 5) (size := 1) w1 #[] 0 hB1.size (by simp [maxLen]) rfl
  have hBs := hB1.alloc hB1.size (.cells #[] 5)
  go_loopw [8, 9] (fun v i wr => ∃ k : Nat, k ≤ n ∧ i = .int .i64 k ∧ ∃ A' c', v = .slice A' k c' ∧ wr.ownsRow w.heap.size 5 1 (.slice A' k c') k (bvals (Crc.zip3 (as_.take k) (bs.take k) (cs.take k))) ∧ Below w.heap.size w wr) (fun _ i _ => n - (intOf i).toNat)
  case atStart => exact ⟨0, by omega, rfl, _, _, rfl, H0, hBs⟩
  case round =>
    obtain ⟨k, hk, rfl, A', c', rfl, hor, hBr⟩ := hrel
    by_cases hlt : k < n
    · obtain ⟨ba, oa, xa, rfl, hea, hxa⟩ := (ha.below hBr).at_ k (by omega)
      obtain ⟨bb, ob, xb, rfl, heb, hxb⟩ := (hb.below hBr).at_ k (by omega)
      obtain ⟨bc, oc, xc, rfl, hec, hxc⟩ := (hc.below hBr).at_ k (by omega)
      have hx : bits .xor .u8 (bits .xor .u8 xa xb) xc = (((as_.getD k 0 ^^^ bs.getD k 0 ^^^ cs.getD k 0).toNat : Nat) : Int) := by rw [hxa, hxb, hxc, xor_byte, xor_byte]
      have HX := Lib.hid hx
      clear hx hxa hxb hxc
      have qA : w.cell? ⟨ba, oa + k, none⟩ = some (.int .u8 xa) := (ha.same hBr k (by omega)).trans hea
      have qB : w.cell? ⟨bb, ob + k, none⟩ = some (.int .u8 xb) := (hb.same hBr k (by omega)).trans heb
      have qC : w.cell? ⟨bc, oc + k, none⟩ = some (.int .u8 xc) := (hc.same hBr k (by omega)).trans hec
      have hka : k < la := by omega
      have hkb : k < lb := by omega
      have hkc : k < lc := by omega
      go_wp2_with fail
      go_region_held3 (fun w' => w'.cell? ⟨ba, oa + k, none⟩ = some (.int .u8 xa) ∧ w'.cell? ⟨bb, ob + k, none⟩ = some (.int .u8 xb) ∧ w'.cell? ⟨bc, oc + k, none⟩ = some (.int .u8 xc))
        (first | go_keep | (go_split_ands; exact ⟨kA, kB, kC⟩))
        (first | (refine step_append_any _ (by rfl) (.tmp 26) (.tmp 41) 22 (by rfl) w.heap.size 5 _ 1 1 Try.underlying22 info_byte rfl (by decide) (.slice A' k c') k _ (by rfl) ((hor.alloc _).drew) _ 1 1 [_] (by rfl) (rdc_block (cs := #[_]) (t := 5) (fr := (0, 0)) (heap_alloc_new _ _)) (by simp [Value.oneCell']) (by decide) (by decide) (by omega) (by simp; have := hBr.size; omega) ?_; intro A2 c2 w2 hown2 hgrow2 hne2 hnn2; have hB2 := ((hBr.drew).alloc (by exact hBr.size) _).grown hgrow2 (by simp; have := hBr.size; omega) (own_base hor); have kA := (hB2.cell (p := ⟨ba, oa + k, none⟩) (block_lt_of_cell qA)).trans qA; have kB := (hB2.cell (p := ⟨bb, ob + k, none⟩) (block_lt_of_cell qB)).trans qB; have kC := (hB2.cell (p := ⟨bc, oc + k, none⟩) (block_lt_of_cell qC)).trans qC))
      have hrow : w2.ownsRow w.heap.size 5 1 (.slice A2 (k + 1) c2) (k + 1) (bvals (Crc.zip3 (as_.take (k + 1)) (bs.take (k + 1)) (cs.take (k + 1)))) := by
        have e0 := HX.out
        have e1 := hal.out
        have e2 := hbl.out
        have e3 := hcl.out
        rw [zip3_take _ _ _ _ (by omega) (by omega) (by omega), bvals_append]
        have : bvals [as_.getD k 0 ^^^ bs.getD k 0 ^^^ cs.getD k 0] = [Value.int .u8 (bits .xor .u8 (bits .xor .u8 xa xb) xc)] := by rw [e0]; rfl
        rw [this]
        exact hown2
      clear hown2 hgrow2 hne2 hnn2 kA kB kC qA qB qC hea heb hec
      go_wp2
      go_roundw
      case rel => exact ⟨k + 1, by omega, by go_num, _, _, rfl, hrow, hB2⟩
      case measure => simp [intOf]; omega
    · obtain rfl : k = n := by omega
      have hA := (ha.take k hna).below hBr
      have hBb := (hb.take k hnb).below hBr
      have hC := (hc.take k hnc).below hBr
      have hF := own_bytes' hor (by omega)
      have k0 : (0 : Int) ≤ (k : Int) := Int.natCast_nonneg _
      have k1 : (k : Int) ≤ (ca : Int) := by omega
      have k2 : (k : Int) ≤ (cb : Int) := by omega
      have k3 : (k : Int) ≤ (cc : Int) := by omega
      go_wp2_with fail
      go_region_held3 (S3 w A B C A' k (as_.take k) (bs.take k) (cs.take k) (Crc.zip3 (as_.take k) (bs.take k) (cs.take k)))
        (first | exact kS | exact (S3.mk hA hBb hC hF hBr).drew)
        (first | (go_at_call 11; refine (copied_any _ _ _ _ _ (by first | exact S3.a (by assumption) | exact S3.b (by assumption) | exact S3.c (by assumption)) (by omega)).mono ?_; rintro e w3 ⟨A3, c3, rfl, ho3, hB3, -⟩; have hb3 := own_bytes' ho3 (by omega); have kS := S3.below (by assumption) hB3) | (go_at_call 13; refine (of_any _ _ _ _ _ (by assumption)).mono ?_; rintro e w3 ⟨n3, rfl, u3, hB3⟩; have kS := S3.below (by assumption) hB3))
      have u1 := ‹U _ (Crc.more 0 (as_.take k))›
      have u2 := ‹U _ (Crc.more 0 (bs.take k))›
      have u3 := ‹U _ (Crc.more 0 (cs.take k))›
      have ux := (u1.xor u2).xor u3
      clear u1 u2 u3
      go_wp2_with fail
      refine (of_any _ _ _ _ _ (S3.f (by assumption))).mono ?_
      rintro e w9 ⟨n9, rfl, u9, hB9⟩
      have hBz := S3.w (by assumption)
      have hBy := below_then hBz hB9 hBz.size
      have e1 := hal.out
      have e2 := hbl.out
      have e3 := hcl.out
      rw [Crc.more_three _ _ _ (by simp; omega) (by simp; omega)] at u9
      have hfin : n9 = _ := u9.trans ux.symm
      have HF := Lib.hid hfin
      clear hfin e1 e2 e3
      go_wp2
      go_ret
      exact ⟨by rw [HF.out]; simp, hBy⟩
end Go.Proofs.Ytgjmhcebhgpidaa
