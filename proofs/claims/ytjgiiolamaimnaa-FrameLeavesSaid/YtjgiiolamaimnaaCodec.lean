/- Package codec as far as package frame uses it, walked: own, width, Put of 32 bits, Open, Take of 32 bits. -/
import Derived.Test.YtjgiiolamaimnaaFoot
import Derived.Test.YtjgiiolamaimnaaHelp
import Derived.Test.YtjgiiolamaimnaaRef
import Derived.Deep.QuietTactic
import Derived.BigQuiet
import Derived.BigRegion
import Derived.StillTailTactics
import Derived.Deep.RegionHeld3
import Derived.Deep.RegionWith
import Derived.Deep.CutRange
import Derived.Deep.CutBlock
import Derived.Recover
import Derived.Laws.BitsAllLaws
namespace Go.Proofs.Ytjgiiolamaimnaa
open Go.RowKit
set_option linter.unusedVariables false
set_option linter.unusedSimpArgs false
theorem below_drews (w : World) (n : Nat) : Below w.heap.size w (w.drewN n) := ⟨rfl, rfl, rfl, Nat.le_refl _, fun _ _ => rfl⟩
/-- A number in four bytes, the highest first. -/
def four (v : Int) : List UInt8 := [UInt8.ofNat (v / 16777216).toNat, UInt8.ofNat (v / 65536).toNat, UInt8.ofNat (v / 256).toNat, UInt8.ofNat v.toNat]
theorem four_length (v : Int) : (four v).length = 4 := rfl
theorem cown_any (A : Option Addr) (n c : Nat) (bs : List UInt8) (w : World) (hb : Bytes w A n bs) (hn : n ≤ 214748364800000) :
    Calls Try.prog 41 #[.slice A n c] w fun e w' => ∃ A' c', e = .returned (.slice A' n c') ∧ w'.ownsRow w.heap.size 5 1 (.slice A' n c') n (bvals bs) ∧ Below w.heap.size w w' := by
  have H0 := World.ownsRow_nil w w.heap.size 5 1
  go_enter Try.func41, Try.ntmps41
  go_wp2_with (at_builtin; refine wpl_append _ rfl _ _ 22 rfl w.heap.size 5 _ 1 1 Try.underlying22 info_byte rfl (by decide) (.slice none 0 0) 0 [] rfl H0 A n c (bvals bs) rfl hb.rdc (bvals_one bs) (by decide) (by decide) (by omega) (by simp) ?_; intro A' c' w' hown hgr hne hnn; simp only [Nat.zero_add, List.nil_append] at hown ⊢; clear hnn hne)
  go_ret
  exact ⟨A', c', rfl, hown, (Below.refl _ w).grown hgr (by simp) (fun k h => by simp [Value.ownBlock] at h)⟩
theorem width_any (w : World) : Calls Try.prog 42 #[] w fun e w' => e = .returned (.int .i64 4) ∧ w = w' := by
  go_enter Try.func42, Try.ntmps42
  go_wp2
  go_loop [1, 2] (fun n all => (n = .int .i64 0 ∧ all = .int .u64 4294967295) ∨ (n = .int .i64 1 ∧ all = .int .u64 16777215) ∨ (n = .int .i64 2 ∧ all = .int .u64 65535) ∨ (n = .int .i64 3 ∧ all = .int .u64 255) ∨ (n = .int .i64 4 ∧ all = .int .u64 0)) (fun n _ => 4 - (intOf n).toNat)
  case atStart => exact .inl ⟨rfl, rfl⟩
  case round =>
    rcases hrel with ⟨rfl, rfl⟩ | ⟨rfl, rfl⟩ | ⟨rfl, rfl⟩ | ⟨rfl, rfl⟩ | ⟨rfl, rfl⟩
    · go_wp2
      go_round
      case rel => exact .inr (.inl ⟨rfl, rfl⟩)
      case measure => simp [intOf]
    · go_wp2
      go_round
      case rel => exact .inr (.inr (.inl ⟨rfl, rfl⟩))
      case measure => simp [intOf]
    · go_wp2
      go_round
      case rel => exact .inr (.inr (.inr (.inl ⟨rfl, rfl⟩)))
      case measure => simp [intOf]
    · go_wp2
      go_round
      case rel => exact .inr (.inr (.inr (.inr ⟨rfl, rfl⟩)))
      case measure => simp [intOf]
    · go_wp2
      go_ret
      exact ⟨rfl, rfl⟩
theorem four_succ (v : Int) (k : Nat) (h : k < 4) : (four v).take (k + 1) = (four v).take k ++ [(four v).getD k 0] := by
  have h' : k < (four v).length := by rw [four_length]; exact h
  rw [List.getD_eq_getElem?_getD, List.getElem?_eq_getElem h']
  exact List.take_succ_eq_append_getElem h'
theorem u8_of (x : Int) (h : 0 ≤ x) : IntKind.u8.wrap x = (((UInt8.ofNat x.toNat).toNat : Nat) : Int) := by
  have h1 : IntKind.u8.wrap x = x % 256 := IntKind.wrap_u8' x
  rw [h1, UInt8.toNat_ofNat']
  omega
set_option maxHeartbeats 800000 in
theorem put_any (A : Option Addr) (n c : Nat) (bs : List UInt8) (v : Int) (w : World) (hb : Bytes w A n bs) (hn : n ≤ 140737488355328) (v0 : 0 ≤ v) (v1 : v ≤ 4294967295) :
    Calls Try.prog 33 #[.slice A n c, .int .u32 v] w fun e w' => ∃ A' c', e = .returned (.slice A' (n + 4) c') ∧ w'.ownsRow w.heap.size 5 1 (.slice A' (n + 4) c') (n + 4) (bvals (bs ++ four v)) ∧ Below w.heap.size w w' := by
  have HL := Lib.hid hb.1
  go_enter Try.func33, Try.ntmps33
  go_wp2_with fail
  refine (cown_any A n c bs _ hb (by omega)).mono ?_
  rintro e w1 ⟨A1, c1, rfl, ho1, hb1⟩
  go_wp2_with (go_at_call 42; refine (width_any _).mono ?_; rintro e w' ⟨rfl, rfl⟩)
  have ho0 : w1.ownsRow w.heap.size 5 1 (.slice A1 (n + 0) c1) (n + 0) (bvals (bs ++ (four v).take 0)) := by simpa using ho1
  go_loopw [0, 5] (fun f i wr => ∃ k : Nat, ∃ j : Int, ∃ F fc, k ≤ 4 ∧ j + k = 3 ∧ i = .int .i64 j ∧ f = .slice F (n + k) fc ∧ wr.ownsRow w.heap.size 5 1 (.slice F (n + k) fc) (n + k) (bvals (bs ++ (four v).take k)) ∧ Below w.heap.size w wr) (fun _ i _ => (intOf i + 1).toNat)
  case atStart => exact ⟨0, 3, A1, c1, by omega, by omega, rfl, rfl, ho0, hb1⟩
  case round =>
    clear ho0 ho1 hb1
    obtain ⟨k, j, F, fc, hk, hj, rfl, rfl, ho, hB⟩ := hrel
    by_cases hlt : k < 4
    · have hsz := hB.size
      obtain rfl | rfl | rfl | rfl : k = 0 ∨ k = 1 ∨ k = 2 ∨ k = 3 := by omega
      · obtain rfl : j = 3 := by omega
        have hx : (v / 16777216 : Int) = ((((four v).getD 0 0).toNat : Nat) : Int) := by simp [four]; omega
        have HX := Lib.hid hx
        have hba := below_alloc wr (.cells #[.int .u8 (v / 16777216)] 5)
        have hoa := own_below ho hba
        have hBa := below_then hB hba hsz
        have hsa := hBa.size
        clear hx ho hba
        go_wp2_with (at_builtin; (refine wpl_append _ rfl _ _ 22 rfl w.heap.size 5 _ 1 1 Try.underlying22 info_byte rfl (by decide) (.slice F (n + 0) fc) (n + 0) _ rfl hoa _ 1 1 [_] rfl (rdc_block (cs := #[_]) (t := 5) (fr := (0, 0)) (heap_alloc_new _ _)) (by simp [Value.oneCell']) (by decide) (by decide) (by omega) hsa ?_); intro F6 c6 w6 ho6 hg6 hne6 hnn6; clear hnn6 hne6)
        have hb6 : Below w.heap.size w w6 := hBa.grown hg6 hsa (own_base hoa)
        go_roundw
        case rel => exact ⟨1, _, F6, c6, by omega, by omega, rfl, rfl, by rw [four_succ v 0 (by omega), ← List.append_assoc, bvals_append, show bvals [(four v).getD 0 0] = [.int .u8 ((((four v).getD 0 0).toNat : Nat) : Int)] from rfl, ← HX.out]; exact ho6, hb6⟩
        case measure => simp [intOf]
      · obtain rfl : j = 2 := by omega
        have hx : (v / 65536 % 256 : Int) = ((((four v).getD 1 0).toNat : Nat) : Int) := by simp [four]; omega
        have HX := Lib.hid hx
        have hba := below_alloc wr (.cells #[.int .u8 (v / 65536 % 256)] 5)
        have hoa := own_below ho hba
        have hBa := below_then hB hba hsz
        have hsa := hBa.size
        clear hx ho hba
        go_wp2_with (at_builtin; (refine wpl_append _ rfl _ _ 22 rfl w.heap.size 5 _ 1 1 Try.underlying22 info_byte rfl (by decide) (.slice F (n + 1) fc) (n + 1) _ rfl hoa _ 1 1 [_] rfl (rdc_block (cs := #[_]) (t := 5) (fr := (0, 0)) (heap_alloc_new _ _)) (by simp [Value.oneCell']) (by decide) (by decide) (by omega) hsa ?_); intro F6 c6 w6 ho6 hg6 hne6 hnn6; clear hnn6 hne6)
        have hb6 : Below w.heap.size w w6 := hBa.grown hg6 hsa (own_base hoa)
        go_roundw
        case rel => exact ⟨2, _, F6, c6, by omega, by omega, rfl, rfl, by rw [four_succ v 1 (by omega), ← List.append_assoc, bvals_append, show bvals [(four v).getD 1 0] = [.int .u8 ((((four v).getD 1 0).toNat : Nat) : Int)] from rfl, ← HX.out]; exact ho6, hb6⟩
        case measure => simp [intOf]
      · obtain rfl : j = 1 := by omega
        have hx : (v / 256 % 256 : Int) = ((((four v).getD 2 0).toNat : Nat) : Int) := by simp [four]; omega
        have HX := Lib.hid hx
        have hba := below_alloc wr (.cells #[.int .u8 (v / 256 % 256)] 5)
        have hoa := own_below ho hba
        have hBa := below_then hB hba hsz
        have hsa := hBa.size
        clear hx ho hba
        go_wp2_with (at_builtin; (refine wpl_append _ rfl _ _ 22 rfl w.heap.size 5 _ 1 1 Try.underlying22 info_byte rfl (by decide) (.slice F (n + 2) fc) (n + 2) _ rfl hoa _ 1 1 [_] rfl (rdc_block (cs := #[_]) (t := 5) (fr := (0, 0)) (heap_alloc_new _ _)) (by simp [Value.oneCell']) (by decide) (by decide) (by omega) hsa ?_); intro F6 c6 w6 ho6 hg6 hne6 hnn6; clear hnn6 hne6)
        have hb6 : Below w.heap.size w w6 := hBa.grown hg6 hsa (own_base hoa)
        go_roundw
        case rel => exact ⟨3, _, F6, c6, by omega, by omega, rfl, rfl, by rw [four_succ v 2 (by omega), ← List.append_assoc, bvals_append, show bvals [(four v).getD 2 0] = [.int .u8 ((((four v).getD 2 0).toNat : Nat) : Int)] from rfl, ← HX.out]; exact ho6, hb6⟩
        case measure => simp [intOf]
      · obtain rfl : j = 0 := by omega
        have hx : (v % 256 : Int) = ((((four v).getD 3 0).toNat : Nat) : Int) := by simp [four]; omega
        have HX := Lib.hid hx
        have hba := below_alloc wr (.cells #[.int .u8 (v % 256)] 5)
        have hoa := own_below ho hba
        have hBa := below_then hB hba hsz
        have hsa := hBa.size
        clear hx ho hba
        go_wp2_with (at_builtin; (refine wpl_append _ rfl _ _ 22 rfl w.heap.size 5 _ 1 1 Try.underlying22 info_byte rfl (by decide) (.slice F (n + 3) fc) (n + 3) _ rfl hoa _ 1 1 [_] rfl (rdc_block (cs := #[_]) (t := 5) (fr := (0, 0)) (heap_alloc_new _ _)) (by simp [Value.oneCell']) (by decide) (by decide) (by omega) hsa ?_); intro F6 c6 w6 ho6 hg6 hne6 hnn6; clear hnn6 hne6)
        have hb6 : Below w.heap.size w w6 := hBa.grown hg6 hsa (own_base hoa)
        go_roundw
        case rel => exact ⟨4, _, F6, c6, by omega, by omega, rfl, rfl, by rw [four_succ v 3 (by omega), ← List.append_assoc, bvals_append, show bvals [(four v).getD 3 0] = [.int .u8 ((((four v).getD 3 0).toNat : Nat) : Int)] from rfl, ← HX.out]; exact ho6, hb6⟩
        case measure => simp [intOf]
    · obtain rfl : k = 4 := by omega
      obtain rfl : j = -1 := by omega
      go_wp2
      go_ret
      exact ⟨F, fc, rfl, ho, hB⟩
/-- A reader of bytes, as Open makes it. -/
def OpenRet (bs : List UInt8) (n : Nat) (w : World) (e : Ending) (w' : World) : Prop :=
  ∃ g A' c', e = .returned (.pointer (some ⟨g, 0, none⟩)) ∧ w.heap.size ≤ g ∧ Blk w' g #[.slice A' n c', .int .i64 0, .int .i64 0] 78 ∧ w'.ownsRow w.heap.size 5 1 (.slice A' n c') n (bvals bs) ∧ Below w.heap.size w w'
theorem copen_any (A : Option Addr) (n c : Nat) (bs : List UInt8) (w : World) (hb : Bytes w A n bs) (hn : n ≤ 214748364800000) :
    Calls Try.prog 45 #[.slice A n c] w (OpenRet bs n w) := by
  go_enter Try.func45, Try.ntmps45
  go_wp2_with fail
  refine (cown_any A n c bs _ hb hn).mono ?_
  rintro e w1 ⟨A1, c1, rfl, ho1, hb1⟩
  have hba := below_alloc w1 (.cells #[.slice A1 n c1, .int .i64 0, .int .i64 0] 78)
  have hB := Blk.fresh w1 #[.slice A1 n c1, .int .i64 0, .int .i64 0] 78
  go_wp2_with fail
  go_ret
  exact ⟨w1.heap.size, A1, c1, rfl, hb1.size, hB, own_below ho1 hba, below_then hb1 hba hb1.size⟩
/-- Four bytes taken off. -/
def TakeRet (b g n c : Nat) (w : World) (e : Ending) (w' : World) : Prop :=
  e = .returned (.slice (some ⟨b, 0, none⟩) 4 c) ∧ Blk w' g #[.slice (some ⟨b, 0, none⟩) n c, .int .i64 4, .int .i64 0] 78 ∧ Chg (fun q => q = g) w w'
set_option maxHeartbeats 800000 in
theorem ctake_any (g b n c : Nat) (w : World) (hB : Blk w g #[.slice (some ⟨b, 0, none⟩) n c, .int .i64 0, .int .i64 0] 78) (hn : 4 ≤ n) (hn2 : n ≤ 214748364800000) (hc : n ≤ c) :
    Calls Try.prog 50 #[.pointer (some ⟨g, 0, none⟩), .int .i64 4] w (TakeRet b g n c w) := by
  have c0 : w.cell? ⟨g, 0, none⟩ = _ := hB.cell 0
  have c1 : w.cell? ⟨g, 1, none⟩ = _ := hB.cell 1
  have f1 := hB.frozen 1
  simp at c0 c1
  have t1 : decide ((n : Int) < 4) = false := decide_eq_false (by omega)
  go_enter Try.func50, Try.ntmps50
  go_wp2_with fail
  go_quiet (fail)
  go_wp2_with fail
  have hS : Blk ((w.drewN nq).setCell ⟨g, 1, none⟩ (.int .i64 4)) g #[.slice (some ⟨b, 0, none⟩) n c, .int .i64 4, .int .i64 0] 78 := Blk.set (w := w.drewN nq) hB 1 (.int .i64 4)
  have hC : Chg (fun q => q = g) w ((w.drewN nq).setCell ⟨g, 1, none⟩ (.int .i64 4)) := ((Chg.refl (fun q => q = g) w).then_ (below_drews w nq)).set (g := g) (.inl rfl) 1 _
  generalize (w.drewN nq).setCell ⟨g, 1, none⟩ (.int .i64 4) = w2 at *
  have d0 : w2.cell? ⟨g, 0, none⟩ = _ := hS.cell 0
  have d1 : w2.cell? ⟨g, 1, none⟩ = _ := hS.cell 1
  simp at d0 d1
  have i1 : (4 : Int) ≤ (c : Int) := by omega
  clear c0 c1 f1 hB t1
  go_quiet (fail)
  go_wp2_with fail
  go_ret
  exact ⟨rfl, hS, hC.then_ (below_drews _ _)⟩
/-- What k bytes say, the highest first. -/
def num (bs : List UInt8) : Nat → Int
  | 0 => 0
  | k + 1 => num bs k * 256 + (((bs.getD k 0).toNat : Nat) : Int)
theorem num_nonneg (bs : List UInt8) : ∀ k, 0 ≤ num bs k
  | 0 => Int.le_refl _
  | k + 1 => by have := num_nonneg bs k; unfold num; omega
theorem num_lt (bs : List UInt8) : num bs 4 < 4294967296 := by
  have h0 := byte_lt (bs.getD 0 0)
  have h1 := byte_lt (bs.getD 1 0)
  have h2 := byte_lt (bs.getD 2 0)
  have h3 := byte_lt (bs.getD 3 0)
  simp only [num]
  omega
theorem num_small (bs : List UInt8) (k : Nat) (h : k < 4) : num bs k < 16777216 := by
  have h0 := byte_lt (bs.getD 0 0)
  have h1 := byte_lt (bs.getD 1 0)
  have h2 := byte_lt (bs.getD 2 0)
  obtain rfl | rfl | rfl | rfl : k = 0 ∨ k = 1 ∨ k = 2 ∨ k = 3 := by omega
  all_goals simp only [num]; omega
theorem or_byte (x m : Int) (x0 : 0 ≤ x) (x1 : x < 16777216) (m0 : 0 ≤ m) (m1 : m < 256) : bits .or .u64 (x * 256) m = x * 256 + m := by
  rw [u64_or _ _ (by omega) (by omega) m0 (by omega), nat_join 8 _ _ (by omega) (by omega)]
  omega
/-- What the closure leaves. -/
def NumRet (g q : Nat) (v : Int) (w : World) (e : Ending) (w' : World) : Prop :=
  e = .returned (.tuple #[]) ∧ Blk w' q #[.int .u64 v] 67 ∧ Chg (fun k => k = g ∨ k = q) w w'
set_option maxHeartbeats 800000 in
theorem ctaking_any (p q g b n c : Nat) (bs : List UInt8) (w : World) (hp : Blk w p #[.pointer (some ⟨g, 0, none⟩)] 70) (hq : Blk w q #[.int .u64 0] 67) (hB : Blk w g #[.slice (some ⟨b, 0, none⟩) n c, .int .i64 0, .int .i64 0] 78) (hb : Bytes w (some ⟨b, 0, none⟩) n bs) (hn : 4 ≤ n) (hn2 : n ≤ 214748364800000) (hc : n ≤ c)
    (hbg : b ≠ g) (hbq : b ≠ q) (hqg : q ≠ g) (hpg : p ≠ g) :
    Calls Try.prog 49 #[.pointer (some ⟨p, 0, none⟩), .pointer (some ⟨q, 0, none⟩)] w (NumRet g q (num bs 4) w) := by
  have c0 : w.cell? ⟨p, 0, none⟩ = _ := hp.cell 0
  simp at c0
  go_enter Try.func49, Try.ntmps49
  go_wp2_with fail
  go_region_held3 (fun w' => w'.cell? ⟨p, 0, none⟩ = some (.pointer (some ⟨g, 0, none⟩)))
    (first | exact c0 | exact kS)
    (first | (go_at_call 42; refine (width_any _).mono ?_; rintro e w' ⟨rfl, rfl⟩) | (go_at_call 50; refine (ctake_any g b n c _ (by exact hB) hn hn2 hc).mono ?_; rintro e w1 ⟨rfl, hB1, hC1⟩; have kS := hC1.cell (by exact c0) hpg))
  all_goals
    have hb1 : Bytes w1 (some ⟨b, 0, none⟩) n bs := hb.chg (w' := w1) ⟨hC1.os, hC1.tape, hC1.output, hC1.size, hC1.block⟩ (fun k e e2 => hbg (by simpa [blkO, e2] using e))
    have hq1 : Blk w1 q #[.int .u64 0] 67 := Blk.chg (w := w.drew) hq hC1 hqg
    have hC2 : Chg (fun k => k = g ∨ k = q) w w1 := Chg.mono ⟨hC1.os, hC1.tape, hC1.output, hC1.size, hC1.block⟩ (fun k e => .inl e)
    clear kS hB1 hC1 c0 hp hq hB hb
    go_wp2_with fail
    go_loopw [8] (fun i wr => ∃ k : Nat, k ≤ 4 ∧ i = .int .i64 k ∧ Blk wr q #[.int .u64 (num bs k)] 67 ∧ Bytes wr (some ⟨b, 0, none⟩) n bs ∧ Chg (fun k => k = g ∨ k = q) w wr) (fun i _ => 4 - (intOf i).toNat)
    case atStart => exact ⟨0, by omega, rfl, hq1, hb1, hC2⟩
    case round =>
      clear hq1 hb1 hC2
      obtain ⟨k, hk, rfl, hq, hb, hC⟩ := hrel
      by_cases hlt : k < 4
      · have s0 := num_nonneg bs k
        have s1 := num_small bs k hlt
        obtain ⟨b', o', m, he, hm, hm2⟩ := hb.at_ k (by omega)
        injection he with he
        injection he with he1 he2 _
        subst he1; subst he2
        have hm0 := byte_lt (bs.getD k 0)
        have HM := Lib.hid hm2
        have m0 : 0 ≤ m := by omega
        have m1 : m < 256 := by omega
        clear hm2 hm0
        rw [Nat.zero_add] at hm
        have q0 : wr.cell? ⟨q, 0, none⟩ = _ := hq.cell 0
        have f0 := hq.frozen 0
        simp at q0
        have i0 : (0 : Int) ≤ (k : Int) := by omega
        have i1 : (k : Int) < 4 := by omega
        have ho := or_byte _ m s0 s1 m0 m1
        have HO := Lib.hid ho
        clear ho
        go_wp2_with fail
        go_roundw
        case rel => exact ⟨k + 1, by omega, by go_num, by rw [HO.out, HM.out]; exact hq.set 0 _, hb.chg (chg_set _ _ _ _) (fun k e e2 => hbq (by simpa [blkO, e2] using e)), hC.set (g := q) (.inl (.inr rfl)) 0 _⟩
        case measure => simp [intOf]; omega
      · obtain rfl : k = 4 := by omega
        go_wp2_with fail
        go_end0
        exact ⟨rfl, hq, hC⟩
end Go.Proofs.Ytjgiiolamaimnaa
