/- roomy, marked, grown, apart. -/
import Derived.Test.YtodaplkijdjbpaaEqual
namespace Go.Proofs.Ytodaplkijdjbpaa
open Go.RowKit
set_option linter.unusedVariables false
set_option linter.unusedSimpArgs false
set_option maxHeartbeats 800000 in
theorem roomy_any (A : Option Addr) (n c : Nat) (bs : List UInt8) (w : World) (hb : Bytes w A n bs) (hn : n ≤ 1048576) :
    Calls Try.prog 25 #[.slice A n c] w fun e w' => ∃ A' c', e = .returned (.slice A' (n + 80) c') ∧ w'.ownsRow w.heap.size 5 1 (.slice A' (n + 80) c') (n + 80) (bvals (bs ++ List.replicate 80 165)) ∧ Below w.heap.size w w' := by
  have x5 := below_alloc w (.cells #[] 5)
  have o5 : (w.alloc (.cells #[] 5)).ownsRow w.heap.size 5 1 (.slice (some ⟨w.heap.size, 0, none⟩) 0 0) 0 [] := World.ownsRow_made (e := 5) (size := 1) (base := w.heap.size) w #[] 0 (Nat.le_refl _) (by simp [maxLen]) rfl
  have hb5 := hb.below x5
  go_enter Try.func25, Try.ntmps25
  go_wp2_with (at_builtin; (refine wpl_append _ rfl _ _ 30 rfl w.heap.size 5 _ 1 1 Try.underlying30 info_byte7 rfl (by decide) (.slice (some ⟨w.heap.size, 0, none⟩) 0 0) 0 [] rfl o5 A n c _ rfl hb5.rdc (bvals_one _) (by decide) (by decide) (by omega) x5.size ?_); intro A6 c6 w6 ho6 hg6 hne6 hnn6; simp only [Nat.zero_add, List.nil_append] at ho6 ⊢)
  have hB6 := x5.grown hg6 x5.size (own_base o5)
  clear hnn6 hne6 hg6 o5 hb5 x5
  go_loopw [3, 7] (fun v i wr => ∃ k : Nat, ∃ A1 c1, k ≤ 80 ∧ i = .int .i64 k ∧ v = .slice A1 (n + k) c1 ∧ wr.ownsRow w.heap.size 5 1 (.slice A1 (n + k) c1) (n + k) (bvals (bs ++ List.replicate k 165)) ∧ Below w.heap.size w wr) (fun _ i _ => 80 - (intOf i).toNat)
  case atStart => exact ⟨0, A6, c6, by omega, rfl, rfl, by simpa using ho6, hB6⟩
  case round =>
    clear ho6 hB6
    obtain ⟨k, A2, c2, hk, rfl, rfl, ho, hB⟩ := hrel
    by_cases hlt : k < 80
    · have hBa := below_alloc wr (.cells #[.int .u8 165] 5)
      have hora := own_below ho hBa
      have hR := rdc_block (heap_alloc_new wr (.cells #[.int .u8 165] 5))
      have hBB := below_then hB hBa hB.size
      go_wp2_with (at_builtin; refine wpl_append _ rfl _ _ 30 rfl w.heap.size 5 _ 1 1 Try.underlying30 info_byte7 rfl (by decide) (.slice A2 (n + k) c2) (n + k) _ rfl hora _ 1 1 [.int .u8 165] rfl hR (by simp [Value.oneCell']) (by decide) (by decide) (by omega) hBB.size ?_; intro A3 c3 wa hown2 hgr2 hne2 hnn2; clear hnn2 hne2)
      have hB3 := hBB.grown hgr2 hBB.size (own_base hora)
      rw [show bvals (bs ++ List.replicate k 165) ++ [Value.int .u8 165] = bvals (bs ++ List.replicate (k + 1) 165) by rw [List.replicate_succ', ← List.append_assoc]; exact (bvals_append _ [165]).symm] at hown2
      go_roundw
      case rel => exact ⟨k + 1, A3, c3, by omega, by go_num, rfl, hown2, hB3⟩
      case measure => simp [intOf]; omega
    · obtain rfl : k = 80 := by omega
      go_wp2
      go_ret
      exact ⟨_, _, rfl, ho, hB⟩
/-- Which mark stands where. -/
theorem marks_at (n m : Nat) (y z : UInt8) (j : Nat) (hj : j < n + m) : (List.replicate n y ++ List.replicate m z).getD j 0 = if j < n then y else z := by
  rw [List.getD_eq_getElem?_getD]
  by_cases h : j < n
  · rw [if_pos h, List.getElem?_append_left (by simpa using h), List.getElem?_replicate, if_pos h]; rfl
  · rw [if_neg h, List.getElem?_append_right (by simpa using h), List.getElem?_replicate, if_pos (by simp; omega)]; rfl
set_option maxHeartbeats 1600000 in
theorem marked_any (A : Option Addr) (l c n m : Nat) (y z : UInt8) (w : World) (hb : Bytes w A l (List.replicate n y ++ List.replicate m z)) :
    Calls Try.prog 32 #[.slice A l c, .int .i64 (n : Nat), .int .u8 ((y.toNat : Nat) : Int), .int .u8 ((z.toNat : Nat) : Int)] w fun e w' => e = .returned (.bool true) ∧ ∃ q, w' = w.drewN q := by
  have hl : n + m = l := by have := hb.1; simpa using this
  have hlm := hb.2.1
  obtain ⟨yi, hyi⟩ : ∃ yi : Int, ((y.toNat : Nat) : Int) = yi := ⟨_, rfl⟩
  obtain ⟨zi, hzi⟩ : ∃ zi : Int, ((z.toNat : Nat) : Int) = zi := ⟨_, rfl⟩
  have HY := Lib.hid (And.intro hyi hzi)
  rw [hyi, hzi]
  clear hyi hzi
  go_enter Try.func32, Try.ntmps32
  go_wp2_with fail
  go_loopw [13] (fun i wr => ∃ k : Nat, k ≤ l ∧ i = .int .i64 k ∧ wr = w) (fun i _ => l - (intOf i).toNat)
  case atStart => exact ⟨0, Nat.zero_le _, rfl, rfl⟩
  case round =>
    obtain ⟨k, hk, rfl, rfl⟩ := hrel
    by_cases hlt : k < l
    · obtain ⟨b1, o1, x1, rfl, q1, e1⟩ := hb.at_ k hlt
      rw [marks_at n m y z k (by omega)] at e1
      have j0 : (0 : Int) ≤ (k : Int) := by omega
      have j1 : (k : Int) < (l : Int) := by omega
      by_cases hkn : k < n
      · rw [if_pos hkn, HY.out.1] at e1
        have k1 : (k : Int) < (n : Int) := by omega
        have k2 : ¬ (n : Int) ≤ (k : Int) := by omega
        have k3 : ¬ n ≤ k := by omega
        subst e1
        go_wp2_with fail
        go_roundw
        case rel => exact ⟨k + 1, hlt, by go_num, trivial⟩
        case measure => simp [intOf]; omega
      · rw [if_neg hkn, HY.out.2] at e1
        have k1 : ¬ (k : Int) < (n : Int) := by omega
        have k2 : (n : Int) ≤ (k : Int) := by omega
        have k3 : n ≤ k := by omega
        subst e1
        go_wp2_with fail
        go_roundw
        case rel => exact ⟨k + 1, hlt, by go_num, trivial⟩
        case measure => simp [intOf]; omega
    · obtain rfl : k = l := by omega
      go_wp2_with fail
      go_ret
      exact ⟨rfl, 0, rfl⟩
end Go.Proofs.Ytodaplkijdjbpaa
