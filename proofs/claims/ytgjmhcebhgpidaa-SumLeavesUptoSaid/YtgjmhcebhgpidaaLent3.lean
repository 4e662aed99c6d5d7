/- The law package's lent: bytes with marked room behind them. -/
import Derived.Test.YtgjmhcebhgpidaaHelp
import Derived.Test.YtgjmhcebhgpidaaFoot
namespace Go.Proofs.Ytgjmhcebhgpidaa
open Go.RowKit
set_option linter.unusedVariables false
set_option linter.unusedSimpArgs false
/-- The marks. -/
def tailL (k : Nat) : List UInt8 := (List.range k).map fun i => UInt8.ofNat (161 + i)
theorem tailL_succ (k : Nat) : tailL (k + 1) = tailL k ++ [UInt8.ofNat (161 + k)] := by
  unfold tailL
  rw [List.range_succ, List.map_append]
  rfl
theorem tailL_length (k : Nat) : (tailL k).length = k := by simp [tailL]
theorem lent_byte (k : Nat) (hk : k < 70) : (((UInt8.ofNat (161 + k)).toNat : Nat) : Int) = 161 + (k : Int) := by
  rw [UInt8.toNat_ofNat']
  omega
set_option maxHeartbeats 800000 in
theorem lent_any (A : Option Addr) (n c : Nat) (bs : List UInt8) (w : World) (hb : Bytes w A n bs) (hn : n ≤ 140737488355328) :
    Calls Try.prog 21 #[.slice A n c] w fun e w' => ∃ A' c', e = .returned (.slice A' (n + 70) c') ∧ w'.ownsRow w.heap.size 5 1 (.slice A' (n + 70) c') (n + 70) (bvals (bs ++ tailL 70)) ∧ Below w.heap.size w w' := by
  go_enter Try.func21, Try.ntmps21
  go_wp2_with fail
  refine (copied_any _ _ _ _ _ hb hn).mono ?_
  rintro e w1 ⟨A1, c1, rfl, ho1, hb1, -⟩
  go_wp2_with fail
  go_loopw [3, 4] (fun v i wr => ∃ k : Nat, ∃ A1 c1, k ≤ 70 ∧ i = .int .i64 k ∧ v = .slice A1 (n + k) c1 ∧ wr.ownsRow w.heap.size 5 1 (.slice A1 (n + k) c1) (n + k) (bvals (bs ++ tailL k)) ∧ Below w.heap.size w wr) (fun _ i _ => 70 - (intOf i).toNat)
  case atStart => exact ⟨0, A1, c1, by omega, rfl, rfl, by simpa [tailL] using ho1, hb1⟩
  case round =>
    clear ho1 hb1
    obtain ⟨k, A2, c2, hk, rfl, rfl, ho, hB⟩ := hrel
    by_cases hlt : k < 70
    · have hBa := below_alloc wr (.cells #[.int .u8 (161 + (k : Int))] 5)
      have hora := own_below ho hBa
      have hR := rdc_block (heap_alloc_new wr (.cells #[.int .u8 (161 + (k : Int))] 5))
      have hBB := below_then hB hBa hB.size
      have hw : (161 + (k : Int)) % 256 = 161 + (k : Int) := by omega
      have hwr : IntKind.u8.wrap (161 + (k : Int)) = 161 + (k : Int) := by simp [IntKind.wrap, IntKind.signed, IntKind.bits]; omega
      go_wp2_with (at_builtin; refine wpl_append _ rfl (.tmp 11) (.tmp 15) 22 rfl w.heap.size 5 _ 1 1 Try.underlying22 info_byte rfl (by decide) (.slice A2 (n + k) c2) (n + k) _ rfl hora _ 1 1 [.int .u8 (161 + (k : Int))] rfl hR (by simp [Value.oneCell']) (by decide) (by decide) (by omega) hBB.size ?_; intro A3 c3 wa hown2 hgr2 hne2 hnn2; clear hnn2 hne2)
      have hB3 := hBB.grown hgr2 hBB.size (own_base hora)
      rw [show bvals (bs ++ tailL k) ++ [Value.int .u8 (161 + (k : Int))] = bvals (bs ++ tailL (k + 1)) by rw [tailL_succ, ← List.append_assoc, ← lent_byte k hlt]; exact (bvals_append _ [UInt8.ofNat (161 + k)]).symm] at hown2
      go_roundw
      case rel => exact ⟨k + 1, A3, c3, by omega, by go_num, rfl, hown2, hB3⟩
      case measure => simp [intOf]; omega
    · obtain rfl : k = 70 := by omega
      go_wp2
      go_ret
      exact ⟨_, _, rfl, ho, hB⟩
end Go.Proofs.Ytgjmhcebhgpidaa
