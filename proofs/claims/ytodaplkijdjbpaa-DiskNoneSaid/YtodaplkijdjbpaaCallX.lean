/- The law package's call, a step of another kind. -/
import Derived.Test.YtodaplkijdjbpaaCall0
namespace Go.Proofs.Ytodaplkijdjbpaa
open Go.RowKit
set_option linter.unusedVariables false
set_option linter.unusedSimpArgs false
set_option maxHeartbeats 1600000 in
set_option maxRecDepth 100000 in
theorem call_X {w : World} {G pb K L : Nat} {ls : Nat → Loc} {P : Pd} {v : Value} {s : Ps} {A : Option Addr} (h : DAt w G pb ls P K) (hs : PsAt w v s A) (hk : K ≤ L) (h0 : s.k < 0 ∨ 10 < s.k) :
    Calls Try.prog 16 #[.pointer (some ⟨G, 0, none⟩), v] w (CallTo w G pb ls P L s) := by
  obtain ⟨⟨C, m, c, n, d, rfl, hP, hF⟩, b0, b1⟩ := hs
  obtain ⟨k, i, a, b, p, f⟩ := s
  simp only at h0 hP hF b0 b1
  have n0 : k ≠ 0 := by omega
  have n1 : k ≠ 1 := by omega
  have n2 : k ≠ 2 := by omega
  have n3 : k ≠ 3 := by omega
  have n4 : k ≠ 4 := by omega
  have n5 : k ≠ 5 := by omega
  have n6 : k ≠ 6 := by omega
  have n7 : k ≠ 7 := by omega
  have n8 : k ≠ 8 := by omega
  have n9 : k ≠ 9 := by omega
  have n10 : k ≠ 10 := by omega
  have ht : P.told ⟨k, i, a, b, p, f⟩ = Td.no := by simp [Pd.told, n0, n1, n2, n3, n4, n5, n6, n9, n10]
  have hst : P.step ⟨k, i, a, b, p, f⟩ = P := by simp [Pd.step, n0, n1, n2, n3, n7, n8]
  have HT := Lib.hid (And.intro ht hst)
  obtain ⟨xz, k2, k3⟩ := call_pre w #[.int .i64 k, .int .i64 i, .int .i64 a, .int .i64 b, .slice C m c, .slice A n d]
  have HX := Lib.hid xz
  have HD := Lib.hid h
  have HK := Lib.hid k2
  clear k2 k3 xz ht hst
  go_enter Try.func16, Try.ntmps16
  go_wp2_with fail
  refine bodyPost_ret (results_row1 rfl _ _ (w.heap.size + 1) 36 _ (0, 0) _ rfl HK.out Try.underlying36 rfl (by kernel_rfl)) rfl ?_
  refine ⟨_, rfl, ?_, ?_⟩
  · rw [HT.out.1]
    exact ⟨none, 0, 0, none, 0, 0, rfl, Bytes.empty _ _, SpAt.nil _ _⟩
  · rw [HT.out.2]
    exact DTo.same (HD.out.mono hk) HX.out
end Go.Proofs.Ytodaplkijdjbpaa
